/-
  A flat grid: told twice; and a grid that is made by a function of its places.
-/
import Derived.Test.YtcmdmecmgoabaaaFlat
import Derived.Deep.RegionHeld3
namespace Go.Proofs.Ytcmdmecmgoabaaa
open Go.RowKit Go.Shelf

theorem grow_start {w w0 : World} (hb : Below w.heap.size w w0) (wide high : Int) :
    GrowG w ((w0.alloc (.cells #[.int .i64 0, .int .i64 0, .slice none 0 0] 33)).alloc (.cells #[.int .i64 wide, .int .i64 high, .slice none 0 0] 33)) w0.heap.size (w0.heap.size + 1) wide high 0 [] (.slice none 0 0) := by
  have o1 := (Own.new w0 [.int .i64 0, .int .i64 0, .slice none 0 0] 33).alloc (.cells #[.int .i64 wide, .int .i64 high, .slice none 0 0] 33)
  have o2 := Own.new (w0.alloc (.cells #[.int .i64 0, .int .i64 0, .slice none 0 0] 33)) [.int .i64 wide, .int .i64 high, .slice none 0 0] 33
  simp only [World.size_alloc] at o2
  exact ⟨World.ownsRow_nil _ _ _ _, o1, o2, by simp [Value.ownBlock], Nat.lt_succ_self _, hb.size, (hb.alloc hb.size _).alloc (by have := hb.size; simp; omega) _⟩

theorem fls_rep (k : Nat) (x : Nat) : List.replicate k x ++ [x] = List.replicate (k + 1) x := by
  rw [List.replicate_succ']

set_option maxRecDepth 8000 in
set_option maxHeartbeats 2000000 in
theorem specFlatGrid (wide high : Int) (x : Nat) (w : World) :
    Calls Try.prog 26 #[.int .i64 wide, .int .i64 high, .float .f32 x] w (NewG wide high (List.replicate (wide * high).toNat x) (validB wide high (List.replicate (wide * high).toNat x)) w) := by
  have cs := l06Sides wide high
  cases hs : sidesB wide high with
  | false =>
    have hv : validB wide high (List.replicate (wide * high).toNat x) = false := by unfold validB; rw [hs]; rfl
    rw [hs] at cs
    rw [hv]
    go_enter Try.func26, Try.ntmps26
    go_wp2_with (go_at_call 65; refine (cs _).mono ?_; rintro e w' ⟨rfl, rfl⟩)
    refine bodyPost_ret (v := .tuple #[.agg #[.int .i64 0, .int .i64 0, .slice none 0 0], .bool false]) (by simp [results, Try.results26, go_sem]) rfl (NewG.no ?_)
    exact (Below.refl _ _).alloc (Nat.le_refl _) _
  | true =>
    rw [hs] at cs
    obtain ⟨hm1, hm2⟩ := sides_mul hs
    obtain ⟨n, hn⟩ : ∃ n : Nat, wide * high = n := ⟨(wide * high).toNat, by omega⟩
    have hw : IntKind.i64.wrap (wide * high) = n := by rw [hn]; exact IntWalk.i64_in _ (by omega)
    rw [hn, Int.toNat_natCast]
    rw [hn] at hm1 hm2
    obtain ⟨i0, hi, hz0, hz1, hz2⟩ := info_parts infoF
    have gs := grow_start (Below.refl w.heap.size w) wide high
    go_enter Try.func26, Try.ntmps26
    go_wp2_with (go_at_call 65; refine (cs _).mono ?_; rintro e w' ⟨rfl, rfl⟩)
    have hG : w.heap.size < w.heap.size + 1 := Nat.lt_succ_self _
    generalize ((w.alloc (.cells #[.int .i64 0, .int .i64 0, .slice none 0 0] 33)).alloc (.cells #[.int .i64 wide, .int .i64 high, .slice none 0 0] 33)) = w0 at *
    generalize hp : w.heap.size + 1 = p at gs ⊢
    clear hG hp
    go_loopw [9] (fun i wr => ∃ (k : Nat) (v : Value), k ≤ n ∧ i = .int .i64 ((n : Int) - k) ∧ GrowG w wr w.heap.size p wide high k (List.replicate k x) v) (fun i _ => (intOf i).toNat)
    case atStart => exact ⟨0, _, Nat.zero_le _, by simp, gs⟩
    case round =>
      obtain ⟨k, v, hk, rfl, hg⟩ := hrel
      clear gs
      by_cases hlt : k < n
      · have c2 := hg.box.at (k := 2) rfl
        have f2 := hg.box.free 2
        have hB := hg.below.size
        have hrow := hg.row
        have hpl := hg.box.lt
        have hpn : some p ≠ v.ownBlock := fun e => absurd (hg.far p e.symm) (Nat.lt_irrefl _)
        have hq1 : p ≠ wr.heap.size := by omega
        have hq2 : wr.heap.size ≠ p := by omega
        go_wp2_with (at_builtin; refine wpList_append_lies _ rfl (.tmp 26) (.tmp 28) 28 rfl w.heap.size 22 i0 (.float .f32 0) 1 4 Try.underlying28 hi hz0 hz1 hz2 rfl (by decide) v k (fls (List.replicate k x)) rfl (hrow.alloc _) ⟨wr.heap.size, 0, none⟩ 1 1 [.float .f32 x] rfl rfl (World.news_of_block (heap_alloc_new _ _)) (by simp [Value.oneCell']) (by omega) (by unfold maxLen; omega) (by omega) (by simp; omega) (wr.heap.size + 1) (by simp) ?_; intro g cap w1 hown hgrow hat hlt'; have o1 := (hg.box.alloc _).grown hgrow hpn; have d2 := o1.at (k := 2) rfl; have e2 := o1.free 2)
        go_roundw
        case rel => exact ⟨k + 1, _, by omega, by go_num, by rw [← fls_rep]; exact hg.step hgrow hown rfl hat⟩
        case measure => simp [intOf]; omega
      · obtain rfl : k = n := by omega
        obtain ⟨a, cap, rfl, hM⟩ := hg.form (by omega)
        have c0 := hg.box.at (k := 0) rfl
        have c1 := hg.box.at (k := 1) rfl
        have c2 := hg.box.at (k := 2) rfl
        have r0 := hg.res.at (k := 0) rfl
        have r1 := hg.res.at (k := 1) rfl
        have r2 := hg.res.at (k := 2) rfl
        have f0 := hg.res.free 0
        have f1 := hg.res.free 1
        have f2 := hg.res.free 2
        have call := l06Give wide high a k cap _ _ hM.fls
        have hne : ∀ g, a = some ⟨g, 0, none⟩ → g ≠ w.heap.size := fun g e => by
          subst e
          have := hg.far g rfl
          have := hg.rp
          omega
        have hrb := hg.base
        generalize validB wide high (List.replicate k x) = ok at *
        unfold giveV GV at call
        cases ok
        all_goals
          go_wp2_with (go_at_call 66; refine call.mono ?_; rintro e w2 ⟨rfl, hb2⟩; have hg2 := hg.next hb2; have s0 := hg2.res.at (k := 0) rfl; have s1 := hg2.res.at (k := 1) rfl; have s2 := hg2.res.at (k := 2) rfl; have g0 := hg2.res.free 0; have g1 := hg2.res.free 1; have g2 := hg2.res.free 2)
        · refine bodyPost_ret (v := .tuple #[.agg #[.int .i64 0, .int .i64 0, .slice none 0 0], .bool false]) (by simp [results, Try.results26, go_sem, s0, s1, s2]) rfl (NewG.no ?_)
          exact ((hg2.below.setCell hrb _).setCell hrb _).setCell hrb _
        · refine bodyPost_ret (v := .tuple #[.agg #[.int .i64 wide, .int .i64 high, .slice a k cap], .bool true]) (by simp [results, Try.results26, go_sem, s0, s1, s2]) rfl (NewG.yes ?_ ?_)
          · exact (((hM.below hb2).setFar hne _).setFar hne _).setFar hne _
          · exact ((hg2.below.setCell hrb _).setCell hrb _).setCell hrb _
end Go.Proofs.Ytcmdmecmgoabaaa
