/-
  Peaks: the program's words.
-/
import Derived.Test.YtcmdmecmgoabaaaPeaks4
namespace Go.Proofs.Ytcmdmecmgoabaaa
open Go.RowKit Go.Shelf
attribute [local go_sem] order_cl cl_zero cl_one cl_two aord_none

/-- The closure of PeaksOf: is a place lower? -/
theorem lowerC (p q : Nat) (wide high : Int) (a : Option Addr) (cap : Nat) (zs : List Nat) (z i : Nat) (w : World) (hl : Lies w p wide high a zs.length cap zs) (hq : q < w.heap.size) (hc : w.cell? ⟨q, 0, none⟩ = some (.float .f32 z)) (hz : zs.getD i 0 = z) :
    PredI 82 #[.pointer (some ⟨p, 0, none⟩), .pointer (some ⟨q, 0, none⟩)] (fun x => 0 ≤ x ∧ x < (zs.length : Int)) (lower zs i) w := fun W x hx hb => by
  have hcW : W.cell? ⟨q, 0, none⟩ = some (.float .f32 z) := (hb.cell (p := ⟨q, 0, none⟩) hq).trans hc
  have hlW := hl.next hb
  obtain ⟨c0, c1, c2⟩ := hlW.at'
  obtain ⟨X, rfl⟩ : ∃ X : Nat, x = (X : Int) := ⟨x.toNat, by omega⟩
  have hX : X < zs.length := by omega
  obtain ⟨b, off, y, rfl, hbb, hck, hzz⟩ := hlW.fl.get hX
  have e : lower zs i (X : Int) = ltB (cl .f32 y) (cl .f32 z) := by
    unfold lower
    rw [gt_lt, hz, ← hzz.out]
    simp
  rw [e]
  have hm := hlW.fl.max
  show Calls Try.prog 82 #[.int .i64 (X : Int), .pointer (some ⟨p, 0, none⟩), .pointer (some ⟨q, 0, none⟩)] W _
  cases hg : ltB (cl .f32 y) (cl .f32 z)
  all_goals
    have hg' : (aord .f32 (cl .f32 y) (cl .f32 z) == some .lt) = _ := hg
    go_enter Try.func82, Try.ntmps82
    go_wp2
    go_quiet (fail)
    go_wp2
    go_ret
    exact ⟨rfl, below_drewN (Below.refl _ _) _⟩

set_option maxRecDepth 8000 in
set_option maxHeartbeats 4000000 in
theorem implPeaksOf (wide high : Int) (a : Option Addr) (len cap : Nat) (zs : List Nat) (w : World) (h : FlS w a len zs) :
    Calls Try.prog 38 #[GV wide high a len cap] w (NewI (outP wide high zs) (validB wide high zs) w) := by
  have hb : ∀ o, Below w.heap.size w (w.alloc o) := fun o => (Below.refl _ _).alloc (Nat.le_refl _) _
  have L0 := Lies.new (wk := w) (wide := wide) (high := high) (cap := cap) 33 h
  have call := implValidGrid wide high a len cap zs _ L0.fl
  unfold GV at call
  unfold GV
  cases hv : validB wide high zs with
  | false =>
    have e : outP wide high zs = [] := by unfold outP; rw [hv]; rfl
    rw [e]
    rw [hv] at call
    go_enter Try.func38, Try.ntmps38
    go_wp2_with (go_at_call 20; refine call.mono ?_; rintro e w' ⟨rfl, hb1⟩)
    exact bodyPost_ret (by simp [results, Try.results38, go_sem]) rfl ⟨none, 0, rfl, MineV.nil _ _ _, (hb _).trans (hb1.mono (by simp))⟩
  | true =>
    have e : outP wide high zs = peaksTo wide high zs zs.length := by unfold outP; rw [hv]; rfl
    rw [e]
    rw [hv] at call
    obtain ⟨hs, hn, _⟩ := valid_parts' hv
    obtain ⟨hw, hh⟩ := sides_parts hs
    obtain ⟨hm1, hm2⟩ := sides_mul hs
    have hlen := h.len
    subst hlen
    rw [← hn] at hm1 hm2
    obtain ⟨i0, hi0, hz0, hz1, hz2⟩ := info_parts infoI
    go_enter Try.func38, Try.ntmps38
    go_wp2_with fail
    refine call.mono ?_
    rintro e w1 ⟨rfl, hb1⟩
    have L1 := L0.next hb1
    have hbw : Below w.heap.size w w1 := (hb _).trans (hb1.mono (by simp))
    clear call L0 hb hb1
    have hpl := L1.lt
    obtain ⟨c0, c1, c2⟩ := L1.at'
    go_wp2
    go_loopw [4, 5, 6, 13] (fun V _ _ s wr => ∃ k : Nat, k ≤ zs.length ∧ s = .int .i64 (k : Int) ∧ wr.ownsRow w1.heap.size 2 1 V (peaksTo wide high zs k).length (ints (peaksTo wide high zs k)) ∧ Below w1.heap.size w1 wr) (fun _ _ _ s _ => zs.length - (intOf s).toNat)
    case atStart => exact ⟨0, Nat.zero_le _, rfl, World.ownsRow_nil _ _ _ _, Below.refl _ _⟩
    case round =>
      obtain ⟨k, hk, rfl, hrow, hb⟩ := hrel
      generalize u4 = V at *
      generalize wr = wi at *
      clear c0 c1 c2
      have hLi := L1.next hb
      obtain ⟨d0, d1, d2⟩ := hLi.at'
      have hlti := hLi.lt
      by_cases hlt : k < zs.length
      · obtain ⟨hxb, hyb⟩ := place_of hw hn.symm hlt
        obtain ⟨b, off, z, rfl, hbb, hck, hzz⟩ := hLi.fl.get hlt
        have q1 : w.heap.size ≠ wi.heap.size := by omega
        have q2 : wi.heap.size ≠ w.heap.size := by omega
        have hba : Below wi.heap.size wi (wi.alloc (.cells #[.float .f32 z] 22)) := (Below.refl _ _).alloc (Nat.le_refl _) _
        have cA := neighbours wide high _ _ (some ⟨b, off, none⟩) zs.length cap k (wi.alloc (.cells #[.float .f32 z] 22)) hw hh (by omega) rfl rfl hxb hyb
        unfold GV at cA
        go_wp2_with fail
        refine cA.mono ?_
        intro e w3 he
        obtain ⟨aL, L, cL, he, hL, hmem, hb3⟩ := he
        subst he
        have hpk := Lib.hid (all_peak (zs := zs) hmem)
        have hbd : ∀ j, j < L.length → 0 ≤ L.getD j 0 ∧ L.getD j 0 < (zs.length : Int) := fun j hj => by
          rw [getD_at hj, hn]
          exact nb_lt hw ((hmem _).1 (List.getElem_mem hj))
        have hb3' := hba.trans (hb3.mono hba.size)
        have hB3 := hb.trans (hb3'.mono hb.size)
        have hrow3 : w3.ownsRow w1.heap.size 2 1 V (peaksTo wide high zs k).length (ints (peaksTo wide high zs k)) := hrow.kept (grown_of_below' hb3') (by cases V.ownBlock <;> simp)
        have hq3 : wi.heap.size < w3.heap.size := Nat.lt_of_lt_of_le (by simp) hb3.size
        have hc3 : w3.cell? ⟨wi.heap.size, 0, none⟩ = some (.float .f32 z) := (hb3.cell (p := ⟨wi.heap.size, 0, none⟩) (by simp)).trans (by simp)
        have cB := areAllI 82 _ _ _ (enters_of Try.func82 (by kernel_rfl) rfl) aL L.length cL L w3 hL (lowerC w.heap.size wi.heap.size wide high _ cap zs z k w3 (L1.next hB3) hq3 hc3 hzz.out) hbd
        rw [hpk.out] at cB
        have hpl2 := peaksTo_len wide high zs k
        clear hmem hrow hb hb3 d0 d1 d2 cA hck hpk hbd hba hb3' q1 q2 hc3
        cases hpk' : peakB wide high zs k with
        | false =>
          have e := peaksTo_no hpk'
          rw [hpk'] at cB
          go_wp2_with (go_at_call 80; refine cB.mono ?_; rintro e w4 ⟨rfl, hb4⟩)
          go_roundw
          case rel => exact ⟨k + 1, by omega, by go_num, by rw [e]; exact hrow3.kept (grown_of_below' hb4) (by cases V.ownBlock <;> simp), hB3.trans (hb4.mono hB3.size)⟩
          case measure => simp [intOf]; omega
        | true =>
          have e := Lib.hid (peaksTo_yes hpk')
          rw [hpk'] at cB
          generalize peaksTo wide high zs k = us at *
          go_wp2_with (first | (go_at_call 80; refine cB.mono ?_; rintro e w4 ⟨rfl, hb4⟩; have hrow4 : w4.ownsRow w1.heap.size 2 1 V us.length (ints us) := hrow3.kept (grown_of_below' hb4) (by cases V.ownBlock <;> simp); have hB4 := hB3.trans (hb4.mono hB3.size); have hBd := hB4.size) | (at_builtin; refine wpList_append_lies _ rfl (.tmp 23) (.tmp 25) 52 rfl w1.heap.size 2 i0 (.int .i64 0) 1 8 Try.underlying52 hi0 hz0 hz1 hz2 rfl (by decide) V us.length (ints us) rfl (hrow4.alloc _) ⟨w4.heap.size, 0, none⟩ 1 1 [.int .i64 (k : Int)] rfl rfl (World.news_of_block (heap_alloc_new _ _)) (ints_one _) (by omega) (by unfold maxLen; omega) (by omega) (by simp; omega) (w4.heap.size + 1) (by simp) ?_; intro q cq w5 hown hgrow hat hlt2))
          go_roundw
          case rel =>
            refine ⟨k + 1, by omega, by go_num, ?_, (hB4.alloc hBd _).grown hgrow (by simp; omega) fun k hk => (hrow4.lt k hk).1⟩
            rw [e.out]
            simpa [ints] using hown
          case measure => simp [intOf]; omega
      · obtain rfl : k = zs.length := by omega
        have hpl2 := peaksTo_len wide high zs zs.length
        obtain ⟨ar, cr, rfl, hM⟩ := row_mineI hrow (by omega)
        go_wp2
        exact bodyPost_ret (by simp [results, Try.results38, go_sem]) rfl ⟨ar, cr, rfl, hM.mono hbw.size, hbw.trans (hb.mono hbw.size)⟩
end Go.Proofs.Ytcmdmecmgoabaaa
