/-
  The first list of few colours: the specification's words.
-/
import Derived.Test.YtpebibhnaopbnaaGrow
namespace Go.Proofs.Ytpebibhnaopbnaa
open Go.RowKit

set_option maxRecDepth 8000 in
set_option maxHeartbeats 4000000 in
theorem specFew (n : Int) (a : Option Addr) (len cap : Nat) (ps : List Int) (most : Int) (w : World) (h : InS w a len ps) (hbl : ∀ g, w.heap.size ≤ g → Away g a) :
    Calls Try.prog 6 #[.int .i64 n, .slice a len cap, .int .i64 most] w (NewL (few n ps most) w) := by
  have c1 := inS n 1 16
  have c3 := inS most 1 4
  have hl := Lib.hid h.size
  cases hb1 : inB n 1 16 with
  | false =>
    rw [hb1] at c1
    rw [few_no (.inl hb1)]
    go_enter Try.func6, Try.ntmps6
    go_wp2_with (go_at_call 16; refine (c1 _).mono ?_; rintro e w' ⟨rfl, rfl⟩)
    exact bodyPost_ret (by simp [results, Try.results6, go_sem]) rfl (NewL.no (Below.refl _ _))
  | true =>
    have hn : 1 ≤ n ∧ n ≤ 16 := of_decide_eq_true hb1
    have c2 := l04Pairs n (by omega) a len cap ps w h
    rw [hb1] at c1
    cases hb2 : pairsB n ps with
    | false =>
      rw [hb2] at c2
      rw [few_no (.inr (.inr hb2))]
      go_enter Try.func6, Try.ntmps6
      go_wp2_with (first | (go_at_call 16; refine (c1 _).mono ?_; rintro e w' ⟨rfl, rfl⟩) | (go_at_call 17; refine c2.mono ?_; rintro e w' ⟨rfl, d, rfl⟩))
      exact bodyPost_ret (by simp [results, Try.results6, go_sem]) rfl (NewL.no (below_drewN (Below.refl _ _) _))
    | true =>
      rw [hb2] at c2
      cases hb3 : inB most 1 4 with
      | false =>
        rw [hb3] at c3
        rw [few_no (.inr (.inl hb3))]
        go_enter Try.func6, Try.ntmps6
        go_wp2_with (first | (go_at_call 16; (with_reducible refine (c1 _).mono ?_); rintro e w' ⟨rfl, rfl⟩) | (go_at_call 16; (with_reducible refine (c3 _).mono ?_); rintro e w' ⟨rfl, rfl⟩) | (go_at_call 17; refine c2.mono ?_; rintro e w' ⟨rfl, d, rfl⟩))
        exact bodyPost_ret (by simp [results, Try.results6, go_sem]) rfl (NewL.no (below_drewN (Below.refl _ _) _))
      | true =>
        have hm : 1 ≤ most ∧ most ≤ 4 := of_decide_eq_true hb3
        rw [hb3] at c3
        have hfew : few n ps most = first ps most.toNat n.toNat 0 (bare n.toNat) := by unfold few; rw [hb1, hb2, hb3]; rfl
        rw [hfew]
        obtain ⟨N, rfl⟩ : ∃ N : Nat, n = (N : Int) := ⟨n.toNat, by omega⟩
        obtain ⟨M, rfl⟩ : ∃ M : Nat, most = (M : Int) := ⟨most.toNat, by omega⟩
        simp only [Int.toNat_natCast]
        clear hfew hb1 hb3
        obtain ⟨i0, hi, hz0, hz1, hz2⟩ := info_parts infoI
        go_enter Try.func6, Try.ntmps6
        go_wp2_with (first | (go_at_call 16; (with_reducible refine (c1 _).mono ?_); rintro e w' ⟨rfl, rfl⟩) | (go_at_call 16; (with_reducible refine (c3 _).mono ?_); rintro e w' ⟨rfl, rfl⟩) | (go_at_call 17; refine c2.mono ?_; rintro e w' ⟨rfl, d, rfl⟩; have h0 := h.drewN d; have hb0 := below_drewN (Below.refl w.heap.size w) d; have hs0 : (w.drewN d).heap.size = w.heap.size := rfl; generalize w.drewN d = w0 at *))
        have hrow0 := row_emptyI w0 w.heap.size 2 (by omega)
        have hb1 := hb0.alloc (by omega) (.cells #[] 2)
        generalize w0.alloc (.cells #[] 2) = w1 at *
        go_loopw [8, 9] (fun v i wr => ∃ k : Nat, k ≤ N ∧ i = .int .i64 (k : Int) ∧ wr.ownsRow w.heap.size 2 1 v k (ints (bare k)) ∧ Below w.heap.size w wr) (fun _ i _ => N - (intOf i).toNat)
        case atStart => exact ⟨0, Nat.zero_le _, rfl, hs0 ▸ hrow0, hb1⟩
        case round =>
          obtain ⟨k, hk, rfl, hrow, hb⟩ := hrel
          clear hrow0 hb1
          have hB := hb.size
          by_cases hlt : k < N
          · go_wp2_with (at_builtin; refine wpList_append_lies _ rfl (.tmp 30) (.tmp 31) 22 rfl w.heap.size 2 i0 (.int .i64 0) 1 8 Try.underlying22 hi hz0 hz1 hz2 rfl (by decide) _ k (ints (bare k)) rfl (hrow.alloc _) ⟨wr.heap.size, 0, none⟩ 1 1 [.int .i64 (-1)] rfl rfl (World.news_of_block (heap_alloc_new _ _)) (ints_one _) (by omega) (by unfold maxLen; omega) (by omega) (by simp; omega) (wr.heap.size + 1) (by simp) ?_; intro q cq w5 hown hgrow hat hlt2)
            go_roundw
            case rel =>
              refine ⟨k + 1, by omega, by go_num, ?_, (hb.alloc hB _).grown hgrow (by simp; omega) fun k hk => (hrow.lt k hk).1⟩
              rw [bare_succ, ints_app]
              exact hown
            case measure => simp [intOf]; omega
          · obtain rfl : k = N := by omega
            obtain ⟨g, cg, rest, rfl, hg, ho⟩ := row_ownI hrow (by omega)
            have hcall := l04Fill k (by omega) M (by omega) ps hb2 g cg rest a len cap (hbl g hg) k 0 (bare k) wr (bare_len k) (by rw [bare_len]; omega) (bare_bare k) ho (h.below hb)
            unfold Filled at hcall
            rcases Option.eq_none_or_eq_some (first ps M k 0 (bare k)) with hr | ⟨c, hr⟩
            · rw [hr] at hcall
              have hr := Lib.hid hr
              go_wp2_with (go_at_call 18; refine hcall.mono ?_; rintro e w6 ⟨rfl, ho6, hg6⟩)
              refine bodyPost_ret (v := .tuple #[.slice none 0 0, .bool false]) (by simp [results, Try.results6, go_sem]) rfl ?_
              rw [hr.out]
              exact NewL.no (hb.trans (alt_below hg6 hg hB))
            · rw [hr] at hcall
              have hcl := first_len k hr
              have hr := Lib.hid hr
              rw [bare_len] at hcl
              go_wp2_with (go_at_call 18; refine hcall.mono ?_; rintro e w6 ⟨rfl, ho6, hg6⟩)
              refine bodyPost_ret (v := .tuple #[.slice (some ⟨g, 0, none⟩) k cg, .bool true]) (by simp [results, Try.results6, go_sem]) rfl ?_
              rw [hr.out]
              refine ⟨some ⟨g, 0, none⟩, cg, ?_, ⟨by simp [ints], by simp; omega, .inr ⟨g, rest, rfl, hg, ho6⟩⟩, hb.trans (alt_below hg6 hg hB)⟩
              simp [hcl]
end Go.Proofs.Ytpebibhnaopbnaa
