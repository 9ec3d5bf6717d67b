/-
  The miss shared out: the program's words.
-/
import Derived.Test.YtikdagkopalojaaShare
import Derived.Deep.RegionWith
import Derived.Lib.BufferMore
namespace Go.Proofs.Ytikdagkopalojaa
open Go.RowKit Go.Shelf

theorem cloneR (b off len cap : Nat) (rs : List Rise) (w : World) (h : RiS w (some ⟨b, off, none⟩) len rs) (hpos : 1 ≤ len) :
    Calls Try.prog 63 #[.slice (some ⟨b, off, none⟩) len cap] w (fun e w' => ∃ g c rest, e = .returned (.slice (some ⟨g, 0, none⟩) len c) ∧ w.heap.size ≤ g ∧ Own 59 w' g (cellsR rs ++ rest) ∧ Below w.heap.size w w') := by
  have hl := h.size
  have hm := h.max
  obtain ⟨i0, hi, hz0, hz1, hz2⟩ := info_parts infoR
  have hcells : ∀ j u, (cellsR rs)[j]? = some u → (w.alloc (.cells #[] 59)).cell? ((⟨b, off, none⟩ : Addr).add j) = some u := fun j u hj => (h.below ((Below.refl _ _).alloc (Nat.le_refl _) _)).cells hj
  have hrow := row_empty w w.heap.size 59 (Nat.le_refl _)
  have hnil : ∀ W, (binOp .eql 25 (.slice (some ⟨b, off, none⟩) len cap) (.slice none 0 0)).run Try.prog W = .ok (.bool false) W := fun W => Lib.run_eql_slice_some_nil W _ _ _ Try.underlying25
  go_enter Try.func63, Try.ntmps63
  go_wp2_with (at_builtin; refine wpList_append_own _ rfl (.tmp 5) (.tmp 6) 25 rfl w.heap.size 59 i0 _ 4 32 Try.underlying25 hi hz0 hz1 hz2 rfl (by decide) (.slice (some ⟨w.heap.size, 0, none⟩) 0 0) 0 [] rfl hrow ⟨b, off, none⟩ len cap (cellsR rs) rfl (by rw [cellsR_len, hl]) hcells cellsR_one (by unfold maxLen; omega) (by omega) (by simp) ?_; intro v' w1 hown hgrow hiff; obtain ⟨g, c, rest, rfl, hg, ho, hb1⟩ := app_done (Below.refl _ w) hown hgrow hiff)
  go_ret
  exact ⟨g, c, rest, rfl, hg, ho, hb1⟩

theorem implShareMiss (a : Option Addr) (len cap : Nat) (rs : List Rise) (w : World) (h : RiS w a len rs) :
    Calls Try.prog 35 #[.slice a len cap] w (NewRs (outR rs) (ringB rs) w) := by
  have call := implRiseMiss a len cap rs w h
  have hl := h.size
  have hm := h.max
  unfold RetM missI at call
  cases hv : ringB rs with
  | false =>
    rw [hv] at call
    go_enter Try.func35, Try.ntmps35
    go_wp2_with (go_at_call 28; refine call.mono ?_; rintro e w' ⟨rfl, hb⟩; have := NewRs.no hv hb)
    rw [hv] at this
    exact bodyPost_ret (by simp [results, Try.results35, go_sem]) rfl this
  | true =>
    rw [hv, if_pos rfl] at call
    have hr : risesB rs 32 = true := by unfold ringB at hv; simp only [Bool.and_eq_true] at hv; exact hv.1.2
    have hpos := ring_pos hv
    obtain ⟨b0, off0, _, rfl, hbb0, _, _⟩ := h.get (k := 0) (by omega)
    have hlen := len_of hr
    go_enter Try.func35, Try.ntmps35
    go_wp2_with fail
    refine call.mono ?_
    rintro e w0 ⟨rfl, hbw⟩
    have hw := h.below hbw
    go_wp2
    go_loopw [6, 9, 23] (fun s _ i wr => ∃ k : Nat, k ≤ len ∧ i = .int .i64 k ∧ s = .int .i64 (longTo rs k) ∧ Below w.heap.size w wr) (fun _ _ i _ => len - (intOf i).toNat)
    case atStart => exact ⟨0, Nat.zero_le _, rfl, rfl, hbw⟩
    case round =>
      obtain ⟨k, hk, rfl, rfl, hb⟩ := hrel
      clear hw hbw
      by_cases hlt : k < len
      · obtain ⟨r, hbb, hck, hzz⟩ := h.nth hlt
        obtain ⟨c0, c1, c2, c3⟩ := hck.below hb hbb
        have sf := (share_facts hr (j := k) (by omega) (r := r) hzz.out).1
        go_wp2
        go_roundw
        case rel => exact ⟨k + 1, by omega, by go_num, rfl, hb.alloc hb.size _⟩
        case measure => simp [intOf]; omega
      · obtain rfl : k = len := by omega
        have hw := h.below hb
        go_wp2_with fail
        refine (cloneR _ _ _ _ _ _ hw (by omega)).mono ?_
        rintro e w1 ⟨g, c, rest, rfl, hg, ho, hb1'⟩
        have hg := Nat.le_trans hb.size hg
        have hb1 := hb.trans (hb1'.mono hb.size)
        clear hb1' hb hw
        go_wp2
        go_loopw [7, 11, 12, 13, 36] (fun s _ _ _ i wr => ∃ j : Nat, j ≤ k ∧ i = .int .i64 j ∧ s = .int .i64 (longTo rs j) ∧ Own 59 wr g (cellsR (turnR rs (shareR rs) j) ++ rest) ∧ Below w.heap.size w wr) (fun _ _ _ _ i _ => k - (intOf i).toNat)
        case atStart => exact ⟨0, Nat.zero_le _, rfl, by simp [longTo], by rw [turnR_zero]; exact ho, hb1⟩
        case round =>
          obtain ⟨j, hj, rfl, rfl, ho', hb'⟩ := hrel
          clear ho hb1
          by_cases hlt : j < k
          · have lr := long_range hr hpos
            obtain ⟨r, hbb, hck, hzz⟩ := h.nth hlt
            obtain ⟨i0, i1, i2, i3⟩ := hck.below hb' hbb
            have c2 : wr.cell? ⟨g, j * 4 + 2, none⟩ = some (.int .i64 (rs.getD j default).s) := ho'.at (turnR_at rest (by omega) (shareR_len rs) (j := 2) (by omega))
            rw [hzz.out] at c2
            have f2 := ho'.free (j * 4 + 2)
            have hgl := ho'.lt
            have hne : g ≠ wr.heap.size := by omega
            have hne' : wr.heap.size ≠ g := by omega
            have sf := share_facts hr (j := j) (by omega) hzz.out
            have ts := Lib.hid (turn_s (rs := rs) (k := j) rest (by omega) hzz.out)
            obtain ⟨w1', w2, a1, w3, w4, w5, a0⟩ := sf
            rw [hl] at w2 a1 lr w5 a0
            have cf1 := fun W => floorDiv _ _ a1 lr W
            have cf0 := fun W => floorDiv _ _ a0 lr W
            have hdue1 : flo (sumTo rs k * longTo rs (j + 1)) (longTo rs k) = dueTo rs (j + 1) := by unfold dueTo; rw [hl]
            have hdue0 : flo (sumTo rs k * longTo rs j) (longTo rs k) = dueTo rs j := by unfold dueTo; rw [hl]
            rw [hdue1] at cf1
            rw [hdue0] at cf0
            clear hdue1 hdue0 a1 a0 lr
            go_wp2_with (go_at_call 64; refine (cf0 _).mono ?_; rintro e w' ⟨rfl, rfl⟩)
            go_region_with ((go_at_call 64; refine (cf1 _).mono ?_; rintro e w' ⟨rfl, rfl⟩))
            all_goals
              go_wp2
              go_roundw
              case rel => exact ⟨j + 1, by omega, by go_num, rfl, by rw [← ts.out]; exact Own.alloc (ho'.set _ _) _, below_drewN ((hb'.setCell hg _).alloc (by simp; exact hb'.size) _) 1⟩
              case measure => simp [intOf]; omega
          · go_wp2
            obtain rfl : j = k := by omega
            rw [← hl] at ho'
            have := NewRs.yes (c := c) hv (by omega) hg ho' hb'
            rw [hl, hv] at this
            exact bodyPost_ret (by simp [results, Try.results35, go_sem]) rfl this
end Go.Proofs.Ytikdagkopalojaa
