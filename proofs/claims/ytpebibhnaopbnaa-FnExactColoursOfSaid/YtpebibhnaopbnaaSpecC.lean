/-
  Colours for things: the specification's words.
-/
import Derived.Test.YtpebibhnaopbnaaColI
namespace Go.Proofs.Ytpebibhnaopbnaa
open Go.RowKit Go.Shelf

/-! ### How often a thing is named -/
def cntL (N : Nat) (ps : List Int) (k : Nat) : List Int := (List.range N).map fun x : Nat => (((ps.take k).count (x : Int) : Nat) : Int)
theorem cntL_len (N : Nat) (ps : List Int) (k : Nat) : (cntL N ps k).length = N := by simp [cntL]
theorem cntL_get {N : Nat} {ps : List Int} {k x : Nat} (h : x < N) : (cntL N ps k).getD x 0 = ((ps.take k).count (x : Int) : Int) := by simp [cntL, List.getD_eq_getElem?_getD, h]
theorem cntL_zero (N : Nat) (ps : List Int) : cntL N ps 0 = List.replicate N 0 := by
  unfold cntL
  rw [show (fun x : Nat => (((ps.take 0).count (x : Int) : Nat) : Int)) = fun _ => (0 : Int) from by funext x; simp]
  rw [List.map_const', List.length_range]
theorem cntL_succ {N : Nat} {ps : List Int} {k x : Nat} (hk : k < ps.length) (hx : ps.getD k 0 = (x : Int)) (hxn : x < N) : (cntL N ps k).set x (((ps.take k).count (x : Int) : Int) + 1) = cntL N ps (k + 1) := by
  rw [getD_at hk] at hx
  refine List.ext_getElem? fun j => ?_
  by_cases e : x = j
  · subst e
    rw [List.getElem?_set_self (by rw [cntL_len]; exact hxn)]
    simp [cntL, hxn, List.take_succ_eq_append_getElem hk, List.count_append, hx]
  · rw [List.getElem?_set_ne e]
    by_cases hj : j < N
    · have : ¬ ((x : Int) = (j : Int)) := by omega
      simp [cntL, hj, List.take_succ_eq_append_getElem hk, List.count_append, hx, this]
    · simp [cntL, hj]
theorem cnt_nb {n : Int} {ps : List Int} (hp : pairsB n ps = true) (x : Int) {j : Nat} (hj : j ≤ ps.length / 2) : (ps.take (2 * j)).count x = (nbTo ps j x).length := by
  induction j with
  | zero => simp [nbTo_zero]
  | succ j ih =>
    have h1 : 2 * j < ps.length := by omega
    have h2 : 2 * j + 1 < ps.length := by omega
    rw [show 2 * (j + 1) = 2 * j + 1 + 1 by omega, List.take_succ_eq_append_getElem h2, List.take_succ_eq_append_getElem h1, List.count_append, List.count_append, ih (by omega), nbTo_succ, List.length_append]
    obtain ⟨_, _, hne⟩ := pairs_at hp (j := j) (by omega)
    have ea : pA ps j = ps[2 * j] := by unfold pA; exact getD_at h1
    have eb : pB ps j = ps[2 * j + 1] := by unfold pB; exact getD_at h2
    have hne : ps[2 * j] ≠ ps[2 * j + 1] := by rw [← ea, ← eb]; exact hne
    unfold hitOf
    rw [ea, eb]
    by_cases c1 : ps[2 * j] = x
    · have c2 : ¬ ps[2 * j + 1] = x := fun e => hne (c1.trans e.symm)
      rw [if_pos c1]
      simp [c1, c2]
    · rw [if_neg c1]
      by_cases c2 : ps[2 * j + 1] = x
      · rw [if_pos c2]; simp [c1, c2]
      · rw [if_neg c2]; simp [c1, c2]
theorem cnt_dgr {n : Int} {ps : List Int} (hp : pairsB n ps = true) (x : Nat) : (ps.take ps.length).count (x : Int) = dgr ps x := by
  have h := cnt_nb hp (x : Int) (j := ps.length / 2) (Nat.le_refl _)
  have h2 := (pairs_len hp).2
  rw [show 2 * (ps.length / 2) = ps.length by omega] at h
  rw [h]
  rfl
def degL (N : Nat) (ps : List Int) : List Int := (List.range N).map fun x : Nat => ((dgr ps x : Nat) : Int)
theorem degL_get {N : Nat} {ps : List Int} {x : Nat} (h : x < N) : (degL N ps).getD x 0 = (dgr ps x : Int) := by simp [degL, List.getD_eq_getElem?_getD, h]
theorem degL_len (N : Nat) (ps : List Int) : (degL N ps).length = N := by simp [degL]
theorem cntL_full {n : Int} {N : Nat} {ps : List Int} (hp : pairsB n ps = true) : cntL N ps ps.length = degL N ps := by
  unfold cntL degL
  refine List.map_congr_left fun x _ => ?_
  rw [cnt_dgr hp]

/-! ### The best of those that have no colour -/
def Best (dg : Nat → Nat) (cs : List Int) (i : Nat) (at_ : Int) : Prop :=
  (at_ = -1 ∧ ∀ j : Nat, j < i → 0 ≤ G cs j) ∨ (∃ t : Nat, at_ = t ∧ t < i ∧ G cs t < 0 ∧ ∀ j : Nat, j < i → G cs j < 0 → j ≠ t → lt' dg t j)
theorem Best.skip {dg : Nat → Nat} {cs : List Int} {i : Nat} {a : Int} (h : Best dg cs i a) (hc : 0 ≤ G cs i) : Best dg cs (i + 1) a := by
  rcases h with ⟨h1, h2⟩ | ⟨t, h1, h2, h3, h4⟩
  · refine .inl ⟨h1, fun j hj => ?_⟩
    by_cases e : j = i
    · rw [e]; exact hc
    · exact h2 j (by omega)
  · refine .inr ⟨t, h1, by omega, h3, fun j hj hg hne => ?_⟩
    by_cases e : j = i
    · rw [e] at hg; omega
    · exact h4 j (by omega) hg hne
theorem Best.first {dg : Nat → Nat} {cs : List Int} {i : Nat} (h : Best dg cs i (-1)) (hc : G cs i < 0) : Best dg cs (i + 1) (i : Int) := by
  refine .inr ⟨i, rfl, by omega, hc, fun j hj hg hne => ?_⟩
  rcases h with ⟨_, h2⟩ | ⟨t, h1, _⟩
  · have := h2 j (by omega); omega
  · omega
theorem Best.more {dg : Nat → Nat} {cs : List Int} {i t : Nat} (h : Best dg cs i (t : Int)) (hc : G cs i < 0) (hd : dg t < dg i) : Best dg cs (i + 1) (i : Int) := by
  refine .inr ⟨i, rfl, by omega, hc, fun j hj hg hne => ?_⟩
  rcases h with ⟨h1, _⟩ | ⟨t', h1, h2, h3, h4⟩
  · omega
  · have : t' = t := by omega
    subst this
    by_cases e : j = t'
    · subst e; exact .inl hd
    · have := h4 j (by omega) hg e
      unfold lt' at *
      omega
theorem Best.less {dg : Nat → Nat} {cs : List Int} {i t : Nat} (h : Best dg cs i (t : Int)) (hd : ¬ dg t < dg i) : Best dg cs (i + 1) (t : Int) := by
  rcases h with ⟨h1, _⟩ | ⟨t', h1, h2, h3, h4⟩
  · omega
  · have : t' = t := by omega
    subst this
    refine .inr ⟨t', rfl, by omega, h3, fun j hj hg hne => ?_⟩
    by_cases e : j = i
    · subst e; unfold lt'; omega
    · exact h4 j (by omega) hg hne
theorem Best.done {n : Nat} {ps : List Int} {dg D : Nat → Nat} (hD : InjB n D) (hS : SortedOn dg D 0 n) {k : Nat} (hk : k < n) {a : Int} (h : Best dg (paint n ps D k) n a) : a = (D k : Int) := by
  have hat := paint_at (ps := ps) hD (k := k) (by omega)
  have hDk := (hat k hk).2 (Nat.le_refl _)
  rcases h with ⟨_, h2⟩ | ⟨t, h1, h2, h3, h4⟩
  · have := h2 (D k) (hD.1 k hk); omega
  · by_cases e : D k = t
    · rw [h1, e]
    · have l1 := h4 (D k) (hD.1 k hk) (by omega) e
      obtain ⟨p, hp, rfl⟩ := inj_onto hD h2
      have hpk : k < p := by
        rcases Nat.lt_or_ge p k with h | h
        · have := (hat p hp).1 h; omega
        · have : p ≠ k := fun e2 => e (by rw [e2])
          omega
      exact absurd (lt'_trans l1 (hS k p (Nat.zero_le _) hpk hp)) lt'_irrefl

set_option maxRecDepth 8000 in
set_option maxHeartbeats 8000000 in
theorem specColours (n : Int) (a : Option Addr) (len cap : Nat) (ps : List Int) (w : World) (h : InS w a len ps) (hbl : ∀ g, w.heap.size ≤ g → Away g a) :
    Calls Try.prog 12 #[.int .i64 n, .slice a len cap] w (NewL (colOf n ps) w) := by
  have c1 := inS n 1 32
  have hl := Lib.hid h.size
  have hlm := h.max
  cases hb1 : inB n 1 32 with
  | false =>
    rw [hb1] at c1
    rw [colOf_no (.inl hb1)]
    go_enter Try.func12, Try.ntmps12
    go_wp2_with (go_at_call 16; refine (c1 _).mono ?_; rintro e w' ⟨rfl, rfl⟩)
    exact bodyPost_ret (by simp [results, Try.results12, go_sem]) rfl (NewL.no (Below.refl _ _))
  | true =>
    have hn : 1 ≤ n ∧ n ≤ 32 := of_decide_eq_true hb1
    rw [hb1] at c1
    have c2 := l04Pairs n (by omega) a len cap ps w h
    cases hb2 : pairsB n ps with
    | false =>
      rw [hb2] at c2
      rw [colOf_no (.inr hb2)]
      go_enter Try.func12, Try.ntmps12
      go_wp2_with (first | (go_at_call 16; refine (c1 _).mono ?_; rintro e w' ⟨rfl, rfl⟩) | (go_at_call 17; refine c2.mono ?_; rintro e w' ⟨rfl, d, rfl⟩))
      exact bodyPost_ret (by simp [results, Try.results12, go_sem]) rfl (NewL.no (below_drewN (Below.refl _ _) _))
    | true =>
      rw [hb2] at c2
      have hcol : colOf n ps = some (paint n.toNat ps (sortD n.toNat (dgr ps)) n.toNat) := by unfold colOf; rw [hb1, hb2]; rfl
      rw [hcol]
      obtain ⟨N, rfl⟩ : ∃ N : Nat, n = (N : Int) := ⟨n.toNat, by omega⟩
      simp only [Int.toNat_natCast]
      clear hcol hb1
      obtain ⟨i0, hi, hz0, hz1, hz2⟩ := info_parts infoI
      have hDI := sortD_inj N (dgr ps)
      have hDS := sortD_sorted N (dgr ps)
      generalize sortD N (dgr ps) = D at *
      have hDS := Lib.hid hDS
      go_enter Try.func12, Try.ntmps12
      go_upto_region 3 with (first | (go_at_call 16; refine (c1 _).mono ?_; rintro e w' ⟨rfl, rfl⟩) | (go_at_call 17; refine c2.mono ?_; rintro e w' ⟨rfl, d, rfl⟩))
      have hb0 : Below w.heap.size w (w.drewN d) := below_drewN (Below.refl _ _) d
      generalize w.drewN d = w0 at *
      clear c1 c2
      go_upto_region 4 with (at_make; refine wpList_make_full _ rfl (.tmp 23) (.tmp 23) 22 rfl w0.heap.size 2 i0 (.int .i64 0) 1 Try.underlying22 hi hz0 hz1 .i64 .i64 _ _ N rfl rfl rfl rfl (by rw [hz2]; omega) (by unfold maxLen; omega) (Nat.le_refl _) ?_; intro w1 hown hgrow)
      have ho0 : Own 2 w1 w0.heap.size (ints (cntL N ps 0)) := by
        have := Own.of_row hown
        rw [ints_made, ← cntL_zero N ps] at this
        exact this
      have hb1' : Below w.heap.size w w1 := hb0.grown hgrow hb0.size (by simp)
      have hgk : w.heap.size ≤ w0.heap.size := hb0.size
      generalize w0.heap.size = gk at *
      clear hown hgrow hb0
      go_wp2
      go_loopw [7] (fun t wr => ∃ k : Nat, t = .int .i64 (k : Int) ∧ k ≤ len ∧ Own 2 wr gk (ints (cntL N ps k)) ∧ Below w.heap.size w wr) (fun t _ => len - (intOf t).toNat)
      case atStart => exact ⟨0, rfl, Nat.zero_le _, ho0, hb1'⟩
      case round =>
        obtain ⟨k, rfl, hk, ho, hb⟩ := hrel
        clear ho0 hb1'
        by_cases hlt : k < len
        · obtain ⟨b, off, x, rfl, hbb, c0, hx⟩ := (h.below hb).get hlt
          have hr : 0 ≤ x ∧ x < N := by
            have hr := pairs_at hb2 (j := k / 2) (by rw [hl.out]; have := (pairs_len hb2).2; rw [hl.out] at this; omega)
            unfold pA pB at hr
            by_cases he : k % 2 = 0
            · rw [show 2 * (k / 2) = k by omega, hx.out] at hr; omega
            · rw [show 2 * (k / 2) + 1 = k by omega, hx.out] at hr; omega
          obtain ⟨xn, rfl⟩ : ∃ xn : Nat, x = (xn : Int) := ⟨x.toNat, by omega⟩
          have hxn : xn < N := by omega
          have d0 := ho.at (ints_get (xs := cntL N ps k) (k := xn) (by rw [cntL_len]; exact hxn))
          rw [cntL_get hxn] at d0
          have f0 := ho.free xn
          have hcm : (ps.take k).count (xn : Int) ≤ 2000 := Nat.le_trans List.count_le_length (by rw [List.length_take]; have := (pairs_len hb2).1; omega)
          have hsu := Lib.hid (cntL_succ (N := N) (k := k) (x := xn) (by rw [hl.out]; exact hlt) hx.out hxn)
          have ho2 := ho.set xn (.int .i64 (((ps.take k).count (xn : Int) : Int) + 1))
          rw [ints_set, hsu.out] at ho2
          generalize (ps.take k).count (xn : Int) = cv at *
          clear hx
          go_wp2
          go_roundw
          case rel => exact ⟨k + 1, by go_num, by omega, ho2, hb.setCell (by exact hgk) _⟩
          case measure => simp [intOf]; omega
        · obtain rfl : len = k := by omega
          rw [← hl.out, cntL_full hb2] at ho
          have hb1 := hb
          have hB := hb.size
          go_wp2
          have hrow0 := row_emptyI wr w.heap.size 2 hB
          have ho1 := ho.alloc (.cells #[] 2)
          have hb2' := hb.alloc hB (.cells #[] 2)
          have hgl := ho.lt
          have hq0 : Hid (wr.heap.size ≠ gk) := Lib.hid (by omega)
          generalize hG : wr.heap.size = g0 at *
          generalize wr.alloc (.cells #[] 2) = w3 at *
          go_loopw [8, 9] (fun v t wr => ∃ k : Nat, t = .int .i64 (k : Int) ∧ k ≤ N ∧ wr.ownsRow w.heap.size 2 1 v k (ints (bare k)) ∧ (v.ownBlock ≠ some gk) ∧ Own 2 wr gk (ints (degL N ps)) ∧ Below w.heap.size w wr) (fun _ t _ => N - (intOf t).toNat)
          case atStart => exact ⟨0, rfl, Nat.zero_le _, hrow0, by simp [Value.ownBlock]; exact hq0.out, ho1, hb2'⟩
          case round =>
            obtain ⟨k, rfl, hk2, hrow, hvk, hod, hb4⟩ := hrel
            clear hrow0 ho1 hb2' ho hb hb1
            have hB4 := hb4.size
            by_cases hlt2 : k < N
            · go_wp2_with (at_builtin; refine wpList_append_lies _ rfl (.tmp 46) (.tmp 47) 22 rfl w.heap.size 2 i0 (.int .i64 0) 1 8 Try.underlying22 hi hz0 hz1 hz2 rfl (by decide) u8 k (ints (bare k)) rfl (hrow.alloc _) ⟨wr.heap.size, 0, none⟩ 1 1 [.int .i64 (-1)] rfl rfl (World.news_of_block (heap_alloc_new _ _)) (ints_one _) (by omega) (by unfold maxLen; omega) (by omega) (by simp; omega) (wr.heap.size + 1) (by simp) ?_; intro q cq w5 hown hgrow hat hlt2)
              go_roundw
              case rel =>
                refine ⟨k + 1, by go_num, by omega, ?_, ?_, (hod.alloc _).grown hgrow (Ne.symm hvk), (hb4.alloc hB4 _).grown hgrow (by simp; omega) fun k hk => (hrow.lt k hk).1⟩
                · rw [bare_succ, ints_app]
                  exact hown
                · simp only [Value.ownBlock, ne_eq, Option.some.injEq]
                  have := hod.lt
                  rcases hat with e | e
                  · rw [e] at hvk; simpa using hvk
                  · omega
              case measure => simp [intOf]; omega
            · obtain rfl : N = k := by omega
              obtain ⟨gc, cc, rest, rfl, hgc, hoc⟩ := row_ownI hrow (by omega)
              have hne : gc ≠ gk := by simpa [Value.ownBlock] using hvk
              clear hrow hvk
              go_wp2
              generalize wr = wz at *
              go_loopw [10, 11, 12, 13] (fun t _ _ _ wr => ∃ k : Nat, t = .int .i64 (k : Int) ∧ k ≤ N ∧ Own 2 wr gc (ints (paint N ps D k) ++ rest) ∧ Own 2 wr gk (ints (degL N ps)) ∧ Below w.heap.size w wr) (fun t _ _ _ _ => N - (intOf t).toNat)
              case atStart => exact ⟨0, rfl, Nat.zero_le _, hoc, hod, hb4⟩
              case round =>
                obtain ⟨k, rfl, hk3, hc, hd, hb5⟩ := hrel
                clear hoc hod hb4
                by_cases hlt3 : k < N
                · have hdone := Lib.hid fun a => Best.done (ps := ps) hDI hDS.out (a := a) hlt3
                  have hDk := hDI.1 k hlt3
                  obtain ⟨hle, hfree, hno⟩ := paint_next hb2 (D := D) (k := k) (by omega)
                  have hlen := paint_len N ps D k
                  have hpk := Lib.hid (show paint N ps D (k + 1) = (paint N ps D k).set (D k) (leastF (nb ps (D k)) (paint N ps D k) : Int) from rfl)
                  generalize hLF : leastF (nb ps (D k)) (paint N ps D k) = L at *
                  have hfree := Lib.hid hfree
                  have hno := Lib.hid hno
                  generalize hPP : paint N ps D k = cs at *
                  generalize hx : D k = x at *
                  clear hLF hPP
                  go_upto_region 17 with fail
                  go_wp2
                  generalize wr = wk at *
                  go_loopw [11, 12] (fun t u wr => ∃ (i : Nat) (a : Int), t = .int .i64 a ∧ u = .int .i64 (i : Int) ∧ i ≤ N ∧ -1 ≤ a ∧ a < N ∧ Hid (Best (dgr ps) cs i a) ∧ Drew wk wr) (fun _ u _ => N - (intOf u).toNat)
                  case atStart => exact ⟨0, -1, rfl, rfl, Nat.zero_le _, by omega, by omega, .inl ⟨rfl, fun j hj => absurd hj (Nat.not_lt_zero _)⟩, Drew.refl _⟩
                  case round =>
                    obtain ⟨i, a1, rfl, rfl, hi1, ha1, ha2, hbest, hdr⟩ := hrel
                    have hbk := hdr.below wk.heap.size
                    have hc' := hc.below hbk
                    have hd' := hd.below hbk
                    by_cases hlt4 : i < N
                    · have e0 := hc'.at (ints_at (cs := cs) (rest := rest) (k := i) (by omega))
                      have hGi : Hid (G cs i = cs.getD i 0) := Lib.hid (G_nat cs i)
                      have e1 := hd'.at (ints_get (xs := degL N ps) (k := i) (by rw [degL_len]; exact hlt4))
                      rw [degL_get hlt4] at e1
                      generalize cs.getD i 0 = gi at *
                      by_cases h0 : 0 ≤ gi
                      · have hn0 : decide (gi < 0) = false := by simp; omega
                        have hnext := Lib.hid (hbest.out.skip (by rw [hGi.out]; exact h0))
                        go_wp2
                        go_quiet (fail)
                        go_wp2
                        go_roundw
                        case rel => exact ⟨i + 1, a1, rfl, by go_num, by omega, ha1, ha2, hnext, hdr.next _⟩
                        case measure => simp [intOf]; omega
                      · have hn0 : gi < 0 := by omega
                        by_cases h1 : a1 < 0
                        · obtain rfl : a1 = -1 := by omega
                          have hnext := Lib.hid (hbest.out.first (by rw [hGi.out]; exact hn0))
                          go_wp2
                          go_quiet (fail)
                          go_wp2
                          go_roundw
                          case rel => exact ⟨i + 1, (i : Int), rfl, by go_num, by omega, by omega, by omega, hnext, hdr.next _⟩
                          case measure => simp [intOf]; omega
                        · obtain ⟨t, rfl⟩ : ∃ t : Nat, a1 = (t : Int) := ⟨a1.toNat, by omega⟩
                          have htn : t < N := by omega
                          have e2 := hd'.at (ints_get (xs := degL N ps) (k := t) (by rw [degL_len]; exact htn))
                          rw [degL_get htn] at e2
                          by_cases h2 : dgr ps t < dgr ps i
                          · have hnext := Lib.hid (hbest.out.more (by rw [hGi.out]; exact hn0) h2)
                            have h2' : (dgr ps t : Int) < (dgr ps i : Int) := by omega
                            go_wp2
                            go_quiet (fail)
                            go_wp2
                            go_roundw
                            case rel => exact ⟨i + 1, (i : Int), rfl, by go_num, by omega, by omega, by omega, hnext, hdr.next _⟩
                            case measure => simp [intOf]; omega
                          · have hnext := Lib.hid (hbest.out.less h2)
                            have h2' : ¬ (dgr ps t : Int) < (dgr ps i : Int) := by omega
                            go_wp2
                            go_quiet (fail)
                            go_wp2
                            go_roundw
                            case rel => exact ⟨i + 1, (t : Int), rfl, by go_num, by omega, ha1, ha2, hnext, hdr.next _⟩
                            case measure => simp [intOf]; omega
                    · obtain rfl : N = i := by omega
                      obtain rfl := hdone.out _ hbest.out
                      have hb6 := hb5.trans (hbk.mono hb5.size)
                      clear hbest hdr hbk hc hd
                      go_wp2
                      generalize wr = wy at *
                      go_loopw [13] (fun t wr => ∃ c : Nat, t = .int .i64 (c : Int) ∧ c ≤ L ∧ wy = wr) (fun t _ => L - (intOf t).toNat)
                      case atStart => exact ⟨0, rfl, Nat.zero_le _, rfl⟩
                      case round =>
                        obtain ⟨c, rfl, hcL, rfl⟩ := hrel
                        have hIc : InS wy (some ⟨gc, 0, none⟩) N cs := by
                          have := InS.of_row hc' (by omega : cs.length ≤ 1048576)
                          rwa [hlen] at this
                        have hfr := l04Free N (some ⟨gc, 0, none⟩) a N cc len cap cs ps (x : Int) (c : Int) wy hb2 hIc hlen (h.below hb6)
                        by_cases hcl : c < L
                        · rw [hno.out c hcl] at hfr
                          clear hIc
                          go_wp2_with (go_at_call 28; refine hfr.mono ?_; rintro e w5 ⟨rfl, rfl⟩)
                          go_roundw
                          case rel => exact ⟨c + 1, by go_num, by omega, trivial⟩
                          case measure => simp [intOf]; omega
                        · obtain rfl : c = L := by omega
                          rw [hfree.out] at hfr
                          clear hIc
                          have f5 := hc'.free x
                          have d5 := hc'.at (ints_at (cs := cs) (rest := rest) (k := x) (by omega))
                          go_wp2_with (go_at_call 28; refine hfr.mono ?_; rintro e w5 ⟨rfl, rfl⟩)
                          go_roundw
                          case rel =>
                            have hp6 := hc'.set x (.int .i64 (c : Int))
                            rw [ints_set_at (by omega)] at hp6
                            exact ⟨k + 1, by go_num, by omega, by rw [hpk.out]; exact hp6, hd'.other (by simp; omega) _, hb6.setCell hgc _⟩
                          case measure => simp [intOf]; omega
                · obtain rfl : N = k := by omega
                  go_wp2
                  refine bodyPost_ret (v := .tuple #[.slice (some ⟨gc, 0, none⟩) N cc, .bool true]) (by simp [results, Try.results12, go_sem]) rfl ?_
                  exact ⟨some ⟨gc, 0, none⟩, cc, by simp [paint_len], ⟨by simp [ints], by simp [paint_len]; omega, .inr ⟨gc, rest, rfl, hgc, hc⟩⟩, hb5⟩
end Go.Proofs.Ytpebibhnaopbnaa
