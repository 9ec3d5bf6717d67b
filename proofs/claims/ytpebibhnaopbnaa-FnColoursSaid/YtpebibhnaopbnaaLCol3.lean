/-
  The law FnColours.
-/
import Derived.Test.YtpebibhnaopbnaaLCol1
import Derived.Test.YtpebibhnaopbnaaLCol2
import Derived.Test.YtpebibhnaopbnaaFew3
import Derived.Lib.MinMax
namespace Go.Proofs.Ytpebibhnaopbnaa
open Go.RowKit

theorem pairs_nil (n : Int) : pairsB n [] = true := by simp [pairsB]
theorem pairs_app {n : Int} {ps : List Int} (h : pairsB n ps = true) {x y : Int} (hx : 0 ≤ x ∧ x ≤ n - 1) (hy : 0 ≤ y ∧ y ≤ n - 1) (hxy : x ≠ y) (hl : ps.length ≤ 1998) : pairsB n (ps ++ [x, y]) = true := by
  have h2 := (pairs_len h).2
  unfold pairsB
  simp only [Bool.and_eq_true, decide_eq_true_eq, List.all_eq_true, List.mem_range, List.length_append, List.length_cons, List.length_nil]
  refine ⟨⟨by omega, by omega⟩, fun j hj => ?_⟩
  unfold okPair pA pB inB
  simp only [Bool.and_eq_true, decide_eq_true_eq, bne_iff_ne, List.getD_eq_getElem?_getD]
  by_cases hj2 : j < ps.length / 2
  · have := pairs_at h hj2
    unfold pA pB at this
    simp only [List.getD_eq_getElem?_getD] at this
    rw [List.getElem?_append_left (by omega), List.getElem?_append_left (by omega)]
    exact ⟨⟨this.1, this.2.1⟩, this.2.2⟩
  · rw [List.getElem?_append_right (by omega), List.getElem?_append_right (by omega), show 2 * j - ps.length = 0 by omega, show 2 * j + 1 - ps.length = 1 by omega]
    exact ⟨⟨hx, hy⟩, hxy⟩
theorem ints_pair (x y : Int) : ∀ u ∈ [Value.int .i64 x, Value.int .i64 y], u.oneCell' = true := by simp [Value.oneCell']

/-- What stands when some pairs have been laid. -/
def Laid (N : Nat) (B : Nat) (v : Value) (ps : List Int) (kk : Nat) (wr : World) : Prop := pairsB (N : Int) ps = true ∧ ps.length ≤ 2 * kk ∧ wr.ownsRow B 2 1 v ps.length (ints ps)

set_option maxRecDepth 8000 in
set_option maxHeartbeats 4000000 in
theorem lawFnColours (a : Option Addr) (la ca : Nat) (xs : List Int) (b : Option Addr) (lb cb : Nat) (ys : List Int) (w : World) (_ : la ≤ 9223372036854775807) (hx : ByS w a la xs) (_ : lb ≤ 9223372036854775807) (hy : ByS w b lb ys) :
    Calls Try.prog 5 #[.slice a la ca, .slice b lb cb] w (RetB (.bool true) w) := by
  have cL := r8Long a b la ca lb cb w
  cases hbig : (decide (48 < la) || decide (48 < lb)) with
  | true =>
    rw [hbig] at cL
    go_enter Try.func5, Try.ntmps5
    go_wp2_with (go_at_call 14; refine cL.mono ?_; rintro e w1 ⟨rfl, hd1⟩)
    exact bodyPost_ret (by simp [results, Try.results5, go_sem]) rfl ⟨rfl, hd1.below _⟩
  | false =>
    rw [hbig] at cL
    clear hbig
    have cN := fun w (h : ByS w b lb ys) => r8At b lb cb ys 40 8 (by omega) (by omega) w h
    have hN := r8_range (xs := ys) (fun i hi => hy.2.1 i (by rw [hy.1] at hi; exact hi)) 40 (n := 8) (by omega)
    obtain ⟨N, eN⟩ : ∃ N : Nat, 1 + r8 ys 40 8 = (N : Int) := ⟨(1 + r8 ys 40 8).toNat, by omega⟩
    have hN1 : 1 ≤ N ∧ N ≤ 8 := by omega
    have ew : IntKind.i64.wrap (1 + r8 ys 40 8) = (N : Int) := by rw [eN]; exact IntWalk.i64_in _ (by omega)
    generalize r8 ys 40 8 = r0 at *
    obtain ⟨i0, hi, hz0, hz1, hz2⟩ := info_parts infoI
    go_enter Try.func5, Try.ntmps5
    go_wp2_with (first | (go_at_call 14; refine cL.mono ?_; rintro e w1 ⟨rfl, hd1⟩; have hb1 := hd1.below w.heap.size) | (go_at_call 15; refine (cN _ (hy.below hb1)).mono ?_; rintro e w2 ⟨rfl, hd2⟩; have hb2 := hb1.trans (hd2.below w.heap.size)))
    clear cL cN hd1 hb1 hd2
    have hB2 := hb2.size
    have hrow0 := row_emptyI w2 w.heap.size 2 hB2
    have hb3 := hb2.alloc hB2 (.cells #[] 2)
    generalize w2.alloc (.cells #[] 2) = w3 at *
    go_loopw [6, 7, 8] (fun v k t wr => ∃ m kk : Nat, ∃ ps : List Int, t = .int .i64 (m : Int) ∧ k = .int .i64 (kk : Int) ∧ m ≤ N ∧ kk ≤ 8 * m ∧ Laid N w.heap.size v ps kk wr ∧ Below w.heap.size w wr) (fun _ _ t _ => N - (intOf t).toNat)
    case atStart => exact ⟨0, 0, [], rfl, rfl, Nat.zero_le _, Nat.le_refl _, ⟨pairs_nil _, Nat.le_refl _, hrow0⟩, hb3⟩
    case round =>
      obtain ⟨m, kk, ps, rfl, rfl, hm, hkk, hlaid, hb4⟩ := hrel
      clear hrow0 hb3 hb2
      by_cases hlt : m < N
      · go_wp2
        generalize wr = wi at *
        go_loopw [6, 7, 9] (fun v k t wr => ∃ q kk : Nat, ∃ ps : List Int, t = .int .i64 (q : Int) ∧ k = .int .i64 (kk : Int) ∧ m + 1 ≤ q ∧ q ≤ N ∧ kk + m + 1 ≤ 8 * m + q ∧ Laid N w.heap.size v ps kk wr ∧ Below w.heap.size w wr) (fun _ _ t _ => N - (intOf t).toNat)
        case atStart => exact ⟨m + 1, kk, ps, by go_num, rfl, Nat.le_refl _, hlt, by omega, hlaid, hb4⟩
        case round =>
          clear hlaid hb4 hkk
          obtain ⟨q, kk, ps, rfl, rfl, hq1, hq2, hkk, ⟨hP, hPl, hrow⟩, hb4⟩ := hrel
          have hB4 := hb4.size
          by_cases hlq : q < N
          · have cA := r8At a la ca xs kk 3 (by omega) (by omega) wr (hx.below hb4)
            by_cases h1 : r8 xs kk 3 = 1
            · rw [h1] at cA
              go_wp2_with (first | (go_at_call 15; refine cA.mono ?_; rintro e w5 ⟨rfl, d5, rfl⟩; have hrow5 : (wr.drewN d5).ownsRow w.heap.size 2 1 _ ps.length (ints ps) := hrow; have hb5 := below_drewN hb4 d5; have hB5 := hb5.size; generalize wr.drewN d5 = w5 at *) | (at_builtin; refine wpList_append_lies _ rfl (.tmp 42) (.tmp 45) 22 rfl w.heap.size 2 i0 (.int .i64 0) 1 8 Try.underlying22 hi hz0 hz1 hz2 rfl (by decide) _ ps.length (ints ps) rfl (hrow5.alloc _) ⟨w5.heap.size, 0, none⟩ 2 2 [.int .i64 (m : Int), .int .i64 (q : Int)] rfl rfl (World.news_of_block (heap_alloc_new _ _)) (ints_pair _ _) (by omega) (by unfold maxLen; omega) (by omega) (by simp; omega) (w5.heap.size + 1) (by simp) ?_; intro q' cq w6 hown hgrow hat hlt2))
              go_roundw
              case rel =>
                refine ⟨q + 1, kk + 1, ps ++ [(m : Int), (q : Int)], by go_num, by go_num, by omega, by omega, by omega, ⟨pairs_app hP (by omega) (by omega) (by omega) (by omega), by simp; omega, ?_⟩, (hb5.alloc hB5 _).grown hgrow (by simp; omega) fun k hk => (hrow5.lt k hk).1⟩
                rw [ints_app, List.length_append]
                exact hown
              case measure => simp [intOf]; omega
            · go_wp2_with (go_at_call 15; refine cA.mono ?_; rintro e w5 ⟨rfl, d5, rfl⟩; have hrow5 : (wr.drewN d5).ownsRow w.heap.size 2 1 _ ps.length (ints ps) := hrow; have hb5 := below_drewN hb4 d5; generalize wr.drewN d5 = w5 at *)
              go_roundw
              case rel => exact ⟨q + 1, kk + 1, ps, by go_num, by go_num, by omega, by omega, by omega, ⟨hP, by omega, hrow5⟩, hb5⟩
              case measure => simp [intOf]; omega
          · obtain rfl : N = q := by omega
            go_wp2
            go_roundw
            case rel => exact ⟨m + 1, kk, ps, by go_num, rfl, by omega, by omega, ⟨hP, hPl, hrow⟩, hb4⟩
            case measure => simp [intOf]; omega
      · obtain rfl : N = m := by omega
        obtain ⟨hP, hPl, hrow⟩ := hlaid
        have hP2 := (pairs_len hP).1
        obtain ⟨ap, cp, rfl, hM⟩ := row_mineI hrow (by omega)
        clear hrow
        obtain ⟨c, ec, hA⟩ := ans hN1 hP
        have cC := fun w h => implColours (N : Int) ap ps.length cp ps w h (by intro _; unfold MergeOk; intro h20; omega)
        have c4 := fun w h => implFew (N : Int) ap ps.length cp ps 4 w h
        have c1 := fun w h => implFew (N : Int) ap ps.length cp ps 1 w h
        rw [ec] at cC
        unfold NewL at cC c4 c1
        simp only [Option.getD_some, Option.isSome_some, hA.clen] at cC
        obtain ⟨zf, bf, ef, hbf⟩ : ∃ zf bf, ((few (N : Int) ps 4).getD [] = zf ∧ (few (N : Int) ps 4).isSome = bf) ∧ ((∀ i : Nat, i < N → G c i < 4) → bf = true) ∧ (bf = true → zf.length = N ∧ G zf 0 = 0 ∧ ∀ j, j < ps.length / 2 → G zf (pA ps j) ≠ G zf (pB ps j)) := by
          refine ⟨_, _, ⟨rfl, rfl⟩, hA.four, fun hb => ?_⟩
          obtain ⟨z, hz⟩ := Option.isSome_iff_exists.1 hb
          have h1 := hA.flen z hz
          rw [hz]
          exact ⟨h1.1, h1.2, hA.fapart z hz⟩
        obtain ⟨z1, b1, e1, hb1, hz1'⟩ : ∃ z1 b1, ((few (N : Int) ps 1).getD [] = z1 ∧ (few (N : Int) ps 1).isSome = b1) ∧ b1 = decide (ps.length = 0) ∧ (b1 = true → z1.length = N ∧ G z1 ((N : Int) - 1) = 0) := by
          refine ⟨_, _, ⟨rfl, rfl⟩, hA.one, fun hb => ?_⟩
          obtain ⟨z, hz⟩ := Option.isSome_iff_exists.1 hb
          have h1 := hA.onelen z hz
          rw [hz]
          exact h1
        rw [ef.1, ef.2] at c4
        rw [e1.1, e1.2] at c1
        clear ef e1 ec
        go_wp2_with fail
        refine (cC _ hM.ins).mono ?_
        rintro e w5 ⟨ac, cc, rfl, hC5, hb5⟩
        have hM5 := hM.below hb5
        have hB5 := hb4.trans (hb5.mono hb4.size)
        replace hC5 := hC5.mono hb4.size
        clear hb5 hM cC
        go_wp2_with fail
        refine (c4 _ hM5.ins).mono ?_
        rintro e w6 ⟨a4, k4, rfl, hF6, hb6⟩
        have hM6 := hM5.below hb6
        have hC6 := hC5.below hb6
        have hB6 := hB5.trans (hb6.mono hB5.size)
        replace hF6 := hF6.mono hB5.size
        clear hb6 hM5 hC5 c4
        go_wp2_with fail
        refine (c1 _ hM6.ins).mono ?_
        rintro e w7 ⟨a1, k1, rfl, hO7, hb7⟩
        have hM7 := (hM6.below hb7).ins
        have hC7 := (hC6.below hb7).ins
        have hF7 := (hF6.below hb7).ins
        have hB7 := hB6.trans (hb7.mono hB6.size)
        replace hO7 := hO7.ins
        clear hb7 hM6 hC6 hF6 c1 hB5 hB6 hb4
        have hN0 : IntKind.i64.wrap ((N : Int) - 1) = ((N - 1 : Nat) : Int) := by rw [IntWalk.i64_in _ (by omega)]; omega
        cases b1 with
        | false =>
          have hpos : ps.length ≠ 0 := by simpa using hb1
          clear hz1' hb1
          go_wp2
          go_loopw [16, 17] (fun t i wr => ∃ M : Int, ∃ k : Nat, t = .int .i64 M ∧ i = .int .i64 (k : Int) ∧ k ≤ N ∧ (∀ j : Nat, j < k → G c j ≤ M) ∧ Drew w7 wr) (fun _ i _ => N - (intOf i).toNat)
          case atStart => exact ⟨0, 0, rfl, rfl, Nat.zero_le _, fun j hj => absurd hj (Nat.not_lt_zero _), Drew.refl _⟩
          case round =>
            obtain ⟨M, k, rfl, rfl, hk, hall, hd⟩ := hrel
            have hC8 := hC7.below (hd.below _)
            have hM8 := hM7.below (hd.below _)
            have hF8 := hF7.below (hd.below _)
            by_cases hlt3 : k < N
            · obtain ⟨gC, oC, x, rfl, hgC, cC, hxC⟩ := hC8.get hlt3
              have hxp := hA.cpos k hlt3
              rw [G_nat, hxC.out] at hxp
              have hxn := Lib.hid (show ∀ j : Nat, j < k + 1 → G c j ≤ max M x by
                intro j hj
                by_cases e : j = k
                · subst e; rw [G_nat, hxC.out]; omega
                · have := hall j (by omega); omega)
              clear hall hxC
              go_wp2
              go_roundw
              case rel => exact ⟨max M x, k + 1, by first | rfl | (congr 1; omega), by go_num, by omega, hxn.out, hd⟩
              case measure => simp [intOf]; omega
            · obtain rfl : N = k := by omega
              cases bf with
              | false =>
                have hM4 : ¬ M < 4 := fun h => by
                  have := hbf.1 fun i hi => by have := hall i hi; omega
                  cases this
                go_wp2
                go_loopw [18] (fun i wr' => ∃ k : Nat, i = .int .i64 (k : Int) ∧ k % 2 = 0 ∧ k ≤ ps.length ∧ Drew w7 wr') (fun i _ => ps.length - (intOf i).toNat)
                case atStart => exact ⟨0, rfl, rfl, Nat.zero_le _, hd⟩
                case round =>
                  obtain ⟨k, rfl, hk2, hk3, hd9⟩ := hrel
                  have hC9 := hC7.below (hd9.below _)
                  have hM9 := hM7.below (hd9.below _)
                  have hF9 := hF7.below (hd9.below _)
                  clear hC8 hM8 hF8 hall
                  have hev := (pairs_len hP).2
                  by_cases hlt4 : k < ps.length
                  · obtain ⟨ha', hb', _⟩ := pairs_at hP (j := k / 2) (by omega)
                    obtain ⟨gP, oP, xa, rfl, hgP, p0, hxa⟩ := hM9.get hlt4
                    obtain ⟨xb, _, p1, hxb⟩ := hM9.nth (k := k + 1) (by omega)
                    have eA : pA ps (k / 2) = xa := by unfold pA; rw [show 2 * (k / 2) = k by omega]; exact hxa.out
                    have eB : pB ps (k / 2) = xb := by unfold pB; rw [show 2 * (k / 2) + 1 = k + 1 by omega]; exact hxb.out
                    rw [eA] at ha'
                    rw [eB] at hb'
                    obtain ⟨na, rfl⟩ : ∃ na : Nat, xa = (na : Int) := ⟨xa.toNat, by omega⟩
                    obtain ⟨nb', rfl⟩ : ∃ nb' : Nat, xb = (nb' : Int) := ⟨xb.toNat, by omega⟩
                    obtain ⟨gC, oC, va, rfl, hgC, q0, hva⟩ := hC9.get (k := na) (by omega)
                    obtain ⟨vb, _, q1, hvb⟩ := hC9.nth (k := nb') (by omega)
                    have hvn : Hid (va ≠ vb) := Lib.hid (by have := hA.capart (k / 2) (by omega); rw [eA, eB, G_nat, G_nat, hva.out, hvb.out] at this; exact this)
                    have hvd : (va == vb) = false := by simpa using hvn.out
                    clear hva hvb
                    have hna1 : (na : Int) < (N : Int) := by omega
                    have hnb1 : (nb' : Int) < (N : Int) := by omega
                    have hk1 : (k : Int) + 1 < (ps.length : Int) := by omega
                    have hk0 : (k : Int) < (ps.length : Int) := by omega
                    have htn : ((k : Int) + 1).toNat = k + 1 := by omega
                    have hge : (0 : Int) ≤ (k : Int) + 1 := by omega
                    have hwk : IntKind.i64.wrap ((k : Int) + 1) = (k : Int) + 1 := IntWalk.i64_in _ (by omega)
                    go_wp2
                    go_quiet (fail)
                    go_wp2
                    go_roundw
                    case rel => exact ⟨k + 2, by go_num, by omega, by omega, by first | exact hd9 | exact Drew.next hd9 _⟩
                    case measure => simp [intOf]; omega
                  · go_wp2
                    exact bodyPost_ret (v := .bool true) (by simp [results, Try.results5, go_sem]) rfl ⟨rfl, hB7.trans (hd9.below _)⟩
              | true =>
                obtain ⟨hzl, hz0', hza⟩ := hbf.2 rfl
                rw [hzl] at hF7 hF8 ⊢
                by_cases hM4 : M < 4
                · go_wp2
                  go_loopw [18] (fun i wr' => ∃ k : Nat, i = .int .i64 (k : Int) ∧ k % 2 = 0 ∧ k ≤ ps.length ∧ Drew w7 wr') (fun i _ => ps.length - (intOf i).toNat)
                  case atStart => exact ⟨0, rfl, rfl, Nat.zero_le _, hd⟩
                  case round =>
                    obtain ⟨k, rfl, hk2, hk3, hd9⟩ := hrel
                    have hC9 := hC7.below (hd9.below _)
                    have hM9 := hM7.below (hd9.below _)
                    have hF9 := hF7.below (hd9.below _)
                    clear hC8 hM8 hF8 hall
                    have hev := (pairs_len hP).2
                    by_cases hlt4 : k < ps.length
                    · obtain ⟨ha', hb', _⟩ := pairs_at hP (j := k / 2) (by omega)
                      obtain ⟨gP, oP, xa, rfl, hgP, p0, hxa⟩ := hM9.get hlt4
                      obtain ⟨xb, _, p1, hxb⟩ := hM9.nth (k := k + 1) (by omega)
                      have eA : pA ps (k / 2) = xa := by unfold pA; rw [show 2 * (k / 2) = k by omega]; exact hxa.out
                      have eB : pB ps (k / 2) = xb := by unfold pB; rw [show 2 * (k / 2) + 1 = k + 1 by omega]; exact hxb.out
                      rw [eA] at ha'
                      rw [eB] at hb'
                      obtain ⟨na, rfl⟩ : ∃ na : Nat, xa = (na : Int) := ⟨xa.toNat, by omega⟩
                      obtain ⟨nb', rfl⟩ : ∃ nb' : Nat, xb = (nb' : Int) := ⟨xb.toNat, by omega⟩
                      obtain ⟨gC, oC, va, rfl, hgC, q0, hva⟩ := hC9.get (k := na) (by omega)
                      obtain ⟨vb, _, q1, hvb⟩ := hC9.nth (k := nb') (by omega)
                      have hvn : Hid (va ≠ vb) := Lib.hid (by have := hA.capart (k / 2) (by omega); rw [eA, eB, G_nat, G_nat, hva.out, hvb.out] at this; exact this)
                      have hvd : (va == vb) = false := by simpa using hvn.out
                      clear hva hvb
                      obtain ⟨gF, oF, fa, rfl, hgF, r0, hfa⟩ := hF9.get (k := na) (by omega)
                      obtain ⟨fb, _, r1, hfb⟩ := hF9.nth (k := nb') (by omega)
                      have hfn : Hid (fa ≠ fb) := Lib.hid (by have := hza (k / 2) (by omega); rw [eA, eB, G_nat, G_nat, hfa.out, hfb.out] at this; exact this)
                      have hfd : (fa == fb) = false := by simpa using hfn.out
                      clear hfa hfb
                      have hna1 : (na : Int) < (N : Int) := by omega
                      have hnb1 : (nb' : Int) < (N : Int) := by omega
                      have hk1 : (k : Int) + 1 < (ps.length : Int) := by omega
                      have hk0 : (k : Int) < (ps.length : Int) := by omega
                      have htn : ((k : Int) + 1).toNat = k + 1 := by omega
                      have hge : (0 : Int) ≤ (k : Int) + 1 := by omega
                      have hwk : IntKind.i64.wrap ((k : Int) + 1) = (k : Int) + 1 := IntWalk.i64_in _ (by omega)
                      go_wp2
                      go_quiet (fail)
                      go_wp2
                      go_roundw
                      case rel => exact ⟨k + 2, by go_num, by omega, by omega, by first | exact hd9 | exact Drew.next hd9 _⟩
                      case measure => simp [intOf]; omega
                    · obtain ⟨gF, oF, y0, rfl, hgF, r0, hy0⟩ := hF9.get (k := 0) (by omega)
                      have hy1 : y0 = 0 := by rw [← hy0.out, ← G_nat]; exact hz0'
                      subst hy1
                      clear hy0
                      rw [Nat.add_zero] at r0
                      go_wp2
                      exact bodyPost_ret (v := .bool true) (by simp [results, Try.results5, go_sem]) rfl ⟨rfl, hB7.trans (hd9.below _)⟩
                · go_wp2
                  go_loopw [18] (fun i wr' => ∃ k : Nat, i = .int .i64 (k : Int) ∧ k % 2 = 0 ∧ k ≤ ps.length ∧ Drew w7 wr') (fun i _ => ps.length - (intOf i).toNat)
                  case atStart => exact ⟨0, rfl, rfl, Nat.zero_le _, hd⟩
                  case round =>
                    obtain ⟨k, rfl, hk2, hk3, hd9⟩ := hrel
                    have hC9 := hC7.below (hd9.below _)
                    have hM9 := hM7.below (hd9.below _)
                    have hF9 := hF7.below (hd9.below _)
                    clear hC8 hM8 hF8 hall
                    have hev := (pairs_len hP).2
                    by_cases hlt4 : k < ps.length
                    · obtain ⟨ha', hb', _⟩ := pairs_at hP (j := k / 2) (by omega)
                      obtain ⟨gP, oP, xa, rfl, hgP, p0, hxa⟩ := hM9.get hlt4
                      obtain ⟨xb, _, p1, hxb⟩ := hM9.nth (k := k + 1) (by omega)
                      have eA : pA ps (k / 2) = xa := by unfold pA; rw [show 2 * (k / 2) = k by omega]; exact hxa.out
                      have eB : pB ps (k / 2) = xb := by unfold pB; rw [show 2 * (k / 2) + 1 = k + 1 by omega]; exact hxb.out
                      rw [eA] at ha'
                      rw [eB] at hb'
                      obtain ⟨na, rfl⟩ : ∃ na : Nat, xa = (na : Int) := ⟨xa.toNat, by omega⟩
                      obtain ⟨nb', rfl⟩ : ∃ nb' : Nat, xb = (nb' : Int) := ⟨xb.toNat, by omega⟩
                      obtain ⟨gC, oC, va, rfl, hgC, q0, hva⟩ := hC9.get (k := na) (by omega)
                      obtain ⟨vb, _, q1, hvb⟩ := hC9.nth (k := nb') (by omega)
                      have hvn : Hid (va ≠ vb) := Lib.hid (by have := hA.capart (k / 2) (by omega); rw [eA, eB, G_nat, G_nat, hva.out, hvb.out] at this; exact this)
                      have hvd : (va == vb) = false := by simpa using hvn.out
                      clear hva hvb
                      obtain ⟨gF, oF, fa, rfl, hgF, r0, hfa⟩ := hF9.get (k := na) (by omega)
                      obtain ⟨fb, _, r1, hfb⟩ := hF9.nth (k := nb') (by omega)
                      have hfn : Hid (fa ≠ fb) := Lib.hid (by have := hza (k / 2) (by omega); rw [eA, eB, G_nat, G_nat, hfa.out, hfb.out] at this; exact this)
                      have hfd : (fa == fb) = false := by simpa using hfn.out
                      clear hfa hfb
                      have hna1 : (na : Int) < (N : Int) := by omega
                      have hnb1 : (nb' : Int) < (N : Int) := by omega
                      have hk1 : (k : Int) + 1 < (ps.length : Int) := by omega
                      have hk0 : (k : Int) < (ps.length : Int) := by omega
                      have htn : ((k : Int) + 1).toNat = k + 1 := by omega
                      have hge : (0 : Int) ≤ (k : Int) + 1 := by omega
                      have hwk : IntKind.i64.wrap ((k : Int) + 1) = (k : Int) + 1 := IntWalk.i64_in _ (by omega)
                      go_wp2
                      go_quiet (fail)
                      go_wp2
                      go_roundw
                      case rel => exact ⟨k + 2, by go_num, by omega, by omega, by first | exact hd9 | exact Drew.next hd9 _⟩
                      case measure => simp [intOf]; omega
                    · obtain ⟨gF, oF, y0, rfl, hgF, r0, hy0⟩ := hF9.get (k := 0) (by omega)
                      have hy1 : y0 = 0 := by rw [← hy0.out, ← G_nat]; exact hz0'
                      subst hy1
                      clear hy0
                      rw [Nat.add_zero] at r0
                      go_wp2
                      exact bodyPost_ret (v := .bool true) (by simp [results, Try.results5, go_sem]) rfl ⟨rfl, hB7.trans (hd9.below _)⟩
        | true =>
          have hpos : ps.length = 0 := by simpa using hb1
          obtain ⟨hl1, hg1⟩ := hz1' rfl
          rw [hl1] at hO7
          obtain ⟨gO, oO, x, rfl, hgO, cO, hxO⟩ := hO7.get (k := N - 1) (by omega)
          have hx0 : x = 0 := by rw [← hxO.out, ← G_nat, ← hg1]; congr 1; omega
          subst hx0
          clear hz1' hb1 hg1 hxO
          rw [hl1]
          go_wp2
          go_loopw [16, 17] (fun t i wr => ∃ M : Int, ∃ k : Nat, t = .int .i64 M ∧ i = .int .i64 (k : Int) ∧ k ≤ N ∧ (∀ j : Nat, j < k → G c j ≤ M) ∧ Drew w7 wr) (fun _ i _ => N - (intOf i).toNat)
          case atStart => exact ⟨0, 0, rfl, rfl, Nat.zero_le _, fun j hj => absurd hj (Nat.not_lt_zero _), Drew.refl _⟩
          case round =>
            obtain ⟨M, k, rfl, rfl, hk, hall, hd⟩ := hrel
            have hC8 := hC7.below (hd.below _)
            have hM8 := hM7.below (hd.below _)
            have hF8 := hF7.below (hd.below _)
            by_cases hlt3 : k < N
            · obtain ⟨gC, oC, x, rfl, hgC, cC, hxC⟩ := hC8.get hlt3
              have hxp := hA.cpos k hlt3
              rw [G_nat, hxC.out] at hxp
              have hxn := Lib.hid (show ∀ j : Nat, j < k + 1 → G c j ≤ max M x by
                intro j hj
                by_cases e : j = k
                · subst e; rw [G_nat, hxC.out]; omega
                · have := hall j (by omega); omega)
              clear hall hxC
              go_wp2
              go_roundw
              case rel => exact ⟨max M x, k + 1, by first | rfl | (congr 1; omega), by go_num, by omega, hxn.out, hd⟩
              case measure => simp [intOf]; omega
            · obtain rfl : N = k := by omega
              cases bf with
              | false =>
                have hM4 : ¬ M < 4 := fun h => by
                  have := hbf.1 fun i hi => by have := hall i hi; omega
                  cases this
                go_wp2
                go_loopw [18] (fun i wr' => ∃ k : Nat, i = .int .i64 (k : Int) ∧ k % 2 = 0 ∧ k ≤ ps.length ∧ Drew w7 wr') (fun i _ => ps.length - (intOf i).toNat)
                case atStart => exact ⟨0, rfl, rfl, Nat.zero_le _, hd⟩
                case round =>
                  obtain ⟨k, rfl, hk2, hk3, hd9⟩ := hrel
                  have hC9 := hC7.below (hd9.below _)
                  have hM9 := hM7.below (hd9.below _)
                  have hF9 := hF7.below (hd9.below _)
                  clear hC8 hM8 hF8 hall
                  have hev := (pairs_len hP).2
                  by_cases hlt4 : k < ps.length
                  · omega
                  · go_wp2
                    exact bodyPost_ret (v := .bool true) (by simp [results, Try.results5, go_sem]) rfl ⟨rfl, hB7.trans (hd9.below _)⟩
              | true =>
                obtain ⟨hzl, hz0', hza⟩ := hbf.2 rfl
                rw [hzl] at hF7 hF8 ⊢
                by_cases hM4 : M < 4
                · go_wp2
                  go_loopw [18] (fun i wr' => ∃ k : Nat, i = .int .i64 (k : Int) ∧ k % 2 = 0 ∧ k ≤ ps.length ∧ Drew w7 wr') (fun i _ => ps.length - (intOf i).toNat)
                  case atStart => exact ⟨0, rfl, rfl, Nat.zero_le _, hd⟩
                  case round =>
                    obtain ⟨k, rfl, hk2, hk3, hd9⟩ := hrel
                    have hC9 := hC7.below (hd9.below _)
                    have hM9 := hM7.below (hd9.below _)
                    have hF9 := hF7.below (hd9.below _)
                    clear hC8 hM8 hF8 hall
                    have hev := (pairs_len hP).2
                    by_cases hlt4 : k < ps.length
                    · omega
                    · obtain ⟨gF, oF, y0, rfl, hgF, r0, hy0⟩ := hF9.get (k := 0) (by omega)
                      have hy1 : y0 = 0 := by rw [← hy0.out, ← G_nat]; exact hz0'
                      subst hy1
                      clear hy0
                      rw [Nat.add_zero] at r0
                      go_wp2
                      exact bodyPost_ret (v := .bool true) (by simp [results, Try.results5, go_sem]) rfl ⟨rfl, hB7.trans (hd9.below _)⟩
                · go_wp2
                  go_loopw [18] (fun i wr' => ∃ k : Nat, i = .int .i64 (k : Int) ∧ k % 2 = 0 ∧ k ≤ ps.length ∧ Drew w7 wr') (fun i _ => ps.length - (intOf i).toNat)
                  case atStart => exact ⟨0, rfl, rfl, Nat.zero_le _, hd⟩
                  case round =>
                    obtain ⟨k, rfl, hk2, hk3, hd9⟩ := hrel
                    have hC9 := hC7.below (hd9.below _)
                    have hM9 := hM7.below (hd9.below _)
                    have hF9 := hF7.below (hd9.below _)
                    clear hC8 hM8 hF8 hall
                    have hev := (pairs_len hP).2
                    by_cases hlt4 : k < ps.length
                    · omega
                    · obtain ⟨gF, oF, y0, rfl, hgF, r0, hy0⟩ := hF9.get (k := 0) (by omega)
                      have hy1 : y0 = 0 := by rw [← hy0.out, ← G_nat]; exact hz0'
                      subst hy1
                      clear hy0
                      rw [Nat.add_zero] at r0
                      go_wp2
                      exact bodyPost_ret (v := .bool true) (by simp [results, Try.results5, go_sem]) rfl ⟨rfl, hB7.trans (hd9.below _)⟩
end Go.Proofs.Ytpebibhnaopbnaa
