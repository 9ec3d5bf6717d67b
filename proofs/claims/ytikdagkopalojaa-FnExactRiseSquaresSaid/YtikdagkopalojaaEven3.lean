/-
  An even square: the program's words.
-/
import Derived.Test.YtikdagkopalojaaEven2
import Derived.Laws.MakeOwn
namespace Go.Proofs.Ytikdagkopalojaa
open Go.RowKit
attribute [local go_sem] order_cl cl_zero cl_one cl_two aord_none

set_option maxRecDepth 20000 in
set_option maxHeartbeats 8000000 in
theorem implSolveYes (a a' : Option Addr) (m cap n cap' : Nat) (qs bs : List Nat) (w : World) (h : FlS w a m qs) (h' : FlS w a' n bs) (hmn : m = n * n) (hn1 : 1 ≤ n) (hn : n ≤ 10) (hfq : finAll qs = true) (hfb : finAll bs = true) :
    Calls Try.prog 39 #[.slice a m cap, .slice a' n cap'] w (NewFB (outE n (clsOf qs) (clsOf bs)) (okE n (clsOf qs) (clsOf bs)) w) := by
  have hm := h.max
  have hm100 : m ≤ 100 := by rw [hmn]; exact Nat.mul_le_mul hn hn
  have hnn : IntKind.i64.wrap ((n : Int) * (n : Int)) = (m : Int) := by
    have e : ((n : Int) * (n : Int)) = (m : Int) := by rw [hmn]; simp
    rw [e]
    exact IntWalk.i64_in _ (by omega)
  obtain ⟨i0, hi, hz0, hz1, hz2⟩ := info_parts infoF
  have HM := Lib.hid hmn
  clear hmn
  go_enter Try.func39, Try.ntmps39
  have cw : ∀ W, Calls Try.prog 42 #[.int .i64 (n : Int), .int .i64 1, .int .i64 10] W (fun e w' => e = .returned (.bool true) ∧ W = w') := fun W => by
    have := inI (n : Int) 1 10 W
    rw [decide_eq_true (show (1 : Int) ≤ (n : Int) ∧ (n : Int) ≤ 10 by omega)] at this
    exact this
  have cq := areFinite a m cap qs w h
  rw [hfq] at cq
  have cb := fun d => areFinite a' n cap' bs (w.drewN d) (h'.drewN d)
  rw [hfb] at cb
  go_wp2_with (first
    | (go_at_call 42; refine (cw _).mono ?_; rintro e w' ⟨rfl, rfl⟩)
    | (go_at_call 51; (with_reducible refine cq.mono ?_); rintro e w' ⟨rfl, d, rfl⟩)
    | (go_at_call 51; (with_reducible refine (cb _).mono ?_); rintro e wz ⟨rfl, hdz⟩; have hbz : Below w.heap.size w wz := (below_drewN (Below.refl _ _) _).trans (hdz.below _))
    | (at_make; refine wpList_make_full _ rfl (.tmp 44) (.tmp 44) 36 rfl wz.heap.size 37 i0 (.float .f32 0) 1 Try.underlying36 hi hz0 hz1 .i64 .i64 _ _ m rfl rfl rfl rfl (by rw [hz2]; omega) (by unfold maxLen; omega) (Nat.le_refl _) ?_; intro w1 hown hgrow))
  have hM1 : Mat w1 wz.heap.size m (fun _ => some 0) := by
    have := Own.of_row hown
    rw [fls_made] at this
    refine ⟨List.replicate m 0, [], by simp, fun t ht => ?_, by simpa using this⟩
    simp [List.getD_eq_getElem?_getD, ht, cl_zero]
  have hb1 : Below w.heap.size w w1 := hbz.grown hgrow hbz.size (by simp)
  clear hown hgrow cq cb cw
  generalize hg : wz.heap.size = g at hM1 ⊢
  have hgw : w.heap.size ≤ g := by have := hbz.size; omega
  go_loopw [47] (fun i wr => ∃ (i' : Nat) (R : Nat → Cl), i' ≤ n ∧ i = .int .i64 (i' : Int) ∧ Hid (fillE n (clsOf qs) i' = some R) ∧ Mat wr g m R ∧ Below w.heap.size w wr) (fun i _ => n - (intOf i).toNat)
  case atStart => exact ⟨0, _, Nat.zero_le _, rfl, rfl, hM1, hb1⟩
  case round =>
    obtain ⟨i, R0, hin, rfl, hfill, hM, hb⟩ := hrel
    clear hM1 hb1
    generalize wr = wi at *
    by_cases hlt : i < n
    · obtain ⟨ai, hai, hail, hwi⟩ := rowAt HM.out hlt hn
      go_wp2
      go_loopw [52] (fun k wk => ∃ (k' : Nat) (R : Nat → Cl), k' ≤ i + 1 ∧ k = .int .i64 (k' : Int) ∧ Hid (rowE n (clsOf qs) i k' R0 = some R) ∧ Mat wk g m R ∧ Below w.heap.size w wk) (fun k _ => i + 1 - (intOf k).toNat)
      case atStart => exact ⟨0, _, Nat.zero_le _, rfl, rfl, hM, hb⟩
      case round =>
        obtain ⟨k, R, hki, rfl, hrow, hMk, hbk⟩ := hrel
        clear hM hb
        generalize wr = wk at *
        by_cases hle : k ≤ i
        · have hle2 : (k : Int) < (i : Int) + 1 := by omega
          have hdec : decide ((k : Int) < (i : Int) + 1) = true := decide_eq_true hle2
          obtain ⟨pt, hpt, hptm, hw2⟩ := placeAt hail (show k < n by omega) hm100
          obtain ⟨b0, off0, z0, e0, hbb0, hc0, hz⟩ := (h.below hbk).get hptm
          subst e0
          have hs0 : Hid (cl .f32 z0 = cellE n (clsOf qs) R i k 0) := Lib.hid (by show _ = clsOf qs (i * n + k); unfold clsOf; rw [← hai.out, ← hpt.out, hz.out])
          go_wp2
          go_loopw [10, 11, 64] (fun s _ j wj => ∃ (j' z : Nat), j' ≤ k ∧ j = .int .i64 (j' : Int) ∧ s = .float .f32 z ∧ Hid (cl .f32 z = cellE n (clsOf qs) R i k j') ∧ Drew wk wj) (fun _ _ j _ => k - (intOf j).toNat)
          case atStart => exact ⟨0, z0, Nat.zero_le _, rfl, rfl, hs0, Drew.refl _⟩
          case round =>
            obtain ⟨j, z, hjk, rfl, rfl, hz', d, rfl⟩ := hrel
            by_cases hltj : j < k
            · obtain ⟨t1, ht1, htm1, v2⟩ := placeAt hail (show j < n by omega) hm100
              obtain ⟨ak, hak, hakl, hwk⟩ := rowAt HM.out (show k < n by omega) hn
              obtain ⟨t2, ht2, htm2, v4⟩ := placeAt hakl (show j < n by omega) hm100
              obtain ⟨y1, hy1, hc1⟩ := (hMk.drew d).get htm1
              obtain ⟨y2, hy2, hc2⟩ := (hMk.drew d).get htm2
              have hD : Hid (∀ q, Drew wk ((wk.drewN d).drewN q)) := Lib.hid fun q => ⟨_, World.drewN_drewN _ _ _⟩
              generalize wk.drewN d = wd at *
              go_wp2
              refine QS.wp_region (.bool true) (by kernel_rfl) (by kernel_rfl) ?_
              iterate 17 (refine QS.det (fun K hK => ?_); go_simp; refine hK _ ?_; clear hK K)
              refine QS.fl rfl rfl rfl rfl rfl ?_
              intro r1 hr1
              refine QS.fl rfl rfl rfl rfl rfl ?_
              intro r2 hr2
              refine QS.det (fun K hK => ?_); go_simp; refine hK _ ?_; clear hK K
              refine QS.nil ?_
              intro nq
              have hnext : Hid (cl .f32 r2 = cellE n (clsOf qs) R i k (j + 1)) := Lib.hid (by rw [hr2, hr1, hz'.out, hc1.out, hc2.out, ht1.out, ht2.out, hai.out, hak.out]; rfl)
              clear hr1 hr2
              go_wp2
              go_roundw
              case rel => exact ⟨j + 1, r2, by omega, by go_num, rfl, hnext, hD.out _⟩
              case measure => simp [intOf]; omega
            · obtain rfl : j = k := by omega
              have hMd := hMk.drew d
              have hbd := below_drewN hbk d
              obtain ⟨yo, hyo, _⟩ := hMd.get hptm
              have f0 := hMd.free pt
              have hpe : Hid (pt = i * n + j) := Lib.hid (by rw [hpt.out, hai.out])
              by_cases hki' : j < i
              · obtain ⟨ak, hak, hakl, hwk⟩ := rowAt HM.out (show j < n by omega) hn
                obtain ⟨t2, ht2, htm2, v4⟩ := placeAt hakl (show j < n by omega) hm100
                obtain ⟨y2, hy2, hc2⟩ := hMd.get htm2
                have hst : Hid (∀ V, V = ab .quo .f32 (cellE n (clsOf qs) R i j j) (R (j * n + j)) → stepE n (clsOf qs) i j R = some (updE R pt V)) := Lib.hid fun V hV => by
                  unfold stepE
                  rw [if_pos hki', hV, hpe.out]
                have hval : Hid (ab .quo .f32 (cl .f32 z) (cl .f32 y2) = ab .quo .f32 (cellE n (clsOf qs) R i j j) (R (j * n + j))) := Lib.hid (by rw [hz'.out, hc2.out, ht2.out, hak.out])
                generalize wk.drewN d = wd at *
                go_wp2_with (refine wpList_fl rfl rfl rfl rfl rfl ?_; intro r1 d1 hr1)
                go_roundw
                case rel => exact ⟨j + 1, _, by omega, by go_num, Lib.hid (row_next hrow.out (hst.out _ (hr1.trans hval.out))), (hMd.set hptm rfl).drew d1, below_drewN (hbd.setCell hgw _) d1⟩
                case measure => simp [intOf]; omega
              · obtain rfl : j = i := by omega
                have hst : Hid (gtB (cellE n (clsOf qs) R j j j) (some 0) = true → ∀ V, V = rootF (cellE n (clsOf qs) R j j j) → stepE n (clsOf qs) j j R = some (updE R pt V)) := Lib.hid fun hgt V hV => by
                  unfold stepE
                  rw [if_neg hki', if_pos hgt, hV, hpe.out]
                have hst' : Hid (gtB (cellE n (clsOf qs) R j j j) (some 0) = false → stepE n (clsOf qs) j j R = none) := Lib.hid fun hgt => by
                  unfold stepE
                  rw [if_neg hki', hgt]
                  rfl
                generalize wk.drewN d = wd at *
                by_cases hgt : aord .f32 (cl .f32 z) (some 0) = some .gt
                · have hgt' : Hid (gtB (cellE n (clsOf qs) R j j j) (some 0) = true) := Lib.hid (by rw [← hz'.out]; exact gtB_some hgt)
                  go_wp2_with (go_at_call 67; refine (rootNumber _ _).mono ?_; rintro e w' ⟨r1, rfl, hr1, d1, rfl⟩)
                  go_roundw
                  case rel => exact ⟨j + 1, _, by omega, by go_num, Lib.hid (row_next hrow.out (hst.out hgt'.out _ (by rw [← hz'.out]; exact hr1))), (hMd.set hptm rfl).drew d1, below_drewN (hbd.setCell hgw _) d1⟩
                  case measure => first | (simp [intOf]; done) | (simp [intOf]; omega)
                · have hgt' : Hid (gtB (cellE n (clsOf qs) R j j j) (some 0) = false) := Lib.hid (by rw [← hz'.out]; unfold gtB; simpa using hgt)
                  have hgt2 : (aord .f32 (cl .f32 z) (some 0) == some .gt) = false := by simpa using hgt
                  clear hgt
                  have hno := Lib.hid (solve_none (b := clsOf bs) hfill.out hrow.out (hst'.out hgt'.out) (Nat.le_refl _) hlt)
                  go_wp2
                  have := NewFB.none hno.out hbd
                  exact bodyPost_ret (by simp [results, Try.results39, go_sem]) rfl this
        · obtain rfl : k = i + 1 := by omega
          go_wp2
          go_roundw
          case rel => exact ⟨i + 1, _, by omega, by go_num, Lib.hid (fill_next hfill.out hrow.out), hMk, hbk⟩
          case measure => simp [intOf]; omega
    · obtain rfl : n = i := by omega
      generalize hRR : R0 = R at *
      clear hRR
      have hgl := hM.lt
      go_wp2_with (at_make; refine wpList_make_full _ rfl (.tmp 121) (.tmp 121) 36 rfl wi.heap.size 37 i0 (.float .f32 0) 1 Try.underlying36 hi hz0 hz1 .i64 .i64 _ _ n rfl rfl rfl rfl (by rw [hz2]; omega) (by unfold maxLen; omega) (Nat.le_refl _) ?_; intro w5 hown hgrow)
      have hq : w.heap.size ≤ wi.heap.size := hb.size
      have hX5 : Mat w5 wi.heap.size n (fwdE n R (clsOf bs) 0) := by
        have := Own.of_row hown
        rw [fls_made] at this
        refine ⟨List.replicate n 0, [], by simp, fun t ht => ?_, by simpa using this⟩
        simp [List.getD_eq_getElem?_getD, ht, cl_zero, fwdE]
      have hM5 := hM.grown hgrow (by simp)
      have hb5 := hb.grown hgrow hb.size (by simp)
      clear hM hb hown hgrow
      generalize wi.heap.size = q at *
      have hgq1 : g ≠ q := by omega
      have hgq2 : q ≠ g := by omega
      go_loopw [124] (fun p wr => ∃ (p' : Nat), p' ≤ n ∧ p = .int .i64 (p' : Int) ∧ Mat wr q n (fwdE n R (clsOf bs) p') ∧ Mat wr g m R ∧ Below w.heap.size w wr) (fun p _ => n - (intOf p).toNat)
      case atStart => exact ⟨0, Nat.zero_le _, rfl, hX5, hM5, hb5⟩
      case round =>
        obtain ⟨i, hin, rfl, hX, hMr, hbr⟩ := hrel
        clear hX5 hM5 hb5
        generalize wr = wk at *
        by_cases hlt' : i < n
        · obtain ⟨ai, hai, hail, hwi⟩ := rowAt HM.out hlt' hn
          obtain ⟨b0, off0, z0, e0, hbb0, hc0, hz⟩ := (h'.below hbr).get hlt'
          subst e0
          have hs0 : Hid (cl .f32 z0 = accE (clsOf bs i) (fun j => R (i * n + j)) (fwdE n R (clsOf bs) i) 0) := Lib.hid (by show _ = clsOf bs i; unfold clsOf; rw [hz.out])
          go_wp2
          go_loopw [14, 15, 132] (fun s _ j wj => ∃ (j' z : Nat), j' ≤ i ∧ j = .int .i64 (j' : Int) ∧ s = .float .f32 z ∧ Hid (cl .f32 z = accE (clsOf bs i) (fun j => R (i * n + j)) (fwdE n R (clsOf bs) i) j') ∧ Drew wk wj) (fun _ _ j _ => i - (intOf j).toNat)
          case atStart => exact ⟨0, z0, Nat.zero_le _, rfl, rfl, hs0, Drew.refl _⟩
          case round =>
            obtain ⟨j, z, hjk, rfl, rfl, hz', d, rfl⟩ := hrel
            by_cases hltj : j < i
            · obtain ⟨t1, ht1, htm1, v2⟩ := placeAt hail (show j < n by omega) hm100
              obtain ⟨y1, hy1, hc1⟩ := (hMr.drew d).get htm1
              have hjn : j < n := by omega
              obtain ⟨y2, hy2, hc2⟩ := (hX.drew d).get hjn
              have hD : Hid (∀ q, Drew wk ((wk.drewN d).drewN q)) := Lib.hid fun q => ⟨_, World.drewN_drewN _ _ _⟩
              generalize wk.drewN d = wd at *
              go_wp2
              refine QS.wp_region (.bool true) (by kernel_rfl) (by kernel_rfl) ?_
              iterate 13 (refine QS.det (fun K hK => ?_); go_simp; refine hK _ ?_; clear hK K)
              refine QS.fl rfl rfl rfl rfl rfl ?_
              intro r1 hr1
              refine QS.fl rfl rfl rfl rfl rfl ?_
              intro r2 hr2
              refine QS.det (fun K hK => ?_); go_simp; refine hK _ ?_; clear hK K
              refine QS.nil ?_
              intro nq
              have hnext : Hid (cl .f32 r2 = accE (clsOf bs i) (fun j => R (i * n + j)) (fwdE n R (clsOf bs) i) (j + 1)) := Lib.hid (by rw [hr2, hr1, hz'.out, hc1.out, hc2.out, ht1.out, hai.out]; rfl)
              clear hr1 hr2
              go_wp2
              go_roundw
              case rel => exact ⟨j + 1, r2, by omega, by go_num, rfl, hnext, hD.out _⟩
              case measure => simp [intOf]; omega
            · obtain rfl : j = i := by omega
              obtain ⟨t1, ht1, htm1, v2⟩ := placeAt hail (show j < n by omega) hm100
              obtain ⟨y1, hy1, hc1⟩ := (hMr.drew d).get htm1
              have hMd := hMr.drew d
              have hXd := hX.drew d
              obtain ⟨yo, hyo, _⟩ := hXd.get hlt'
              have f0 := hXd.free j
              have hbd := below_drewN hbr d
              have hval : Hid (ab .quo .f32 (cl .f32 z) (cl .f32 y1) = ab .quo .f32 (accE (clsOf bs j) (fun t => R (j * n + t)) (fwdE n R (clsOf bs) j) j) (R (j * n + j))) := Lib.hid (by rw [hz'.out, hc1.out, ht1.out, hai.out])
              generalize wk.drewN d = wd at *
              go_wp2_with (refine wpList_fl rfl rfl rfl rfl rfl ?_; intro r1 d1 hr1)
              go_roundw
              case rel =>
                refine ⟨j + 1, by omega, by go_num, ?_, (hMd.other hgq1 _).drew d1, below_drewN (hbd.setCell hq _) d1⟩
                have e : updE (fwdE n R (clsOf bs) j) j (cl .f32 r1) = fwdE n R (clsOf bs) (j + 1) := by
                  show _ = updE (fwdE n R (clsOf bs) j) j _
                  rw [hr1, hval.out]
                rw [← e]
                exact (hXd.set hlt' rfl).drew d1
              case measure => simp [intOf]; omega
        · obtain rfl : n = i := by omega
          obtain ⟨X0, hX0⟩ : ∃ X, Hid (X = fwdE n R (clsOf bs) n) := ⟨_, rfl⟩
          rw [← hX0.out] at hX
          have hX1 : Mat wk q n (bwdE n R X0 0) := hX
          clear hX
          go_wp2
          go_loopw [16] (fun s wr => ∃ (mm : Nat) (x : Int), mm ≤ n ∧ x = (n : Int) - 1 - mm ∧ s = .int .i64 x ∧ Mat wr q n (bwdE n R X0 mm) ∧ Mat wr g m R ∧ Below w.heap.size w wr) (fun s _ => (intOf s + 1).toNat)
          case atStart => exact ⟨0, _, Nat.zero_le _, by simp, rfl, hX1, hMr, hbr⟩
          case round =>
            obtain ⟨mm, x, hmm, hx, rfl, hY, hMy, hby⟩ := hrel
            clear hX1 hMr hbr
            generalize wr = wk2 at *
            by_cases hltm : mm < n
            · obtain ⟨i, rfl⟩ : ∃ i : Nat, x = (i : Int) := ⟨x.toNat, by omega⟩
              have hni : i = n - 1 - mm := by omega
              have hi0 : i < n := by omega
              have HI := Lib.hid hni
              clear hx hni
              obtain ⟨Y, hYe⟩ : ∃ Y, Hid (Y = bwdE n R X0 mm) := ⟨_, rfl⟩
              rw [← hYe.out] at hY
              obtain ⟨z0, hz0c, hz0⟩ := hY.get hi0
              have hs0 : Hid (cl .f32 z0 = backE n R Y i (i + 1 - (i + 1))) := Lib.hid (by rw [Nat.sub_self]; exact hz0.out)
              go_wp2
              go_loopw [17, 18] (fun s j wj => ∃ (j' z : Nat), i + 1 ≤ j' ∧ j' ≤ n ∧ j = .int .i64 (j' : Int) ∧ s = .float .f32 z ∧ Hid (cl .f32 z = backE n R Y i (j' - (i + 1))) ∧ Drew wk2 wj) (fun _ j _ => n - (intOf j).toNat)
              case atStart => exact ⟨i + 1, z0, Nat.le_refl _, by omega, by go_num, rfl, hs0, Drew.refl _⟩
              case round =>
                obtain ⟨j, z, hij, hjn, rfl, rfl, hz', d, rfl⟩ := hrel
                by_cases hltj : j < n
                · obtain ⟨aj, haj, hajl, hwj⟩ := rowAt HM.out hltj hn
                  obtain ⟨t1, ht1, htm1, v2⟩ := placeAt hajl hi0 hm100
                  obtain ⟨y1, hy1, hc1⟩ := (hMy.drew d).get htm1
                  obtain ⟨y2, hy2, hc2⟩ := (hY.drew d).get hltj
                  have hD : Hid (∀ q, Drew wk2 ((wk2.drewN d).drewN q)) := Lib.hid fun q => ⟨_, World.drewN_drewN _ _ _⟩
                  generalize wk2.drewN d = wd at *
                  go_wp2
                  refine QS.wp_region (.bool true) (by kernel_rfl) (by kernel_rfl) ?_
                  iterate 13 (refine QS.det (fun K hK => ?_); go_simp; refine hK _ ?_; clear hK K)
                  refine QS.fl rfl rfl rfl rfl rfl ?_
                  intro r1 hr1
                  refine QS.fl rfl rfl rfl rfl rfl ?_
                  intro r2 hr2
                  refine QS.det (fun K hK => ?_); go_simp; refine hK _ ?_; clear hK K
                  refine QS.nil ?_
                  intro nq
                  have hnext : Hid (cl .f32 r2 = backE n R Y i (j + 1 - (i + 1))) := Lib.hid (by rw [back_next hij, hr2, hr1, hz'.out, hc1.out, hc2.out, ht1.out, haj.out])
                  clear hr1 hr2
                  go_wp2
                  go_roundw
                  case rel => exact ⟨j + 1, r2, by omega, by omega, by go_num, rfl, hnext, hD.out _⟩
                  case measure => simp [intOf]; omega
                · obtain rfl : j = n := by omega
                  obtain ⟨aj, haj, hajl, hwj⟩ := rowAt HM.out hi0 hn
                  obtain ⟨t1, ht1, htm1, v2⟩ := placeAt hajl hi0 hm100
                  obtain ⟨y1, hy1, hc1⟩ := (hMy.drew d).get htm1
                  obtain ⟨y2, hy2, _⟩ := (hY.drew d).get hi0
                  have hMd := hMy.drew d
                  have hYd := hY.drew d
                  have f0 := hYd.free i
                  have hbd := below_drewN hby d
                  have hval : Hid (ab .quo .f32 (cl .f32 z) (cl .f32 y1) = ab .quo .f32 (backE j R Y i (j - 1 - i)) (R (i * j + i))) := Lib.hid (by rw [hz'.out, hc1.out, ht1.out, haj.out, show j - (i + 1) = j - 1 - i by omega])
                  generalize wk2.drewN d = wd at *
                  go_wp2_with (refine wpList_fl rfl rfl rfl rfl rfl ?_; intro r1 d1 hr1)
                  go_roundw
                  case rel =>
                    refine ⟨mm + 1, _, by omega, ?_, rfl, ?_, (hMd.other hgq1 _).drew d1, below_drewN (hbd.setCell hq _) d1⟩
                    · have := HI.out
                      omega
                    · have e : updE Y i (cl .f32 r1) = bwdE j R X0 (mm + 1) := by
                        show _ = updE (bwdE j R X0 mm) (j - 1 - mm) (ab .quo .f32 (backE j R (bwdE j R X0 mm) (j - 1 - mm) (j - 1 - (j - 1 - mm))) (R ((j - 1 - mm) * j + (j - 1 - mm))))
                        rw [← HI.out, ← hYe.out, hr1, hval.out]
                      rw [← e]
                      exact (hYd.set hi0 rfl).drew d1
                  case measure => simp [intOf]
            · obtain rfl : mm = n := by omega
              obtain rfl : x = -1 := by omega
              obtain ⟨us, rest', hul, hcl, ho⟩ := hY
              rw [hX0.out] at hcl
              have hsol := solved (sq := clsOf qs) hfill.out hul hcl
              have hFl : FlS wk2 (some ⟨q, 0, none⟩) mm us := ⟨hul, by omega, .inr ⟨q, 0, rfl, ho.lt, fun t ht => by rw [Nat.zero_add]; exact ho.at (by rw [List.getElem?_append_left (by rw [fls_len]; omega)]; exact fls_get (by omega))⟩⟩
              have call := areFinite (some ⟨q, 0, none⟩) mm mm us wk2 hFl
              obtain ⟨fin1, fin2⟩ := NewFB.some (cap := mm) hsol hul (by omega) hq ho hby
              cases hf : finAll us
              all_goals
                rw [hf] at call
                go_wp2_with (go_at_call 51; refine call.mono ?_; rintro e w' ⟨rfl, d, rfl⟩)
              · obtain ⟨fa, fc, fe, fM, fb⟩ := fin2 hf
                exact bodyPost_ret (by simp [results, Try.results39, go_sem]) rfl ⟨fa, fc, fe, fM.below (below_drewN (Below.refl _ _) d), below_drewN fb d⟩
              · obtain ⟨fa, fc, fe, fM, fb⟩ := fin1 hf
                exact bodyPost_ret (by simp [results, Try.results39, go_sem]) rfl ⟨fa, fc, fe, fM.below (below_drewN (Below.refl _ _) d), below_drewN fb d⟩
end Go.Proofs.Ytikdagkopalojaa
