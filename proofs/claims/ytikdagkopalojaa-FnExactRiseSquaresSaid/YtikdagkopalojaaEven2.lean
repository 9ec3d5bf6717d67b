/-
  An even square: the specification's words.
-/
import Derived.Test.YtikdagkopalojaaEven
import Derived.Laws.MakeOwn
namespace Go.Proofs.Ytikdagkopalojaa
open Go.RowKit
attribute [local go_sem] order_cl cl_zero cl_one cl_two aord_none

def clsOf (zs : List Nat) (t : Nat) : Cl := cl .f32 (zs.getD t 0)

theorem gtB_some {X : Cl} (h : aord .f32 X (some 0) = some .gt) : gtB X (some 0) = true := by unfold gtB; rw [h]; rfl

set_option maxRecDepth 20000 in
set_option maxHeartbeats 8000000 in
theorem l05Even (a a' : Option Addr) (m cap n cap' : Nat) (qs bs : List Nat) (w : World) (h : FlS w a m qs) (h' : FlS w a' n bs) (hmn : m = n * n) (hn1 : 1 ≤ n) (hn : n ≤ 10) :
    Calls Try.prog 66 #[.slice a m cap, .slice a' n cap'] w (NewFB (outE n (clsOf qs) (clsOf bs)) (okE n (clsOf qs) (clsOf bs)) w) := by
  have hm := h.max
  have hm100 : m ≤ 100 := by rw [hmn]; exact Nat.mul_le_mul hn hn
  have hnn : IntKind.i64.wrap ((n : Int) * (n : Int)) = (m : Int) := by
    have e : ((n : Int) * (n : Int)) = (m : Int) := by rw [hmn]; simp
    rw [e]
    exact IntWalk.i64_in _ (by omega)
  obtain ⟨i0, hi, hz0, hz1, hz2⟩ := info_parts infoF
  have HM := Lib.hid hmn
  clear hmn
  go_enter Try.func66, Try.ntmps66
  go_wp2_with (at_make; refine wpList_make_full _ rfl (.tmp 23) (.tmp 23) 36 rfl w.heap.size 37 i0 (.float .f32 0) 1 Try.underlying36 hi hz0 hz1 .i64 .i64 _ _ m rfl rfl rfl rfl (by rw [hz2]; omega) (by unfold maxLen; omega) (Nat.le_refl _) ?_; intro w1 hown hgrow)
  have hM1 : Mat w1 w.heap.size m (fun _ => some 0) := by
    have := Own.of_row hown
    rw [fls_made] at this
    refine ⟨List.replicate m 0, [], by simp, fun t ht => ?_, by simpa using this⟩
    simp [List.getD_eq_getElem?_getD, ht, cl_zero]
  have hb1 : Below w.heap.size w w1 := (Below.refl _ _).grown hgrow (Nat.le_refl _) (by simp)
  clear hown hgrow
  generalize hg : w.heap.size = g at hM1 ⊢
  have hgw : w.heap.size ≤ g := Nat.le_of_eq hg
  go_loopw [8] (fun i wr => ∃ (i' : Nat) (R : Nat → Cl), i' ≤ n ∧ i = .int .i64 (i' : Int) ∧ Hid (fillE n (clsOf qs) i' = some R) ∧ Mat wr g m R ∧ Below w.heap.size w wr) (fun i _ => n - (intOf i).toNat)
  case atStart => exact ⟨0, _, Nat.zero_le _, rfl, rfl, hM1, hb1⟩
  case round =>
    obtain ⟨i, R0, hin, rfl, hfill, hM, hb⟩ := hrel
    clear hM1 hb1
    generalize wr = wi at *
    by_cases hlt : i < n
    · obtain ⟨ai, hai, hail, hwi⟩ := rowAt HM.out hlt hn
      go_wp2
      go_loopw [9] (fun k wk => ∃ (k' : Nat) (R : Nat → Cl), k' ≤ i + 1 ∧ k = .int .i64 (k' : Int) ∧ Hid (rowE n (clsOf qs) i k' R0 = some R) ∧ Mat wk g m R ∧ Below w.heap.size w wk) (fun k _ => i + 1 - (intOf k).toNat)
      case atStart => exact ⟨0, _, Nat.zero_le _, rfl, rfl, hM, hb⟩
      case round =>
        obtain ⟨k, R, hki, rfl, hrow, hMk, hbk⟩ := hrel
        clear hM hb
        generalize wr = wk at *
        by_cases hle : k ≤ i
        · obtain ⟨pt, hpt, hptm, hw2⟩ := placeAt hail (show k < n by omega) hm100
          obtain ⟨b0, off0, z0, e0, hbb0, hc0, hz⟩ := (h.below hbk).get hptm
          subst e0
          have hs0 : Hid (cl .f32 z0 = cellE n (clsOf qs) R i k 0) := Lib.hid (by show _ = clsOf qs (i * n + k); unfold clsOf; rw [← hai.out, ← hpt.out, hz.out])
          go_wp2
          go_loopw [10, 11] (fun s j wj => ∃ (j' z : Nat), j' ≤ k ∧ j = .int .i64 (j' : Int) ∧ s = .float .f32 z ∧ Hid (cl .f32 z = cellE n (clsOf qs) R i k j') ∧ Drew wk wj) (fun _ j _ => k - (intOf j).toNat)
          case atStart => exact ⟨0, z0, Nat.zero_le _, rfl, rfl, hs0, Drew.refl _⟩
          case round =>
            obtain ⟨j, z, hjk, rfl, rfl, hz', d, rfl⟩ := hrel
            by_cases hltj : j < k
            · obtain ⟨t1, ht1, htm1, v2⟩ := placeAt hail (show j < n by omega) hm100
              obtain ⟨ak, hak, hakl, hwk⟩ := rowAt HM.out (show k < n by omega) hn
              obtain ⟨t2, ht2, htm2, v4⟩ := placeAt hakl (show j < n by omega) hm100
              obtain ⟨y1, hy1, hc1⟩ := (hMk.drew d).get htm1
              obtain ⟨y2, hy2, hc2⟩ := (hMk.drew d).get htm2
              have hD : Hid (∀ q, Drew wk ((wk.drewN d).drewN q)) := Lib.hid fun q => ⟨_, World.drewN_drewN _ _ _⟩
              generalize wk.drewN d = wd at *
              go_wp2
              refine QS.wp_region (.bool true) (by kernel_rfl) (by kernel_rfl) ?_
              iterate 17 (refine QS.det (fun K hK => ?_); go_simp; refine hK _ ?_; clear hK K)
              refine QS.fl rfl rfl rfl rfl rfl ?_
              intro r1 hr1
              refine QS.fl rfl rfl rfl rfl rfl ?_
              intro r2 hr2
              refine QS.det (fun K hK => ?_); go_simp; refine hK _ ?_; clear hK K
              refine QS.nil ?_
              intro nq
              have hnext : Hid (cl .f32 r2 = cellE n (clsOf qs) R i k (j + 1)) := Lib.hid (by rw [hr2, hr1, hz'.out, hc1.out, hc2.out, ht1.out, ht2.out, hai.out, hak.out]; rfl)
              clear hr1 hr2
              go_wp2
              go_roundw
              case rel => exact ⟨j + 1, r2, by omega, by go_num, rfl, hnext, hD.out _⟩
              case measure => simp [intOf]; omega
            · obtain rfl : j = k := by omega
              have hMd := hMk.drew d
              have hbd := below_drewN hbk d
              obtain ⟨yo, hyo, _⟩ := hMd.get hptm
              have f0 := hMd.free pt
              have hpe : Hid (pt = i * n + j) := Lib.hid (by rw [hpt.out, hai.out])
              by_cases hki' : j < i
              · obtain ⟨ak, hak, hakl, hwk⟩ := rowAt HM.out (show j < n by omega) hn
                obtain ⟨t2, ht2, htm2, v4⟩ := placeAt hakl (show j < n by omega) hm100
                obtain ⟨y2, hy2, hc2⟩ := hMd.get htm2
                have hst : Hid (∀ V, V = ab .quo .f32 (cellE n (clsOf qs) R i j j) (R (j * n + j)) → stepE n (clsOf qs) i j R = some (updE R pt V)) := Lib.hid fun V hV => by
                  unfold stepE
                  rw [if_pos hki', hV, hpe.out]
                have hval : Hid (ab .quo .f32 (cl .f32 z) (cl .f32 y2) = ab .quo .f32 (cellE n (clsOf qs) R i j j) (R (j * n + j))) := Lib.hid (by rw [hz'.out, hc2.out, ht2.out, hak.out])
                generalize wk.drewN d = wd at *
                go_wp2_with (refine wpList_fl rfl rfl rfl rfl rfl ?_; intro r1 d1 hr1)
                go_roundw
                case rel => exact ⟨j + 1, _, by omega, by go_num, Lib.hid (row_next hrow.out (hst.out _ (hr1.trans hval.out))), (hMd.set hptm rfl).drew d1, below_drewN (hbd.setCell hgw _) d1⟩
                case measure => simp [intOf]; omega
              · obtain rfl : j = i := by omega
                have hst : Hid (gtB (cellE n (clsOf qs) R j j j) (some 0) = true → ∀ V, V = rootF (cellE n (clsOf qs) R j j j) → stepE n (clsOf qs) j j R = some (updE R pt V)) := Lib.hid fun hgt V hV => by
                  unfold stepE
                  rw [if_neg hki', if_pos hgt, hV, hpe.out]
                have hst' : Hid (gtB (cellE n (clsOf qs) R j j j) (some 0) = false → stepE n (clsOf qs) j j R = none) := Lib.hid fun hgt => by
                  unfold stepE
                  rw [if_neg hki', hgt]
                  rfl
                generalize wk.drewN d = wd at *
                by_cases hgt : aord .f32 (cl .f32 z) (some 0) = some .gt
                · have hgt' : Hid (gtB (cellE n (clsOf qs) R j j j) (some 0) = true) := Lib.hid (by rw [← hz'.out]; exact gtB_some hgt)
                  go_wp2_with (go_at_call 76; refine (l01Sqrt _ _).mono ?_; rintro e w' ⟨r1, rfl, hr1, d1, rfl⟩)
                  go_roundw
                  case rel => exact ⟨j + 1, _, by omega, by go_num, Lib.hid (row_next hrow.out (hst.out hgt'.out _ (by rw [← hz'.out]; exact hr1))), (hMd.set hptm rfl).drew d1, below_drewN (hbd.setCell hgw _) d1⟩
                  case measure => first | (simp [intOf]; done) | (simp [intOf]; omega)
                · have hgt' : Hid (gtB (cellE n (clsOf qs) R j j j) (some 0) = false) := Lib.hid (by rw [← hz'.out]; unfold gtB; simpa using hgt)
                  have hgt2 : (aord .f32 (cl .f32 z) (some 0) == some .gt) = false := by simpa using hgt
                  clear hgt
                  have hno := Lib.hid (solve_none (b := clsOf bs) hfill.out hrow.out (hst'.out hgt'.out) (Nat.le_refl _) hlt)
                  go_wp2
                  have := NewFB.none hno.out hbd
                  exact bodyPost_ret (by simp [results, Try.results66, go_sem]) rfl this
        · obtain rfl : k = i + 1 := by omega
          go_wp2
          go_roundw
          case rel => exact ⟨i + 1, _, by omega, by go_num, Lib.hid (fill_next hfill.out hrow.out), hMk, hbk⟩
          case measure => simp [intOf]; omega
    · obtain rfl : n = i := by omega
      generalize hRR : R0 = R at *
      clear hRR
      have hrow0 := row_emptyF wi w.heap.size 37 hb.size
      have hba : Below wi.heap.size wi (wi.alloc (.cells #[] 37)) := (Below.refl _ _).alloc (Nat.le_refl _) _
      have hM5 := hM.below hba
      have hb5 := hb.trans (hba.mono hb.size)
      have hgl := hM.lt
      go_wp2
      clear hM hb hba
      generalize wi.alloc (.cells #[] 37) = w5 at *
      generalize wi.heap.size = q0 at *
      go_loopw [12, 13] (fun v p wr => ∃ (p' : Nat) (us : List Nat), p' ≤ n ∧ p = .int .i64 (p' : Int) ∧ us.length = p' ∧ Hid (∀ t, t < p' → cl .f32 (us.getD t 0) = fwdE n R (clsOf bs) p' t) ∧ wr.ownsRow w.heap.size 37 1 v p' (fls us) ∧ (∀ q, v.ownBlock = some q → g < q) ∧ Mat wr g m R ∧ Below w.heap.size w wr) (fun _ p _ => n - (intOf p).toNat)
      case atStart => exact ⟨0, [], Nat.zero_le _, rfl, rfl, fun t ht => absurd ht (Nat.not_lt_zero _), hrow0, fun q hq => by simp [Value.ownBlock] at hq; omega, hM5, hb5⟩
      case round =>
        obtain ⟨i, us, hin, rfl, hul, hfw, hrow, hfar, hMr, hbr⟩ := hrel
        clear hrow0 hM5 hb5
        generalize u12 = v at *
        generalize wr = wk at *
        by_cases hlt' : i < n
        · obtain ⟨ai, hai, hail, hwi⟩ := rowAt HM.out hlt' hn
          obtain ⟨b0, off0, z0, e0, hbb0, hc0, hz⟩ := (h'.below hbr).get hlt'
          subst e0
          have hs0 : Hid (cl .f32 z0 = accE (clsOf bs i) (fun j => R (i * n + j)) (fwdE n R (clsOf bs) i) 0) := Lib.hid (by show _ = clsOf bs i; unfold clsOf; rw [hz.out])
          go_wp2
          go_loopw [14, 15] (fun s j wj => ∃ (j' z : Nat), j' ≤ i ∧ j = .int .i64 (j' : Int) ∧ s = .float .f32 z ∧ Hid (cl .f32 z = accE (clsOf bs i) (fun j => R (i * n + j)) (fwdE n R (clsOf bs) i) j') ∧ Drew wk wj) (fun _ j _ => i - (intOf j).toNat)
          case atStart => exact ⟨0, z0, Nat.zero_le _, rfl, rfl, hs0, Drew.refl _⟩
          case round =>
            obtain ⟨j, z, hjk, rfl, rfl, hz', d, rfl⟩ := hrel
            by_cases hltj : j < i
            · obtain ⟨t1, ht1, htm1, v2⟩ := placeAt hail (show j < n by omega) hm100
              obtain ⟨y1, hy1, hc1⟩ := (hMr.drew d).get htm1
              obtain ⟨q, cq, rest, hv, hq, ho⟩ := row_ownF hrow (by omega)
              subst hv
              have hy2 : (wk.drewN d).cell? ⟨q, j, none⟩ = some (.float .f32 (us.getD j 0)) := (ho.drew d).at (by rw [List.getElem?_append_left (by rw [fls_len]; omega)]; exact fls_get (by omega))
              have hD : Hid (∀ q, Drew wk ((wk.drewN d).drewN q)) := Lib.hid fun q => ⟨_, World.drewN_drewN _ _ _⟩
              have hc2 := Lib.hid (hfw.out j hltj)
              generalize us.getD j 0 = y2 at *
              generalize wk.drewN d = wd at *
              go_wp2
              refine QS.wp_region (.bool true) (by kernel_rfl) (by kernel_rfl) ?_
              iterate 13 (refine QS.det (fun K hK => ?_); go_simp; refine hK _ ?_; clear hK K)
              refine QS.fl rfl rfl rfl rfl rfl ?_
              intro r1 hr1
              refine QS.fl rfl rfl rfl rfl rfl ?_
              intro r2 hr2
              refine QS.det (fun K hK => ?_); go_simp; refine hK _ ?_; clear hK K
              refine QS.nil ?_
              intro nq
              have hnext : Hid (cl .f32 r2 = accE (clsOf bs i) (fun j => R (i * n + j)) (fwdE n R (clsOf bs) i) (j + 1)) := Lib.hid (by rw [hr2, hr1, hz'.out, hc1.out, hc2.out, ht1.out, hai.out]; rfl)
              clear hr1 hr2
              go_wp2
              go_roundw
              case rel => exact ⟨j + 1, r2, by omega, by go_num, rfl, hnext, hD.out _⟩
              case measure => simp [intOf]; omega
            · obtain rfl : j = i := by omega
              obtain ⟨t1, ht1, htm1, v2⟩ := placeAt hail (show j < n by omega) hm100
              obtain ⟨y1, hy1, hc1⟩ := (hMr.drew d).get htm1
              have hMd := hMr.drew d
              have hbd := below_drewN hbr d
              have hrowd : (wk.drewN d).ownsRow w.heap.size 37 1 v j (fls us) := hrow
              have hval : Hid (ab .quo .f32 (cl .f32 z) (cl .f32 y1) = ab .quo .f32 (accE (clsOf bs j) (fun t => R (j * n + t)) (fwdE n R (clsOf bs) j) j) (R (j * n + j))) := Lib.hid (by rw [hz'.out, hc1.out, ht1.out, hai.out])
              generalize wk.drewN d = wd at *
              go_wp2_with (first
                | (refine wpList_fl rfl rfl rfl rfl rfl ?_; intro r1 d1 hr1; have hMe := hMd.drew d1; have hbe := below_drewN hbd d1; have hrowe : (wd.drewN d1).ownsRow w.heap.size 37 1 v j (fls us) := hrowd; have hge := hMe.lt; have hBe := hbe.size; generalize wd.drewN d1 = we at *)
                | (at_builtin; refine wpList_append_lies _ rfl (.tmp 122) (.tmp 133) 36 rfl w.heap.size 37 i0 (.float .f32 0) 1 4 Try.underlying36 hi hz0 hz1 hz2 rfl (by decide) v j (fls us) rfl (hrowe.alloc _) ⟨we.heap.size, 0, none⟩ 1 1 [.float .f32 r1] rfl rfl (World.news_of_block (heap_alloc_new _ _)) (by simp [Value.oneCell']) (by omega) (by unfold maxLen; omega) (by omega) (by simp; omega) (we.heap.size + 1) (by simp) ?_; intro q cq w2 hown hgrow hat hlt2))
              go_roundw
              case rel =>
                refine ⟨j + 1, us ++ [r1], by omega, by go_num, by simp [hul], Lib.hid (fwd_next hul hfw.out (hr1.trans hval.out)), by simpa [fls] using hown, ?_, (hMe.below ((Below.refl _ _).alloc (Nat.le_refl _) _)).grown hgrow ?_, (hbe.alloc hBe _).grown hgrow (by simp; omega) fun k hk => ?_⟩
                · intro q' hq'
                  simp [Value.ownBlock] at hq'
                  rcases hat with e | e
                  · have := hfar q e; omega
                  · omega
                · intro e
                  have := hfar g e.symm
                  omega
                · have := hfar k hk
                  omega
              case measure => simp [intOf]; omega
        · obtain rfl : n = i := by omega
          obtain ⟨q, cq, rest, hv, hq, ho⟩ := row_ownF hrow (by omega)
          subst hv
          have hgq := hfar q rfl
          have hX : Mat wk q n (fwdE n R (clsOf bs) n) := ⟨us, rest, hul, hfw.out, ho⟩
          have hgq1 : g ≠ q := by omega
          have hgq2 : q ≠ g := by omega
          clear hrow hfar ho hfw hul
          obtain ⟨X0, hX0⟩ : ∃ X, Hid (X = fwdE n R (clsOf bs) n) := ⟨_, rfl⟩
          rw [← hX0.out] at hX
          have hX1 : Mat wk q n (bwdE n R X0 0) := hX
          clear hX
          go_wp2
          go_loopw [16] (fun s wr => ∃ (mm : Nat) (x : Int), mm ≤ n ∧ x = (n : Int) - 1 - mm ∧ s = .int .i64 x ∧ Mat wr q n (bwdE n R X0 mm) ∧ Mat wr g m R ∧ Below w.heap.size w wr) (fun s _ => (intOf s + 1).toNat)
          case atStart => exact ⟨0, _, Nat.zero_le _, by simp, rfl, hX1, hMr, hbr⟩
          case round =>
            obtain ⟨mm, x, hmm, hx, rfl, hY, hMy, hby⟩ := hrel
            clear hX1 hMr hbr
            generalize wr = wk2 at *
            by_cases hltm : mm < n
            · obtain ⟨i, rfl⟩ : ∃ i : Nat, x = (i : Int) := ⟨x.toNat, by omega⟩
              have hni : i = n - 1 - mm := by omega
              have hi0 : i < n := by omega
              have HI := Lib.hid hni
              clear hx hni
              obtain ⟨Y, hYe⟩ : ∃ Y, Hid (Y = bwdE n R X0 mm) := ⟨_, rfl⟩
              rw [← hYe.out] at hY
              obtain ⟨z0, hz0c, hz0⟩ := hY.get hi0
              have hs0 : Hid (cl .f32 z0 = backE n R Y i (i + 1 - (i + 1))) := Lib.hid (by rw [Nat.sub_self]; exact hz0.out)
              go_wp2
              go_loopw [17, 18] (fun s j wj => ∃ (j' z : Nat), i + 1 ≤ j' ∧ j' ≤ n ∧ j = .int .i64 (j' : Int) ∧ s = .float .f32 z ∧ Hid (cl .f32 z = backE n R Y i (j' - (i + 1))) ∧ Drew wk2 wj) (fun _ j _ => n - (intOf j).toNat)
              case atStart => exact ⟨i + 1, z0, Nat.le_refl _, by omega, by go_num, rfl, hs0, Drew.refl _⟩
              case round =>
                obtain ⟨j, z, hij, hjn, rfl, rfl, hz', d, rfl⟩ := hrel
                by_cases hltj : j < n
                · obtain ⟨aj, haj, hajl, hwj⟩ := rowAt HM.out hltj hn
                  obtain ⟨t1, ht1, htm1, v2⟩ := placeAt hajl hi0 hm100
                  obtain ⟨y1, hy1, hc1⟩ := (hMy.drew d).get htm1
                  obtain ⟨y2, hy2, hc2⟩ := (hY.drew d).get hltj
                  have hD : Hid (∀ q, Drew wk2 ((wk2.drewN d).drewN q)) := Lib.hid fun q => ⟨_, World.drewN_drewN _ _ _⟩
                  generalize wk2.drewN d = wd at *
                  go_wp2
                  refine QS.wp_region (.bool true) (by kernel_rfl) (by kernel_rfl) ?_
                  iterate 13 (refine QS.det (fun K hK => ?_); go_simp; refine hK _ ?_; clear hK K)
                  refine QS.fl rfl rfl rfl rfl rfl ?_
                  intro r1 hr1
                  refine QS.fl rfl rfl rfl rfl rfl ?_
                  intro r2 hr2
                  refine QS.det (fun K hK => ?_); go_simp; refine hK _ ?_; clear hK K
                  refine QS.nil ?_
                  intro nq
                  have hnext : Hid (cl .f32 r2 = backE n R Y i (j + 1 - (i + 1))) := Lib.hid (by rw [back_next hij, hr2, hr1, hz'.out, hc1.out, hc2.out, ht1.out, haj.out])
                  clear hr1 hr2
                  go_wp2
                  go_roundw
                  case rel => exact ⟨j + 1, r2, by omega, by omega, by go_num, rfl, hnext, hD.out _⟩
                  case measure => simp [intOf]; omega
                · obtain rfl : j = n := by omega
                  obtain ⟨aj, haj, hajl, hwj⟩ := rowAt HM.out hi0 hn
                  obtain ⟨t1, ht1, htm1, v2⟩ := placeAt hajl hi0 hm100
                  obtain ⟨y1, hy1, hc1⟩ := (hMy.drew d).get htm1
                  obtain ⟨y2, hy2, _⟩ := (hY.drew d).get hi0
                  have hMd := hMy.drew d
                  have hYd := hY.drew d
                  have f0 := hYd.free i
                  have hbd := below_drewN hby d
                  have hval : Hid (ab .quo .f32 (cl .f32 z) (cl .f32 y1) = ab .quo .f32 (backE j R Y i (j - 1 - i)) (R (i * j + i))) := Lib.hid (by rw [hz'.out, hc1.out, ht1.out, haj.out, show j - (i + 1) = j - 1 - i by omega])
                  generalize wk2.drewN d = wd at *
                  go_wp2_with (refine wpList_fl rfl rfl rfl rfl rfl ?_; intro r1 d1 hr1)
                  go_roundw
                  case rel =>
                    refine ⟨mm + 1, _, by omega, ?_, rfl, ?_, (hMd.other hgq1 _).drew d1, below_drewN (hbd.setCell hq _) d1⟩
                    · have := HI.out
                      omega
                    · have e : updE Y i (cl .f32 r1) = bwdE j R X0 (mm + 1) := by
                        show _ = updE (bwdE j R X0 mm) (j - 1 - mm) (ab .quo .f32 (backE j R (bwdE j R X0 mm) (j - 1 - mm) (j - 1 - (j - 1 - mm))) (R ((j - 1 - mm) * j + (j - 1 - mm))))
                        rw [← HI.out, ← hYe.out, hr1, hval.out]
                      rw [← e]
                      exact (hYd.set hi0 rfl).drew d1
                  case measure => simp [intOf]
            · obtain rfl : mm = n := by omega
              obtain rfl : x = -1 := by omega
              obtain ⟨us, rest', hul, hcl, ho⟩ := hY
              rw [hX0.out] at hcl
              have hsol := solved (sq := clsOf qs) hfill.out hul hcl
              have hFl : FlS wk2 (some ⟨q, 0, none⟩) mm us := ⟨hul, by omega, .inr ⟨q, 0, rfl, ho.lt, fun t ht => by rw [Nat.zero_add]; exact ho.at (by rw [List.getElem?_append_left (by rw [fls_len]; omega)]; exact fls_get (by omega))⟩⟩
              have call := l02Finite (some ⟨q, 0, none⟩) mm cq us wk2 hFl
              obtain ⟨fin1, fin2⟩ := NewFB.some (cap := cq) hsol hul (by omega) hq ho hby
              cases hf : finAll us
              all_goals
                rw [hf] at call
                go_wp2_with (go_at_call 65; refine call.mono ?_; rintro e w' ⟨rfl, d, rfl⟩)
              · obtain ⟨fa, fc, fe, fM, fb⟩ := fin2 hf
                exact bodyPost_ret (by simp [results, Try.results66, go_sem]) rfl ⟨fa, fc, fe, fM.below (below_drewN (Below.refl _ _) d), below_drewN fb d⟩
              · obtain ⟨fa, fc, fe, fM, fb⟩ := fin1 hf
                exact bodyPost_ret (by simp [results, Try.results66, go_sem]) rfl ⟨fa, fc, fe, fM.below (below_drewN (Below.refl _ _) d), below_drewN fb d⟩
end Go.Proofs.Ytikdagkopalojaa
