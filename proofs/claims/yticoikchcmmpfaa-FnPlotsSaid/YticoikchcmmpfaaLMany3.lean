/-
  The point nearest to lines: the walk.
-/
import Derived.Test.YticoikchcmmpfaaLMany2
import Derived.Lib.SmallJoins
import Derived.Laws.OwnMore
namespace Go.Proofs.Yticoikchcmmpfaa
open Go.RowKit
attribute [local go_sem] order_cl cl_zero cl_one cl_two aord_none

theorem run_max_fl {P : Program} (ts : Array TypeId) (t : TypeId) {k : FloatKind} {x y : Nat} {X Y : Option Nat} {vx vy : Rat} (hx : cl k x = X) (hy : cl k y = Y) (h1 : Vl k X vx) (h2 : Vl k Y vy) : ∃ z, (z = x ∨ z = y) ∧ ∀ W, (Builtin.max_ ts t #[.float k x, .float k y]).run P W = .ok (.float k z) W := by
  have ho := order_cl k x y
  rw [hx, hy] at ho
  obtain ⟨o1, o2, o3⟩ := h1.order h2
  rcases (show vx < vy ∨ vx = vy ∨ vy < vx by grind) with h | h | h
  · rw [o1 h] at ho
    exact ⟨y, .inr rfl, fun W => by simp [Builtin.max_, Builtin.max2, ho]⟩
  · rw [o2 h] at ho
    refine ⟨if (k.decode x).neg then y else x, ?_, fun W => by simp [Builtin.max_, Builtin.max2, ho]⟩
    by_cases hn : (k.decode x).neg = true <;> simp [hn]
  · rw [o3 h] at ho
    exact ⟨x, .inl rfl, fun W => by simp [Builtin.max_, Builtin.max2, ho]⟩

theorem absolute {x : Nat} {X : Option Nat} (hx : cl .f32 x = X) (h : Fits (absX (wid X))) (w : World) : Calls Try.prog 32 #[.float .f32 x] w (RetF (nar (absX (wid X))) w) := by
  go_enter Try.func32, Try.ntmps32
  go_wp2_with (refine wpList_widc rfl rfl Try.underlying25 Try.underlying31 rfl hx ?_; intro r d hr)
  refine (mathAbs _ _).mono ?_
  rintro e w1 ⟨rfl, rfl⟩
  have ha := cl_abs hr
  have hn := h.of ha
  generalize r % 2 ^ 63 = y at *
  go_wp2_with (refine wpList_narc rfl rfl Try.underlying31 Try.underlying25 rfl hn ha ?_; intro z d hz)
  go_ret
  exact ⟨_, rfl, hz, Drew.n _ _⟩

/-- The normals of the first k lines. -/
def cxs (J : Nat → Nat) (k : Nat) : List Value := (List.range k).map fun i => .complex .f32 (nR (J i)) (nI (J i))
theorem cxs_succ (J : Nat → Nat) (k : Nat) : cxs J (k + 1) = cxs J k ++ [.complex .f32 (nR (J k)) (nI (J k))] := by simp [cxs, List.range_succ]
theorem cxs_len (J : Nat → Nat) (k : Nat) : (cxs J k).length = k := by simp [cxs]

/-- A row of the call's own, one cell an element: where it lies, and what stands there. -/
theorem row_at {w : World} {B : Nat} {E : TypeId} {v : Value} {n : Nat} {xs : List Value} (h : w.ownsRow B E 1 v n xs) (hn : 0 < n) : ∃ g c, v = .slice (some ⟨g, 0, none⟩) n c ∧ g < w.heap.size ∧ ∀ j, j < n → w.cell? ⟨g, j, none⟩ = xs[j]? := by
  obtain ⟨g, c, rfl, _, _⟩ := h.form hn
  exact ⟨g, c, rfl, (h.lt g rfl).2, fun j hj => h.cellAt j (by omega)⟩

theorem Vl.some {k : FloatKind} {X : Option Nat} {v : Rat} (h : Vl k X v) : ∃ n, X = Option.some n := by
  obtain ⟨n, _, _, _, rfl, _⟩ := h
  exact ⟨n, rfl⟩
/-- Two rows lie apart. -/
def Far (v1 v2 : Value) : Prop := ∀ g, v1.ownBlock = some g → v2.ownBlock ≠ some g
theorem Far.kept1 {v1 v2 : Value} (h : Far v1 v2) : v2.ownBlock = none ∨ v2.ownBlock ≠ v1.ownBlock := by
  cases e : v2.ownBlock with
  | none => exact .inl rfl
  | some g => right; intro e2; exact h g e2.symm e
theorem Far.kept2 {v1 v2 : Value} (h : Far v1 v2) : v1.ownBlock = none ∨ v1.ownBlock ≠ v2.ownBlock := by
  cases e : v1.ownBlock with
  | none => exact .inl rfl
  | some g => right; intro e2; exact h g e e2.symm

/-- What stands when k lines have been taken in. -/
structure Taken (J : Nat → Nat) (P : Nat → Nat × Nat) (B k : Nat) (p q r f g : Nat) (v1 v2 : Value) (hs : List Nat) (wr : World) : Prop where
  p : cl .f32 p = (accL (js J k)).1
  q : cl .f32 q = (accL (js J k)).2.1
  r : cl .f32 r = (accL (js J k)).2.2
  f : cl .f32 f = sumF J P nR k
  g : cl .f32 g = sumF J P nI k
  r1 : wr.ownsRow B 24 1 v1 k (cxs J k)
  r2 : wr.ownsRow B 25 1 v2 k (fls hs)
  hl : hs.length = k
  hh : ∀ i, i < k → cl .f32 (hs.getD i 0) = hX J P i
  far : Far v1 v2

set_option maxRecDepth 8000 in
set_option maxHeartbeats 4000000 in
theorem meetMany {n : Nat} {J : Nat → Nat} {P : Nat → Nat × Nat} {zx zy : Rat} (h : Lines n J P zx zy) (a b : Option Addr) (ca cb : Nat) (w : World) (hA : CxF w a n P) (hB : FlF w b n (fun i => tT (J i))) :
    Calls Try.prog 10 #[.slice a n ca, .slice b n cb] w (fun e w' => ∃ r q m, e = .returned (.tuple #[.complex .f32 r q, .float .f32 m, .bool true]) ∧ Below w.heap.size w w' ∧
      ∃ x y t, Vl .f32 (cl .f32 r) x ∧ Vl .f32 (cl .f32 q) y ∧ Vl .f32 (cl .f32 m) t ∧ Ab (x - zx) (46 / 10000) ∧ Ab (y - zy) (46 / 10000) ∧ 0 ≤ t ∧ t ≤ 95 / 10000) := by
  have hn2 := h.n2
  have hn6 := h.n6
  have cm := fun W => areMarks a n ca P W
  have hnum : ∀ i, i < n → NumC (P i) := fun i hi => by
    obtain ⟨_, _, _, _, v1, v2, _⟩ := h.pt i hi
    exact ⟨v1.isNum, v2.isNum⟩
  have hnumT : ∀ i, i < n → NumF (tT (J i)) := fun i hi => by
    obtain ⟨j1, j2⟩ := h.j hi
    have := (tab_get j1 j2).2.2.2.2.2.2.2.2.2.2.2.1
    unfold NumF
    rw [vl_cl this]
    exact this.isNum
  have cM := fun (W : World) (hW : CxF W a n P) => areMarks a n ca P W hW hnum (by omega) (by omega)
  have cF := fun (W : World) (hW : FlF W b n (fun i => tT (J i))) => areFinite b n cb _ W hW hnumT
  obtain ⟨i0, hi, hz0, hz1, hz2⟩ := info_parts infoC
  obtain ⟨i1, hi1, hy0, hy1, hy2⟩ := info_parts infoF
  obtain ⟨m, x, y, hm, hm0, hx, hy, ex, ey⟩ := lines_solve h
  clear cm
  have hd2 : decide ((n : Int) < 2) = false := by simp; omega
  go_enter Try.func10, Try.ntmps10
  go_wp2_with (first | (go_at_call 29; refine (cM _ hA).mono ?_; rintro e w' ⟨rfl, d8, rfl⟩) | (go_at_call 28; refine (cF _ (hB.below (below_drewN (Below.refl _ _) _))).mono ?_; rintro e w' ⟨rfl, d9, rfl⟩))
  go_loopw [7, 8, 9, 10, 11, 12, 13, 14, 15, 16, 17, 46] (fun p q r f g v1 v2 _ _ _ _ i wr => ∃ (k : Nat) (pw qw rw' fw gw : Nat) (hs : List Nat), i = .int .i64 (k : Int) ∧ k ≤ n ∧ p = .float .f32 pw ∧ q = .float .f32 qw ∧ r = .float .f32 rw' ∧ f = .float .f32 fw ∧ g = .float .f32 gw ∧ Taken J P w.heap.size k pw qw rw' fw gw v1 v2 hs wr ∧ Below w.heap.size w wr) (fun _ _ _ _ _ _ _ _ _ _ _ i _ => n - (intOf i).toNat)
  case atStart =>
    refine ⟨0, 0, 0, 0, 0, 0, [], rfl, Nat.zero_le _, rfl, rfl, rfl, rfl, rfl, ⟨cl_zero _, cl_zero _, cl_zero _, cl_zero _, cl_zero _, World.ownsRow_nil _ _ _ _, World.ownsRow_nil _ _ _ _, rfl, fun i hi => absurd hi (Nat.not_lt_zero _), fun g hg => by cases hg⟩, below_drewN (Below.refl _ _) _⟩
  case round =>
    obtain ⟨k, pw, qw, rw', fw, gw, hs, rfl, hk, rfl, rfl, rfl, rfl, rfl, ⟨t1, t2, t3, t4, t5, t6, t7, t8, t9, t10⟩, hb⟩ := hrel
    have hB0 := hb.size
    by_cases hlt : k < n
    · obtain ⟨j1, j2⟩ := h.j hlt
      obtain ⟨_, _, _, _, e5, e6, f5, f6, _, _, v3, _, _, _, _⟩ := tab_get j1 j2
      have cW := fun W => wayOf j1 j2 W
      have cI := fun u v (hu : cl .f32 u = some (uR (J k))) (hv : cl .f32 v = some (uI (J k))) W => mulComplex u v 0 1065353216 (by rw [hu, hv, cl_zero]; exact f5) (by rw [hu, hv, cl_zero]; exact f6) W
      have cn1 := vl_cl v3
      have cn2 : cl .f32 (nI (J k)) = some (nI (J k)) := vl_cl (h.normal hlt).2.1
      have cone : cl .f32 1065353216 = some 1065353216 := by decide
      obtain ⟨ba, oa, rfl, hba, ca0⟩ := (hA.below hb).get hlt
      obtain ⟨bb, ob, rfl, hbb, cb0⟩ := (hB.below hb).get hlt
      have hXk : innerX (some (nR (J k))) (some (nI (J k))) (cl .f32 (P k).1) (cl .f32 (P k).2) = hX J P k := rfl
      have hfp : ab .add .f32 (accL (js J k)).1 (ab .mul .f32 (some (nR (J k))) (some (nR (J k)))) = (accL (js J (k + 1))).1 := by rw [accL_succ]; rfl
      have hfq : ab .add .f32 (accL (js J k)).2.1 (ab .mul .f32 (some (nR (J k))) (some (nI (J k)))) = (accL (js J (k + 1))).2.1 := by rw [accL_succ]; rfl
      have hfr : ab .add .f32 (accL (js J k)).2.2 (ab .mul .f32 (some (nI (J k))) (some (nI (J k)))) = (accL (js J (k + 1))).2.2 := by rw [accL_succ]; rfl
      have hff : ab .add .f32 (sumF J P nR k) (ab .mul .f32 (hX J P k) (some (nR (J k)))) = sumF J P nR (k + 1) := rfl
      have hfg : ab .add .f32 (sumF J P nI k) (ab .mul .f32 (hX J P k) (some (nI (J k)))) = sumF J P nI (k + 1) := rfl
      clear cM cF hnum hnumT hm hm0 hx hy ex ey hd2 f5 f6 v3 hA hB
      generalize (accL (js J k)).1 = A1 at *
      generalize (accL (js J k)).2.1 = A2 at *
      generalize (accL (js J k)).2.2 = A3 at *
      generalize sumF J P nR k = S1 at *
      generalize sumF J P nI k = S2 at *
      generalize (P k).1 = z1 at *
      generalize (P k).2 = z2 at *
      go_wp2_with fail
      refine (cW _).mono ?_
      rintro e w1 ⟨u1, u2, rfl, hu1, hu2, d1, rfl⟩
      go_wp2_with fail
      refine (cI _ _ hu1 hu2 _).mono ?_
      rintro e w1 ⟨n1, n2, rfl, hq1, hq2, d2, rfl⟩
      rw [hu1, hu2, cl_zero, cone, e5] at hq1
      rw [hu1, hu2, cl_zero, cone, e6] at hq2
      obtain rfl := cl_some hq1
      obtain rfl := cl_some hq2
      clear hq1 hq2 cW cI hu1 hu2 e5 e6
      go_wp2_with fail
      refine (innerOf _ _ _ _ _).mono ?_
      rintro e w1 ⟨hw, rfl, hh, d3, rfl⟩
      rw [cn1, cn2, hXk] at hh
      have hbe : Below w.heap.size w ((wr.drewN (d1 + d2)).drewN d3) := below_drewN (below_drewN hb _) _
      have r1e : ((wr.drewN (d1 + d2)).drewN d3).ownsRow w.heap.size 24 1 _ k (cxs J k) := t6
      have r2e : ((wr.drewN (d1 + d2)).drewN d3).ownsRow w.heap.size 25 1 _ k (fls hs) := t7
      clear t6 t7 hb ca0 cb0 hba hbb
      generalize (wr.drewN (d1 + d2)).drewN d3 = we at *
      have hBe := hbe.size
      go_wp2_with (first
        | (at_builtin; refine wpList_append_lies _ rfl (.tmp 60) (.tmp 62) 27 rfl w.heap.size 24 i0 (.complex .f32 0 0) 1 8 Try.underlying27 hi hz0 hz1 hz2 rfl (by decide) _ k (cxs J k) rfl (r1e.alloc _) ⟨we.heap.size, 0, none⟩ 1 1 [.complex .f32 (nR (J k)) (nI (J k))] rfl rfl (World.news_of_block (heap_alloc_new _ _)) (by simp [Value.oneCell']) (by omega) (by unfold maxLen; omega) (by omega) (by simp; omega) (we.heap.size + 1) (by simp) ?_; intro qa qca wf hown1 hgrow1 hat1 hlt1; have r2f := (r2e.alloc _).kept hgrow1 t10.kept1; have hbf := (hbe.alloc hBe _).grown hgrow1 (by simp; omega) (fun g hg => (r1e.lt g hg).1); have hBf := hbf.size)
        | (at_builtin; refine wpList_append_lies _ rfl (.tmp 64) (.tmp 66) 28 rfl w.heap.size 25 i1 (.float .f32 0) 1 4 Try.underlying28 hi1 hy0 hy1 hy2 rfl (by decide) _ k (fls hs) rfl (r2f.alloc _) ⟨wf.heap.size, 0, none⟩ 1 1 [.float .f32 hw] rfl rfl (World.news_of_block (heap_alloc_new _ _)) (by simp [Value.oneCell']) (by omega) (by unfold maxLen; omega) (by omega) (by simp; omega) (wf.heap.size + 1) (by simp) ?_; intro qb qcb wg hown2 hgrow2 hat2 hlt2)
        | (refine wpList_flc rfl rfl rfl rfl rfl (by assumption) (by assumption) ?_; intro r d hr; (first | rw [hfp] at hr | rw [hfq] at hr | rw [hfr] at hr | rw [hff] at hr | rw [hfg] at hr | skip)))
      have hqa : ∀ g, (Value.slice (some ⟨qa, 0, none⟩) (k + 1) qca).ownBlock = some g → u13.ownBlock ≠ some g := by
        intro g hg e2
        simp [Value.ownBlock] at hg
        subst hg
        rcases hat1 with e | e
        · exact t10 _ e e2
        · have := (r2e.lt _ e2).2
          omega
      have r1g := (hown1.alloc (.cells #[.float .f32 hw] 25)).kept hgrow2 (by
        right
        intro e
        exact hqa qa rfl e.symm)
      go_roundw
      case rel =>
        refine ⟨k + 1, _, _, _, _, _, hs ++ [hw], by go_num, by omega, rfl, rfl, rfl, rfl, rfl, ⟨by assumption, by assumption, by assumption, by assumption, by assumption, ?_, ?_, by simp [t8], ?_, ?_⟩, below_drewN ((hbf.alloc hBf _).grown hgrow2 (by simp; omega) (fun g hg => (r2f.lt g hg).1)) _⟩
        · rw [cxs_succ]; exact r1g
        · rw [show fls (hs ++ [hw]) = fls hs ++ [Value.float .f32 hw] by simp [fls]]; exact hown2
        · intro i hi'
          by_cases e : i = k
          · subst e
            rw [List.getD_eq_getElem?_getD, List.getElem?_append_right (by omega), t8, Nat.sub_self]
            exact hh
          · rw [List.getD_eq_getElem?_getD, List.getElem?_append_left (by omega), ← List.getD_eq_getElem?_getD]
            exact t9 i (by omega)
        · intro g hg
          have hqg : qa = g := by simpa [Value.ownBlock] using hg
          subst hqg
          intro e2
          have hqb : qb = qa := by simpa [Value.ownBlock] using e2
          rcases hat2 with e | e
          · exact hqa qa rfl (by rw [← hqb]; exact e)
          · omega
      case measure => simp [intOf]; omega
    · obtain rfl : k = n := by omega
      obtain ⟨g1, c1, rfl, hg1, hg1'⟩ := row_at t6 (by omega)
      obtain ⟨g2, c2, rfl, hg2, hg2'⟩ := row_at t7 (by omega)
      have hM : ab .sub .f32 (ab .mul .f32 (accL (js J k)).1 (accL (js J k)).2.2) (ab .mul .f32 (accL (js J k)).2.1 (accL (js J k)).2.1) = detX (accL (js J k)) := rfl
      have hm1 : (aord .f32 (detX (accL (js J k))) (some 0) == some .eq) = false := by rw [(hm.order zero_vl).2.2 hm0]; rfl
      have hZX : ab .quo .f32 (ab .sub .f32 (ab .mul .f32 (sumF J P nR k) (accL (js J k)).2.2) (ab .mul .f32 (sumF J P nI k) (accL (js J k)).2.1)) (detX (accL (js J k))) = zxX J P k := rfl
      have hZY : ab .quo .f32 (ab .sub .f32 (ab .mul .f32 (accL (js J k)).1 (sumF J P nI k)) (ab .mul .f32 (accL (js J k)).2.1 (sumF J P nR k))) (detX (accL (js J k))) = zyX J P k := rfl
      clear cM cF hnum hnumT hm hm0 hd2 hA hB t6 t7 hi hi1 hz0 hz1 hz2 hy0 hy1 hy2 t10
      generalize (accL (js J k)) = A at *
      generalize hdm : detX A = D at *
      generalize sumF J P nR k = S1 at *
      generalize sumF J P nI k = S2 at *
      go_wp2_with (refine wpList_flc rfl rfl rfl rfl rfl (by assumption) (by assumption) ?_; intro r d hr; (first | rw [hM] at hr | rw [hZX] at hr | rw [hZY] at hr | skip))
      go_loopw [20, 21, 22, 23, 132] (fun t _ _ _ i wr' => ∃ (j : Nat) (tw : Nat), i = .int .i64 (j : Int) ∧ j ≤ k ∧ t = .float .f32 tw ∧ Hid (∃ v, Vl .f32 (cl .f32 tw) v ∧ 0 ≤ v ∧ v ≤ 95 / 10000) ∧ Drew wr wr') (fun _ _ _ _ i _ => k - (intOf i).toNat)
      case atStart => exact ⟨0, 0, rfl, Nat.zero_le _, rfl, Lib.hid ⟨0, by rw [cl_zero]; exact zero_vl, by decide +kernel, by decide +kernel⟩, Drew.n _ _⟩
      case round =>
        obtain ⟨j, tw, rfl, hj, rfl, htw, d0, rfl⟩ := hrel
        by_cases hjl : j < k
        · obtain ⟨hfit, ⟨iv, hiv⟩, ⟨dv', hdv⟩, t, ht, t0, t95⟩ := miss_num h hx hy ex ey hjl
          have hH := t9 j hjl
          have k1 : (wr.drewN d0).cell? ⟨g1, j, none⟩ = some (.complex .f32 (nR (J j)) (nI (J j))) := (hg1' j hjl).trans (by simp [cxs, hjl])
          have k2 : (wr.drewN d0).cell? ⟨g2, j, none⟩ = some (.float .f32 (hs.getD j 0)) := (hg2' j hjl).trans (fls_get (by omega))
          have hg1d : g1 < (wr.drewN d0).heap.size := hg1
          have hg2d : g2 < (wr.drewN d0).heap.size := hg2
          have hdr : Drew wr (wr.drewN d0) := Drew.n _ _
          have cn1 := vl_cl (h.normal hjl).1
          have cn2 := vl_cl (h.normal hjl).2.1
          unfold missX at ht hfit
          obtain ⟨mw, hmw⟩ := ht.some
          obtain ⟨dw, hdw⟩ := hdv.some
          obtain ⟨iw, hiw⟩ := hiv.some
          rw [hmw] at ht
          rw [hdw] at hdv hfit hmw
          rw [hiw] at hiv hdw
          have cdw := vl_cl hdv
          have ciw := vl_cl hiv
          have cmw := vl_cl ht
          have cI : ∀ u v, cl .f32 u = zxX J P k → cl .f32 v = zyX J P k → ∀ W, Calls Try.prog 31 #[.complex .f32 (nR (J j)) (nI (J j)), .complex .f32 u v] W (RetD (.float .f32 iw) W) := fun u v hu hv W =>
            (innerOf _ _ u v W).mono fun e w' he => by
              obtain ⟨r, rfl, hr, hd⟩ := he
              rw [cn1, cn2, hu, hv, hiw] at hr
              exact ⟨by rw [cl_some hr], hd⟩
          have hrun : ∀ W, (binOp .sub 25 (.float .f32 (hs.getD j 0)) (.float .f32 iw)).run Try.prog W = .ok (.float .f32 dw) W := fun W => run_float_arith (P := Try.prog) W .sub 25 .f32 _ _ dw (by rw [floatBits_cl, hH, ciw]; exact hdw)
          have cA : ∀ W, Calls Try.prog 32 #[.float .f32 dw] W (RetD (.float .f32 mw) W) := fun W =>
            (absolute cdw hfit W).mono fun e w' he => by
              obtain ⟨r, rfl, hr, hd⟩ := he
              rw [hmw] at hr
              exact ⟨by rw [cl_some hr], hd⟩
          have cfin := fun W => isFin mw W
          rw [cmw, ht.isNum] at cfin
          obtain ⟨v, hv, v0, v95⟩ := htw.out
          obtain ⟨zw, hzw, hmax⟩ := run_max_fl (P := Try.prog) #[25, 25] 25 rfl cmw hv ht
          have hnext : Hid (∃ v, Vl .f32 (cl .f32 zw) v ∧ 0 ≤ v ∧ v ≤ 95 / 10000) := Lib.hid (by
            rcases hzw with rfl | rfl
            · exact htw.out
            · exact ⟨t, by rw [cmw]; exact ht, t0, t95⟩)
          generalize hs.getD j 0 = hw at *
          generalize nR (J j) = n1 at *
          generalize nI (J j) = n2 at *
          clear htw hv hzw ht hmw hfit hdw hiw hH hg1' hg2' t9 cn1 cn2 hiv hdv
          generalize wr.drewN d0 = we at *
          go_wp2
          go_quiet ((first | (go_at_call 31; exact q_ret (cI _ _ (by assumption) (by assumption) _)) | (go_at_call 32; exact q_ret (cA _))))
          go_wp2_with (go_at_call 33; refine (cfin _).mono ?_; rintro e w' ⟨rfl, d3, rfl⟩)
          go_roundw
          case rel =>
            refine ⟨j + 1, zw, by go_num, by omega, rfl, hnext, ?_⟩
            obtain ⟨dd, e⟩ := hdr
            exact ⟨dd + (nq + d3), by rw [e, World.drewN_drewN]⟩
          case measure => simp [intOf]; omega
        · have key1 : ∀ u, cl .f32 u = zxX J P k → Vl .f32 (cl .f32 u) x := fun u e => by rw [e]; exact hx
          have key2 : ∀ u, cl .f32 u = zyX J P k → Vl .f32 (cl .f32 u) y := fun u e => by rw [e]; exact hy
          have cFC : ∀ u v, cl .f32 u = zxX J P k → cl .f32 v = zyX J P k → ∀ W, Calls Try.prog 34 #[.complex .f32 u v] W (RetD (.bool true) W) := fun u v hu hv W => by
            have := isFinC u v W
            rw [hu, hv, hx.isNum, hy.isNum] at this
            exact this
          obtain ⟨v, hv, v0, v95⟩ := htw.out
          go_wp2_with (go_at_call 34; refine (cFC _ _ (by assumption) (by assumption) _).mono ?_; rintro e w' ⟨rfl, d3, rfl⟩)
          refine bodyPost_ret (v := .tuple #[.complex .f32 _ _, .float .f32 tw, .bool true]) ?_ rfl ⟨_, _, tw, rfl, below_drewN hb _, x, y, v, key1 _ (by assumption), key2 _ (by assumption), hv, ex, ey, v0, v95⟩
          simp [results, Try.results10, go_sem]
end Go.Proofs.Yticoikchcmmpfaa
