/-
  The point nearest to lines: the program's function.
-/
import Derived.Test.YticoikchcmmpfaaLAcc
import Derived.Test.YticoikchcmmpfaaLTurn
import Derived.Deep.AppendLies
import Derived.Maps.AppendAt
import Derived.OwnWalk
namespace Go.Proofs.Yticoikchcmmpfaa
open Go.RowKit
attribute [local go_sem] order_cl cl_zero cl_one cl_two aord_none

theorem infoC : (Try.prog.info? 24).map (fun i => (i.zero, i.size, i.bytes)) = some (some (.complex .f32 0 0), 1, 8) := by kernel_rfl
theorem infoF : (Try.prog.info? 25).map (fun i => (i.zero, i.size, i.bytes)) = some (some (.float .f32 0), 1, 4) := by kernel_rfl

/-- What the functions are given: points of lines through z with the directions J. -/
structure Lines (n : Nat) (J : Nat → Nat) (P : Nat → Nat × Nat) (zx zy : Rat) : Prop where
  n2 : 2 ≤ n
  n6 : n ≤ 6
  dir : ∀ k, k < n → J k = 2 * k + 1 ∨ J k = 2 * k + 2
  bx : Ab zx 4
  bY : Ab zy 4
  pt : ∀ k, k < n → ∃ f px py, Ab f 6 ∧ Vl .f32 (cl .f32 (P k).1) px ∧ Vl .f32 (cl .f32 (P k).2) py ∧ Ab (px - (zx - wv (uR (J k)) * f)) (24 * uu) ∧ Ab (py - (zy - wv (uI (J k)) * f)) (24 * uu)

/-- The height of line k. -/
def hX (J : Nat → Nat) (P : Nat → Nat × Nat) (k : Nat) : Option Nat := innerX (some (nR (J k))) (some (nI (J k))) (cl .f32 (P k).1) (cl .f32 (P k).2)
theorem Lines.j {n : Nat} {J : Nat → Nat} {P : Nat → Nat × Nat} {zx zy : Rat} (h : Lines n J P zx zy) {k : Nat} (hk : k < n) : 1 ≤ J k ∧ J k ≤ 12 := by
  have := h.dir k hk
  have := h.n6
  omega
theorem Lines.normal {n : Nat} {J : Nat → Nat} {P : Nat → Nat × Nat} {zx zy : Rat} (h : Lines n J P zx zy) {k : Nat} (hk : k < n) : Vl .f32 (some (nR (J k))) (wv (nR (J k))) ∧ Vl .f32 (some (nI (J k))) (wv (nI (J k))) ∧ Ab (wv (nR (J k))) 1 ∧ Ab (wv (nI (J k))) 1 ∧ wv (nR (J k)) * wv (uR (J k)) + wv (nI (J k)) * wv (uI (J k)) = 0 := by
  obtain ⟨j1, j2⟩ := h.j hk
  obtain ⟨_, _, _, _, _, _, _, _, v1, v2, v3, _, e, b1, b2⟩ := tab_get j1 j2
  refine ⟨v3, v1, ?_, b1, ?_⟩
  · rw [e]; unfold Ab at *; constructor <;> grind
  · rw [e]; show -wv (uI (J k)) * wv (uR (J k)) + wv (uR (J k)) * wv (uI (J k)) = 0; grind
theorem Lines.height {n : Nat} {J : Nat → Nat} {P : Nat → Nat × Nat} {zx zy : Rat} (h : Lines n J P zx zy) {k : Nat} (hk : k < n) : ∃ v, Vl .f32 (hX J P k) v ∧ Ab (v - (wv (nR (J k)) * zx + wv (nI (J k)) * zy)) (144 * uu) ∧ Ab v (801 / 100) := by
  obtain ⟨j1, j2⟩ := h.j hk
  obtain ⟨_, _, _, _, _, _, _, _, v1, v2, v3, _, e, b1, b2⟩ := tab_get j1 j2
  obtain ⟨m1, m2, m3, m4, m5⟩ := h.normal hk
  obtain ⟨f, px, py, bf, p1, p2, e1, e2⟩ := h.pt k hk
  exact height_num m1 m2 p1 p2 m3 m4 b1 b2 bf h.bx h.bY e1 e2 m5

/-- The sums of heights. -/
def sumF (J : Nat → Nat) (P : Nat → Nat × Nat) (N : Nat → Nat) : Nat → Option Nat
  | 0 => some 0
  | k + 1 => ab .add .f32 (sumF J P N k) (ab .mul .f32 (hX J P k) (some (N (J k))))

/-- How far the sums are from what the point tells. -/
structure Sums (J : Nat → Nat) (P : Nat → Nat × Nat) (zx zy e : Rat) (k : Nat) : Prop where
  f : ∃ v, Vl .f32 (sumF J P nR k) v ∧ Ab (v - (cv (accL (js J k)).1 * zx + cv (accL (js J k)).2.1 * zy)) (k * e) ∧ Ab v (802 / 100 * (k : Rat))
  g : ∃ v, Vl .f32 (sumF J P nI k) v ∧ Ab (v - (cv (accL (js J k)).2.1 * zx + cv (accL (js J k)).2.2 * zy)) (k * e) ∧ Ab v (802 / 100 * (k : Rat))

theorem zero_vl : Vl .f32 (some 0) 0 := ⟨0, false, 0, -149, rfl, by decide, by rw [dv_eq]; simp [Rat.zero_mul, Rat.mul_zero]⟩
theorem wv_zero : wv 0 = 0 := by decide +kernel

theorem Sums.zero (J : Nat → Nat) (P : Nat → Nat × Nat) (zx zy e : Rat) : Sums J P zx zy e 0 := by
  have e1 : cv (accL (js J 0)).1 = 0 := wv_zero
  have e2 : cv (accL (js J 0)).2.1 = 0 := wv_zero
  have e3 : cv (accL (js J 0)).2.2 = 0 := wv_zero
  refine ⟨⟨0, zero_vl, ?_, ?_⟩, ⟨0, zero_vl, ?_, ?_⟩⟩
  all_goals
    unfold Ab
    first | rw [e1, e2] | rw [e2, e3] | skip
    constructor <;> simp <;> grind

/-- The sums of products differ from the exact ones by little. -/
theorem acc_step {S S' A B : Option Nat} {s s' a b : Rat} (hs : Vl .f32 S s) (hs' : Vl .f32 S' s') (ha : Vl .f32 A a) (hb : Vl .f32 B b) (he : S' = ab .add .f32 S (ab .mul .f32 A B)) (L : Nat) (hL : L ≤ 20) {N : Rat} (hN : (2 : Rat) ^ L = N) (ba : Ab a 1) (bb : Ab b 1) (h : Ab s (N - 11 / 10)) : Ab (s' - (s + a * b)) (uu + N * uu) := by
  have hab := ba.mul bb
  obtain ⟨r, hr, er⟩ := sum_num hs ha hb 0 L (by omega) hL (M := 1) (by decide +kernel) hN (hab.mono (by decide +kernel)) (by unfold Ab at *; constructor <;> grind) (by decide +kernel)
  rw [← he] at hr
  rw [hs'.uniq hr]
  exact er.mono (by grind)

theorem Sums.step {n : Nat} {J : Nat → Nat} {P : Nat → Nat × Nat} {zx zy : Rat} (h : Lines n J P zx zy) {k : Nat} (hk : k < n) (L Lp : Nat) (hL : L ≤ 20) (hLp : Lp ≤ 20) {N Np : Rat} (hN : (2 : Rat) ^ L = N) (hNp : (2 : Rat) ^ Lp = Np) (b1 : 802 / 100 * ((k : Rat) + 1) ≤ N - 1 / 100) (b2 : 101 / 100 * (k : Rat) ≤ Np - 11 / 10) (hN64 : N ≤ 64) (hs : Sums J P zx zy (144 * uu + (16 * uu + N * uu) + 8 * (uu + Np * uu)) k) : Sums J P zx zy (144 * uu + (16 * uu + N * uu) + 8 * (uu + Np * uu)) (k + 1) := by
  have hu : uu ≤ 1 / 16000000 ∧ 0 < uu := by decide +kernel
  obtain ⟨m1, m2, m3, m4, m5⟩ := h.normal hk
  obtain ⟨v, hv, ev, bv⟩ := h.height hk
  obtain ⟨⟨p1, q1⟩, ⟨p2, q2⟩, ⟨p3, q3⟩, _⟩ := acc_get J h.dir (Nat.le_of_lt hk) h.n6
  obtain ⟨⟨p1', q1'⟩, ⟨p2', q2'⟩, ⟨p3', q3'⟩, _⟩ := acc_get J (k := k + 1) h.dir hk h.n6
  have ea := accL_succ J k
  have d1 := acc_step p1 p1' m1 m1 (by rw [ea]; rfl) Lp hLp hNp m3 m3 (q1.mono b2)
  have d2 := acc_step p2 p2' m1 m2 (by rw [ea]; rfl) Lp hLp hNp m3 m4 (q2.mono b2)
  have d3 := acc_step p3 p3' m2 m2 (by rw [ea]; rfl) Lp hLp hNp m4 m4 (q3.mono b2)
  have hNu : N * uu ≤ 64 * (1 / 16000000) := by
    have a1 := Rat.mul_le_mul_of_nonneg_right hN64 (Rat.le_of_lt hu.2)
    grind
  have hc : ((k + 1 : Nat) : Rat) = (k : Rat) + 1 := by rw [Rat.natCast_add]; rfl
  obtain ⟨⟨f, hf, ef, bf⟩, ⟨g, hg, eg, bg⟩⟩ := hs
  have x1 := bv.mul m3
  have x2 := bv.mul m4
  obtain ⟨f', hf', ef'⟩ := sum_num hf hv m1 4 L (by omega) hL (M := 16) (by decide +kernel) hN (x1.mono (by decide +kernel)) (by clear ef ev d1 d2 d3; unfold Ab at *; constructor <;> grind) (by decide +kernel)
  obtain ⟨g', hg', eg'⟩ := sum_num hg hv m2 4 L (by omega) hL (M := 16) (by decide +kernel) hN (x2.mono (by decide +kernel)) (by clear eg ev d1 d2 d3; unfold Ab at *; constructor <;> grind) (by decide +kernel)
  refine ⟨⟨f', hf', ?_, ?_⟩, ⟨g', hg', ?_, ?_⟩⟩
  · have := err_num ef ef' d1 d2 ev m3 h.bx h.bY
    exact this.mono (by rw [hc]; grind)
  · rw [hc]
    clear ef ev d1 d2 d3 eg
    unfold Ab at *
    constructor <;> grind
  · have ev' : Ab (v - (wv (nI (J k)) * zy + wv (nR (J k)) * zx)) (144 * uu) := ev.eq (by grind)
    have d2' : Ab (cv (accL (js J (k + 1))).2.1 - (cv (accL (js J k)).2.1 + wv (nI (J k)) * wv (nR (J k)))) (uu + Np * uu) := d2.eq (by grind)
    have eg2 : Ab (g - (cv (accL (js J k)).2.2 * zy + cv (accL (js J k)).2.1 * zx)) (k * (144 * uu + (16 * uu + N * uu) + 8 * (uu + Np * uu))) := eg.eq (by grind)
    have := err_num eg2 eg' d3 d2' ev' m4 h.bY h.bx
    exact (this.eq (y := g' - (cv (accL (js J (k + 1))).2.1 * zx + cv (accL (js J (k + 1))).2.2 * zy)) (by grind)).mono (by rw [hc]; grind)
  · rw [hc]
    clear ef ev d1 d2 d3 eg
    unfold Ab at *
    constructor <;> grind
end Go.Proofs.Yticoikchcmmpfaa
