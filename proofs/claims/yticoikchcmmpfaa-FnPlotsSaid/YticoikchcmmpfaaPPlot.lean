/-
  A plot, its corners moved by b: what its words tell; its area and the area of what lies left of a cut, in 32 bits.
-/
import Derived.Test.YticoikchcmmpfaaPCross
namespace Go.Proofs.Yticoikchcmmpfaa
open Go.RowKit

structure PlotW (n : Nat) (r : Nat → Nat) (bx b2 d : Rat) (P : Nat → Nat × Nat) : Prop where
  R : PlotR n r
  num : ∀ k, k < n → NumC (P k)
  dx : ∀ k, k < n → Ab (wv (P k).1 - ((plotV n r k).1 + bx)) d
  dy : ∀ k, k < n → Ab (wv (P k).2 - ((plotV n r k).2 + b2)) d
  same : ∀ k, k < n → cX n k (r k) = cX n (nx n k) (r (nx n k)) → wv (P k).1 = wv (P (nx n k)).1
  cx : Ab bx 2
  cy : Ab b2 2
  d8 : d ≤ 8 * uu
theorem nx_pv {n k : Nat} (hk : k < n) : (if k = 0 then n - 1 else k - 1) < n ∧ nx n (if k = 0 then n - 1 else k - 1) = k := by
  unfold nx
  by_cases h : k = 0
  · rw [if_pos h]; refine ⟨by omega, ?_⟩; rw [if_pos (by omega)]; exact h.symm
  · rw [if_neg h]; refine ⟨by omega, ?_⟩; rw [if_neg (by omega)]; omega
section
variable {n : Nat} {r : Nat → Nat} {bx b2 d : Rat} {P : Nat → Nat × Nat} (h : PlotW n r bx b2 d P)
include h
theorem PlotW.pt4 {k : Nat} (hk : k < n) : Ab (wv (P k).1 - bx) (401 / 100) ∧ Ab (wv (P k).2 - b2) (401 / 100) := by
  have hu : uu ≤ 1 / 16000000 ∧ 0 < uu := by decide +kernel
  obtain ⟨a1, a2⟩ := h.R.in4 k hk
  have d1 := h.dx k hk
  have d2 := h.dy k hk
  have d8 := h.d8
  constructor
  · exact ((a1.add d1).mono (by grind)).eq (by grind)
  · exact ((a2.add d2).mono (by grind)).eq (by grind)
theorem PlotW.box {k : Nat} (hk : k < n) : InBox (P k) bx b2 := ⟨h.num k hk, (h.pt4 hk).1.mono (by decide +kernel), (h.pt4 hk).2.mono (by decide +kernel)⟩
theorem PlotW.in6 {k : Nat} (hk : k < n) : Ab (wv (P k).1) (602 / 100) ∧ Ab (wv (P k).2) (602 / 100) := by
  obtain ⟨a1, a2⟩ := h.pt4 hk
  exact ⟨((a1.add h.cx).mono (by decide +kernel)).eq (by grind), ((a2.add h.cy).mono (by decide +kernel)).eq (by grind)⟩
theorem PlotW.boxN : BoxN P n bx b2 := ⟨h.num, fun _ hk => (h.box hk).2.1, fun _ hk => (h.box hk).2.2, h.cx, h.cy⟩
/-- Corners side by side. -/
theorem PlotW.side {k : Nat} (hk : k < n) : Ab (wv (P (nx n k)).1 - wv (P k).1) (72 / 10) ∧ Ab (wv (P (nx n k)).2 - wv (P k).2) (72 / 10) ∧ (wv (P k).1 = wv (P (nx n k)).1 ∨ 49 / 10000 ≤ wv (P (nx n k)).1 - wv (P k).1 ∨ wv (P (nx n k)).1 - wv (P k).1 ≤ -(49 / 10000)) := by
  have hu : uu ≤ 1 / 16000000 ∧ 0 < uu := by decide +kernel
  have nr := h.R.near hk
  have n1 : Ab ((plotV n r k).1 - (plotV n r (nx n k)).1) (71 / 10) := nr.dx
  have n2 : Ab ((plotV n r k).2 - (plotV n r (nx n k)).2) (71 / 10) := nr.dy
  have d1 := h.dx k hk
  have d2 := h.dy k hk
  have d3 := h.dx _ (nx_lt hk)
  have d4 := h.dy _ (nx_lt hk)
  have d8 := h.d8
  refine ⟨?_, ?_, ?_⟩
  · have := ((d3.sub d1).sub n1).mono (e' := 72 / 10) (by grind)
    exact this.eq (by grind)
  · have := ((d4.sub d2).sub n2).mono (e' := 72 / 10) (by grind)
    exact this.eq (by grind)
  · rcases nr.sep with e | e
    · exact .inl (h.same k hk e)
    · right
      have e' : 6 / 1000 ≤ (plotV n r k).1 - (plotV n r (nx n k)).1 ∨ (plotV n r k).1 - (plotV n r (nx n k)).1 ≤ -(6 / 1000) := e
      clear e nr d2 d4 n1 n2
      unfold Ab at *
      rcases e' with e | e
      · right; grind
      · left; grind
/-- A crossing. -/
theorem PlotW.cross {M : Nat} (hM : NumF M) (bm : Ab (wv M - bx) (402 / 100)) {k : Nat} (hk : k < n) (hc : (wv (pw P n k).1 ≤ wv M ∧ wv M < wv (P k).1) ∨ (wv (P k).1 ≤ wv M ∧ wv M < wv (pw P n k).1)) :
    ∃ y, Vl .f32 (cyX (cl .f32 M) (cl .f32 (pw P n k).1) (cl .f32 (pw P n k).2) (cl .f32 (P k).1) (cl .f32 (P k).2)) y ∧ ∀ c, Vl .f32 (cl .f32 c) y → InBox (M, c) bx b2 ∧ Ab (wv c) (603 / 100) ∧ CrossOk (pt (pw P n k)) (pt (P k)) (pt (M, c)) (wv M) 0 (610 * uu) := by
  obtain ⟨hj, ej⟩ := nx_pv hk
  have sd := h.side hj
  have p4 := h.pt4 hj
  have q4 := h.pt4 hk
  have p6 := h.in6 hj
  have q6 := h.in6 hk
  have np := h.num _ hj
  have nq := h.num _ hk
  rw [ej] at sd
  rw [show P (if k = 0 then n - 1 else k - 1) = pw P n k from rfl] at *
  obtain ⟨s1, s2, s3⟩ := sd
  obtain ⟨s, hs0, hs1, hs⟩ := share_of hc
  have hD : 49 / 10000 ≤ wv (P k).1 - wv (pw P n k).1 ∨ wv (P k).1 - wv (pw P n k).1 ≤ -(49 / 10000) := by
    rcases s3 with e | e
    · exfalso; rw [e] at hc; rcases hc with hc | hc <;> grind
    · exact e
  obtain ⟨y, hy, e1, e2⟩ := cross_pt (numF_vl hM) (numF_vl np.1) (numF_vl np.2) (numF_vl nq.1) (numF_vl nq.2) hs0 hs1 hs hD s1 s2 p6.2 q6.2
  refine ⟨y, hy, fun c hc' => ?_⟩
  have hw := vl_wv hc'
  have m1 := mix_ab hs0 hs1 p4.2 q4.2
  have m2 := mix_ab hs0 hs1 p6.2 q6.2
  refine ⟨⟨⟨hM, hc'.isNum⟩, bm, ?_⟩, ?_, ?_⟩
  · show Ab (wv c - b2) _
    rw [hw]
    exact ((m1.add e1).mono (by decide +kernel)).eq (by grind)
  · rw [hw]
    exact ((m2.add e1).mono (by decide +kernel)).eq (by grind)
  · have : pt (M, c) = (wv M, y) := by unfold pt; simp only; rw [hw]
    rw [this]
    exact cross_ok (p := pt (pw P n k)) (q := pt (P k)) hs0 hs1 hs e2
theorem PlotW.pertU {m : Rat} (hm : m ≤ 69 / 10) : Ab (areaL (fun k => pt (P k)) n m - areaL (plotV n r) n (m - bx)) (260 * d) := by
  have hU : ∀ k, k < n → Ab (((fun k => pt (P k)) k).1 - ((plotV n r k).1 + bx)) d ∧ Ab (((fun k => pt (P k)) k).2 - ((plotV n r k).2 + b2)) d := fun k hk => ⟨h.dx k hk, h.dy k hk⟩
  have hb : ∀ k, k < n → -(61 / 10) ≤ ((fun k => pt (P k)) k).1 := fun k hk => by
    have := (h.in6 hk).1.1
    show _ ≤ wv _
    grind
  exact h.R.pert (U := fun k => pt (P k)) hU hb hm
theorem PlotW.areaU : Ab (areaW (fun k => pt (P k)) n - areaW (plotV n r) n) (260 * d) := by
  have e1 : areaW (fun k => pt (P k)) n = areaL (fun k => pt (P k)) n (69 / 10) := (area_all h.R.pos (fun k hk => by
    have := (h.in6 hk).1.2
    show wv _ ≤ _
    grind) (by decide +kernel)).symm
  have e2 : areaW (plotV n r) n = areaL (plotV n r) n (69 / 10 - bx) := (area_all h.R.pos (fun k hk => by
    have := ((h.R.in4 k hk).1).2
    have := h.cx.2
    grind) (by have := h.cx.2; grind)).symm
  rw [e1, e2]
  exact h.pertU Rat.le_refl
/-- The area. -/
theorem PlotW.area : ∃ v, Vl .f32 (areaX P n) v ∧ Ab (v - areaW (plotV n r) n) (5920 * uu) := by
  have hu : uu ≤ 1 / 16000000 ∧ 0 < uu := by decide +kernel
  have d8 := h.d8
  have h1 := h.areaU
  have w1 := h.R.whole
  have w2 := h.R.whole_hi
  have e : areaW (fun k => pt (P k)) n = sumV P n n / 2 := by
    have : areaW (fun k => pt (P k)) n = sm n fun k => (1 / 2) * crV (pt (P k)) (pt (P (nx n k))) := sm_congr fun k _ => by
      unfold dd orig crV
      grind
    rw [this, sm_mul]
    unfold sumV
    grind
  rw [e] at h1
  have n9 : (n : Rat) ≤ 9 := by exact_mod_cast h.R.n9
  obtain ⟨v, hv, ev⟩ := h.boxN.area (by have := h.R.n9; omega) (by unfold Ab at *; constructor <;> grind)
  have n9' := Rat.mul_le_mul_of_nonneg_right n9 (show 0 ≤ 384 * uu by grind)
  exact ⟨v, hv, ((ev.add h1).mono (by grind)).eq (by grind)⟩
/-- The area of what lies left of a cut. -/
theorem PlotW.part {m : Rat} (bm : Ab (m - bx) (402 / 100)) {ws : List (Nat × Nat)} (hc : CutSt P n m 0 (610 * uu) bx b2 n ws) : ∃ v, Vl .f32 (areaX (fun j => ws.getD j (0, 0)) ws.length) v ∧ Ab (v - areaL (plotV n r) n (m - bx)) (10600 * uu) := by
  have hu : uu ≤ 1 / 16000000 ∧ 0 < uu := by decide +kernel
  have d8 := h.d8
  have n9 : (n : Rat) ≤ 9 := by exact_mod_cast h.R.n9
  obtain ⟨c1, c2⟩ := cut_done h.R.pos Rat.le_refl hc
  have h1 := h.pertU (m := m) (by have := h.cx; unfold Ab at *; grind)
  have hw : ∀ j, j < ws.length → InBox (ws.getD j (0, 0)) bx b2 := fun j hj => by
    rw [List.getD_eq_getElem?_getD, List.getElem?_eq_getElem hj]
    exact hc.box _ (List.getElem_mem hj)
  have hB : BoxN (fun j => ws.getD j (0, 0)) ws.length bx b2 := ⟨fun k hk => (hw k hk).1, fun k hk => (hw k hk).2.1, fun k hk => (hw k hk).2.2, h.cx, h.cy⟩
  have hlen : ws.length ≤ 14 := by have := h.R.n9; omega
  have l14 : (ws.length : Rat) ≤ 14 := by exact_mod_cast hlen
  have a0 : 0 ≤ areaL (plotV n r) n (m - bx) := by
    rw [area_tri _ h.R.pos]
    have hz : (0 : Rat) = sm n fun _ => 0 := by rw [sm_const]; grind
    rw [hz]
    exact sm_le fun k hk => (tri_in (h.R.turn k hk)).1
  have a1 := area_in h.R.pos h.R.turn (m := m - bx)
  have w2 := h.R.whole_hi
  have n9' := Rat.mul_le_mul_of_nonneg_right n9 (show 0 ≤ 610 * uu / 2 + 0 * 10 by grind)
  have l14' := Rat.mul_le_mul_of_nonneg_right l14 (show 0 ≤ 384 * uu by grind)
  have c3 := (c1.add h1).mono (e' := 4830 * uu) (by grind)
  obtain ⟨v, hv, ev⟩ := hB.area hlen (by clear h1 c1 ; unfold Ab at *; constructor <;> grind)
  exact ⟨v, hv, ((ev.add c3).mono (by grind)).eq (by grind)⟩
end
end Go.Proofs.Yticoikchcmmpfaa
