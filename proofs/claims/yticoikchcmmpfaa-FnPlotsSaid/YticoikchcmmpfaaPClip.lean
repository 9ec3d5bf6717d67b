/-
  What of a plot lies left of a cut, by its edges; a triangle that is turned to the left: it grows with the cut.
-/
import Derived.Test.YticoikchcmmpfaaLNum4
namespace Go.Proofs.Yticoikchcmmpfaa

/-- The mean of the positive part along an edge whose ends have a and c. -/
def gg (a c : Rat) : Rat := if 0 ≤ a then (if 0 ≤ c then (a + c) / 2 else a * a / (2 * (a - c))) else (if 0 ≤ c then c * c / (2 * (c - a)) else 0)
/-- What an edge adds to the area left of m. -/
def ed (p q : Rat × Rat) (m : Rat) : Rat := (p.2 - q.2) * gg (m - p.1) (m - q.1)
theorem gg_comm (a c : Rat) : gg a c = gg c a := by
  unfold gg
  by_cases h1 : 0 ≤ a <;> by_cases h2 : 0 ≤ c <;> simp [h1, h2] <;> grind
theorem ed_anti (p q : Rat × Rat) (m : Rat) : ed q p m = -ed p q m := by
  unfold ed
  rw [gg_comm (m - q.1)]
  grind
/-- Twice the area of a triangle. -/
def dd (a b c : Rat × Rat) : Rat := (b.1 - a.1) * (c.2 - a.2) - (b.2 - a.2) * (c.1 - a.1)
def tri (a b c : Rat × Rat) (m : Rat) : Rat := ed a b m + ed b c m + ed c a m
theorem tri_rot (a b c : Rat × Rat) (m : Rat) : tri b c a m = tri a b c m := by unfold tri; grind
theorem tri_rot2 (a b c : Rat × Rat) (m : Rat) : tri c a b m = tri a b c m := by unfold tri; grind
theorem dd_rot (a b c : Rat × Rat) : dd b c a = dd a b c := by unfold dd; grind

theorem tri_none {a b c : Rat × Rat} {m : Rat} (h1 : m < a.1) (h2 : m < b.1) (h3 : m < c.1) : tri a b c m = 0 := by
  unfold tri ed gg
  rw [if_neg (by grind), if_neg (by grind), if_neg (by grind), if_neg (by grind), if_neg (by grind), if_neg (by grind)]
  grind
theorem tri_all {a b c : Rat × Rat} {m : Rat} (h1 : a.1 ≤ m) (h2 : b.1 ≤ m) (h3 : c.1 ≤ m) : tri a b c m = dd a b c / 2 := by
  unfold tri ed gg dd
  rw [if_pos (by grind), if_pos (by grind), if_pos (by grind), if_pos (by grind), if_pos (by grind), if_pos (by grind)]
  grind
theorem one_alg {t s d e ya yb yc q r : Rat} (hq : q * (2 * d) = t) (hr : r * (2 * e) = s) (hts : t = s) : ((ya - yb) * q + 0 + (yc - ya) * r) * (2 * (d * e)) = t * (d * (yc - ya) - (yb - ya) * e) := by
  have e1 : ((ya - yb) * q + 0 + (yc - ya) * r) * (2 * (d * e)) = (ya - yb) * e * (q * (2 * d)) + (yc - ya) * d * (r * (2 * e)) := by grind
  rw [e1, hq, hr, ← hts]
  grind
theorem gg_pn {a c : Rat} (h1 : 0 ≤ a) (h2 : c < 0) : gg a c * (2 * (a - c)) = a * a := by
  unfold gg
  rw [if_pos h1, if_neg (by grind)]
  exact Rat.div_mul_cancel (by grind)
theorem gg_np {a c : Rat} (h1 : a < 0) (h2 : 0 ≤ c) : gg a c * (2 * (c - a)) = c * c := by rw [gg_comm]; exact gg_pn h2 h1
theorem gg_nn {a c : Rat} (h1 : a < 0) (h2 : c < 0) : gg a c = 0 := by unfold gg; rw [if_neg (by grind), if_neg (by grind)]
theorem gg_pp {a c : Rat} (h1 : 0 ≤ a) (h2 : 0 ≤ c) : gg a c = (a + c) / 2 := by unfold gg; rw [if_pos h1, if_pos h2]
/-- Only a lies on the left. -/
theorem tri_one {a b c : Rat × Rat} {m : Rat} (h1 : a.1 ≤ m) (h2 : m < b.1) (h3 : m < c.1) : tri a b c m * (2 * ((b.1 - a.1) * (c.1 - a.1))) = (m - a.1) * (m - a.1) * dd a b c := by
  unfold tri ed dd
  have q1 := gg_pn (a := m - a.1) (c := m - b.1) (by grind) (by grind)
  have q2 := gg_np (a := m - c.1) (c := m - a.1) (by grind) (by grind)
  rw [gg_nn (a := m - b.1) (c := m - c.1) (by grind) (by grind), Rat.mul_zero]
  generalize gg (m - a.1) (m - b.1) = q at *
  generalize gg (m - c.1) (m - a.1) = r at *
  rw [show m - a.1 - (m - b.1) = b.1 - a.1 by grind] at q1
  rw [show m - a.1 - (m - c.1) = c.1 - a.1 by grind] at q2
  exact one_alg q1 q2 rfl
/-- Only c lies on the right. -/
theorem tri_two {a b c : Rat × Rat} {m : Rat} (h1 : a.1 ≤ m) (h2 : b.1 ≤ m) (h3 : m < c.1) : (dd a b c / 2 - tri a b c m) * (2 * ((c.1 - a.1) * (c.1 - b.1))) = (c.1 - m) * (c.1 - m) * dd a b c := by
  unfold tri ed dd
  have q1 := gg_pn (a := m - b.1) (c := m - c.1) (by grind) (by grind)
  have q2 := gg_np (a := m - c.1) (c := m - a.1) (by grind) (by grind)
  rw [gg_pp (a := m - a.1) (c := m - b.1) (by grind) (by grind)]
  generalize gg (m - b.1) (m - c.1) = q at *
  generalize gg (m - c.1) (m - a.1) = r at *
  rw [show m - b.1 - (m - c.1) = c.1 - b.1 by grind] at q1
  rw [show m - a.1 - (m - c.1) = c.1 - a.1 by grind] at q2
  have e : (((b.1 - a.1) * (c.2 - a.2) - (b.2 - a.2) * (c.1 - a.1)) / 2 - ((a.2 - b.2) * ((m - a.1 + (m - b.1)) / 2) + (b.2 - c.2) * q + (c.2 - a.2) * r)) * (2 * ((c.1 - a.1) * (c.1 - b.1))) =
    ((b.1 - a.1) * (c.2 - a.2) - (b.2 - a.2) * (c.1 - a.1)) * ((c.1 - a.1) * (c.1 - b.1)) - ((a.2 - b.2) * (m - a.1 + (m - b.1)) * ((c.1 - a.1) * (c.1 - b.1)) + (b.2 - c.2) * (c.1 - a.1) * (q * (2 * (c.1 - b.1))) + (c.2 - a.2) * (c.1 - b.1) * (r * (2 * (c.1 - a.1)))) := by grind
  rw [e, q1, q2]
  grind

theorem le_mul {a b c : Rat} (hc : 0 < c) (h : a * c ≤ b * c) : a ≤ b := Rat.le_of_mul_le_mul_right h hc
theorem val_in {T K A D : Rat} (h : T * (2 * K) = A * D) (hK : 0 < K) (hA : 0 ≤ A) (hAK : A ≤ K) (hD : 0 ≤ D) : 0 ≤ T ∧ T ≤ D / 2 := by
  have h1 := Rat.mul_nonneg hA hD
  have h2 := Rat.mul_le_mul_of_nonneg_right hAK hD
  exact ⟨le_mul (c := 2 * K) (by grind) (by grind), le_mul (c := 2 * K) (by grind) (by grind)⟩
theorem val_mono {T T' K A A' D : Rat} (h : T * (2 * K) = A * D) (h' : T' * (2 * K) = A' * D) (hK : 0 < K) (hA : A ≤ A') (hD : 0 ≤ D) : T ≤ T' := by
  have h2 := Rat.mul_le_mul_of_nonneg_right hA hD
  exact le_mul (c := 2 * K) (by grind) (by grind)
theorem sq_le {x y : Rat} (h0 : 0 ≤ x) (h : x ≤ y) : x * x ≤ y * y := by
  have a1 := Rat.mul_le_mul_of_nonneg_left h h0
  have a2 := Rat.mul_le_mul_of_nonneg_right h (show 0 ≤ y by grind)
  grind
theorem sq_le2 {x y z : Rat} (h0 : 0 ≤ x) (h : x ≤ y) (h' : x ≤ z) : x * x ≤ y * z := by
  have a1 := Rat.mul_le_mul_of_nonneg_left h h0
  have a2 := Rat.mul_le_mul_of_nonneg_right h' (show 0 ≤ y by grind)
  grind
theorem sq0 {x : Rat} (h0 : 0 ≤ x) : 0 ≤ x * x := Rat.mul_nonneg h0 h0

section
variable {a b c : Rat × Rat} {m m' : Rat}
theorem one_in (hD : 0 ≤ dd a b c) (h1 : a.1 ≤ m) (h2 : m < b.1) (h3 : m < c.1) : 0 ≤ tri a b c m ∧ tri a b c m ≤ dd a b c / 2 :=
  val_in (tri_one h1 h2 h3) (Rat.mul_pos (by grind) (by grind)) (sq0 (by grind)) (sq_le2 (by grind) (by grind) (by grind)) hD
theorem two_in (hD : 0 ≤ dd a b c) (h1 : a.1 ≤ m) (h2 : b.1 ≤ m) (h3 : m < c.1) : 0 ≤ tri a b c m ∧ tri a b c m ≤ dd a b c / 2 := by
  have := val_in (tri_two h1 h2 h3) (Rat.mul_pos (by grind) (by grind)) (sq0 (by grind)) (sq_le2 (by grind) (by grind) (by grind)) hD
  constructor <;> grind
theorem tri_in (hD : 0 ≤ dd a b c) : 0 ≤ tri a b c m ∧ tri a b c m ≤ dd a b c / 2 := by
  have hz : 0 ≤ dd a b c / 2 := by grind
  by_cases h1 : a.1 ≤ m <;> by_cases h2 : b.1 ≤ m <;> by_cases h3 : c.1 ≤ m
  · rw [tri_all h1 h2 h3]; exact ⟨hz, Rat.le_refl⟩
  · exact two_in hD h1 h2 (by grind)
  · have := two_in (a := c) (b := a) (c := b) (m := m) (by rw [dd_rot, dd_rot] ; exact hD) h3 h1 (by grind)
    rw [dd_rot, dd_rot, tri_rot, tri_rot] at this
    exact this
  · exact one_in hD h1 (by grind) (by grind)
  · have := two_in (a := b) (b := c) (c := a) (m := m) (by rw [dd_rot]; exact hD) h2 h3 (by grind)
    rw [dd_rot, tri_rot] at this
    exact this
  · have := one_in (a := b) (b := c) (c := a) (m := m) (by rw [dd_rot]; exact hD) h2 (by grind) (by grind)
    rw [dd_rot, tri_rot] at this
    exact this
  · have := one_in (a := c) (b := a) (c := b) (m := m) (by rw [dd_rot, dd_rot]; exact hD) h3 (by grind) (by grind)
    rw [dd_rot, dd_rot, tri_rot, tri_rot] at this
    exact this
  · rw [tri_none (by grind) (by grind) (by grind)]; exact ⟨Rat.le_refl, hz⟩
/-- From a alone on the left: on. -/
theorem mono_one (hD : 0 ≤ dd a b c) (h1 : a.1 ≤ m) (h2 : m < b.1) (h3 : m < c.1) (hm : m ≤ m') : tri a b c m ≤ tri a b c m' := by
  have hin := tri_in (a := a) (b := b) (c := c) (m := m) hD
  have e1 := tri_one h1 h2 h3
  by_cases k2 : b.1 ≤ m' <;> by_cases k3 : c.1 ≤ m'
  · rw [tri_all (by grind) k2 k3]; exact hin.2
  · -- b on the left too
    have e2 := tri_two (a := a) (b := b) (c := c) (m := m') (by grind) k2 (by grind)
    have p1 : 0 < b.1 - a.1 := by grind
    have p2 : 0 < c.1 - a.1 := by grind
    have p3 : 0 < c.1 - b.1 := by grind
    have q1 : (m - a.1) * (m - a.1) ≤ (b.1 - a.1) * (b.1 - a.1) := sq_le (by grind) (by grind)
    have q2 : (c.1 - m') * (c.1 - m') ≤ (c.1 - b.1) * (c.1 - b.1) := sq_le (by grind) (by grind)
    have r1 := Rat.mul_le_mul_of_nonneg_right q1 hD
    have r2 := Rat.mul_le_mul_of_nonneg_right q2 hD
    have f1 : tri a b c m * (2 * (c.1 - a.1)) ≤ (b.1 - a.1) * dd a b c := le_mul p1 (by grind)
    have f2 : (dd a b c / 2 - tri a b c m') * (2 * (c.1 - a.1)) ≤ (c.1 - b.1) * dd a b c := le_mul p3 (by grind)
    exact le_mul (c := 2 * (c.1 - a.1)) (by grind) (by grind)
  · -- c on the left too
    have e2 := tri_two (a := c) (b := a) (c := b) (m := m') k3 (by grind) (by grind)
    rw [dd_rot, dd_rot, tri_rot, tri_rot] at e2
    have p1 : 0 < b.1 - a.1 := by grind
    have p2 : 0 < c.1 - a.1 := by grind
    have p3 : 0 < b.1 - c.1 := by grind
    have q1 : (m - a.1) * (m - a.1) ≤ (c.1 - a.1) * (c.1 - a.1) := sq_le (by grind) (by grind)
    have q2 : (b.1 - m') * (b.1 - m') ≤ (b.1 - c.1) * (b.1 - c.1) := sq_le (by grind) (by grind)
    have r1 := Rat.mul_le_mul_of_nonneg_right q1 hD
    have r2 := Rat.mul_le_mul_of_nonneg_right q2 hD
    have f1 : tri a b c m * (2 * (b.1 - a.1)) ≤ (c.1 - a.1) * dd a b c := le_mul p2 (by grind)
    have f2 : (dd a b c / 2 - tri a b c m') * (2 * (b.1 - a.1)) ≤ (b.1 - c.1) * dd a b c := le_mul p3 (by grind)
    exact le_mul (c := 2 * (b.1 - a.1)) (by grind) (by grind)
  · exact val_mono e1 (tri_one (by grind) (by grind) (by grind)) (Rat.mul_pos (by grind) (by grind)) (sq_le (by grind) (by grind)) hD
theorem mono_two (hD : 0 ≤ dd a b c) (h1 : a.1 ≤ m) (h2 : b.1 ≤ m) (h3 : m < c.1) (hm : m ≤ m') : tri a b c m ≤ tri a b c m' := by
  by_cases k3 : c.1 ≤ m'
  · rw [tri_all (m := m') (by grind) (by grind) k3]; exact (tri_in hD).2
  · have := val_mono (tri_two (m := m') (by grind) (by grind) (by grind)) (tri_two h1 h2 h3) (Rat.mul_pos (by grind) (by grind)) (sq_le (by grind) (by grind)) hD
    grind
/-- A triangle that is turned to the left: what lies left of a cut grows with it. -/
theorem tri_mono (hD : 0 ≤ dd a b c) (hm : m ≤ m') : tri a b c m ≤ tri a b c m' := by
  by_cases h1 : a.1 ≤ m <;> by_cases h2 : b.1 ≤ m <;> by_cases h3 : c.1 ≤ m
  · rw [tri_all h1 h2 h3, tri_all (m := m') (by grind) (by grind) (by grind)]; exact Rat.le_refl
  · exact mono_two hD h1 h2 (by grind) hm
  · have := mono_two (a := c) (b := a) (c := b) (by rw [dd_rot, dd_rot]; exact hD) h3 h1 (by grind) hm
    rw [tri_rot2 a b c m, tri_rot2 a b c m'] at this
    exact this
  · exact mono_one hD h1 (by grind) (by grind) hm
  · have := mono_two (a := b) (b := c) (c := a) (by rw [dd_rot]; exact hD) h2 h3 (by grind) hm
    rw [tri_rot a b c m, tri_rot a b c m'] at this
    exact this
  · have := mono_one (a := b) (b := c) (c := a) (by rw [dd_rot]; exact hD) h2 (by grind) (by grind) hm
    rw [tri_rot a b c m, tri_rot a b c m'] at this
    exact this
  · have := mono_one (a := c) (b := a) (c := b) (by rw [dd_rot, dd_rot]; exact hD) h3 (by grind) (by grind) hm
    rw [tri_rot2 a b c m, tri_rot2 a b c m'] at this
    exact this
  · rw [tri_none (by grind) (by grind) (by grind)]; exact (tri_in hD).1
end
end Go.Proofs.Yticoikchcmmpfaa
