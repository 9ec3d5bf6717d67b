/-
  Left of the middle: the mirror. In the middle: the least plot, reckoned.
-/
import Derived.Test.YticoikchcmmpfaaPArea
import Derived.Test.YticoikchcmmpfaaPDir
namespace Go.Proofs.Yticoikchcmmpfaa

theorem gg_pn' {a c : Rat} (h1 : 0 ≤ a) (h2 : c ≤ 0) (h : 0 < a - c) : gg a c * (2 * (a - c)) = a * a := by
  by_cases e : c = 0
  · subst e
    rw [gg_pp h1 Rat.le_refl]
    grind
  · exact gg_pn h1 (by grind)
theorem gg_np' {a c : Rat} (h1 : a ≤ 0) (h2 : 0 ≤ c) (h : 0 < c - a) : gg a c * (2 * (c - a)) = c * c := by rw [gg_comm]; exact gg_pn' h2 h1 h
theorem gg_nn' {a c : Rat} (h1 : a ≤ 0) (h2 : c ≤ 0) : gg a c = 0 := by
  unfold gg
  by_cases e1 : 0 ≤ a <;> by_cases e2 : 0 ≤ c
  · rw [if_pos e1, if_pos e2]; grind
  · rw [if_pos e1, if_neg e2, show a = 0 by grind]; simp [Rat.zero_mul, Rat.mul_zero, Rat.div_def]
  · rw [if_neg e1, if_pos e2, show c = 0 by grind]; simp [Rat.zero_mul, Rat.mul_zero, Rat.div_def]
  · rw [if_neg e1, if_neg e2]

theorem tri_one' {a b c : Rat × Rat} {m : Rat} (h1 : a.1 ≤ m) (h2 : m ≤ b.1) (h3 : m ≤ c.1) (hb : a.1 < b.1) (hc : a.1 < c.1) : tri a b c m * (2 * ((b.1 - a.1) * (c.1 - a.1))) = (m - a.1) * (m - a.1) * dd a b c := by
  unfold tri ed dd
  have q1 := gg_pn' (a := m - a.1) (c := m - b.1) (by grind) (by grind) (by grind)
  have q2 := gg_np' (a := m - c.1) (c := m - a.1) (by grind) (by grind) (by grind)
  rw [gg_nn' (a := m - b.1) (c := m - c.1) (by grind) (by grind), Rat.mul_zero]
  generalize gg (m - a.1) (m - b.1) = q at *
  generalize gg (m - c.1) (m - a.1) = r at *
  rw [show m - a.1 - (m - b.1) = b.1 - a.1 by grind] at q1
  rw [show m - a.1 - (m - c.1) = c.1 - a.1 by grind] at q2
  exact one_alg q1 q2 rfl

/-- What lies right of m. -/
def rest (p q : Rat × Rat) (m : Rat) : Rat := dd orig p q / 2 - tri orig p q m
def kap (p q : Rat × Rat) (m m' : Rat) : Prop := (m' * m' - m * m) / 16 * rest p q m' ≤ tri orig p q m' - tri orig p q m

section
variable {p q : Rat × Rat} {m m' x : Rat}
theorem rest_in (hD : 0 ≤ dd orig p q) : 0 ≤ rest p q m := by
  have := (tri_in (m := m) hD).2
  unfold rest
  grind
theorem kap_refl (m : Rat) : kap p q m m := by unfold kap; grind
theorem kap_trans (hD : 0 ≤ dd orig p q) (h0 : 0 ≤ m) (h1 : m ≤ x) (h2 : x ≤ m') (k1 : kap p q m x) (k2 : kap p q x m') : kap p q m m' := by
  have hr : rest p q m' ≤ rest p q x := by
    have := tri_mono hD h2
    unfold rest
    grind
  have hk : 0 ≤ (x * x - m * m) / 16 := by
    have := sq_le h0 h1
    grind
  have := Rat.mul_le_mul_of_nonneg_left hr hk
  unfold kap at *
  grind
/-- Both corners right of the cut. -/
theorem kap_one (hD : 0 ≤ dd orig p q) (h0 : 0 ≤ m) (h : m ≤ m') (h2 : m' ≤ p.1) (h3 : m' ≤ q.1) (b1 : p.1 ≤ 4) (b2 : q.1 ≤ 4) : kap p q m m' := by
  by_cases e : m = m'
  · subst e; exact kap_refl m
  · have hp : 0 < p.1 := by grind
    have hq : 0 < q.1 := by grind
    have e1 := tri_one' (a := orig) (b := p) (c := q) (m := m) h0 (by grind) (by grind) hp hq
    have e2 := tri_one' (a := orig) (b := p) (c := q) (m := m') (by show (0 : Rat) ≤ m'; grind) h2 h3 hp hq
    have z : orig.1 = 0 := rfl
    rw [z] at e1 e2
    have hpq := Rat.mul_pos hp hq
    have hpq16 : p.1 * q.1 ≤ 16 := by
      have a1 := Rat.mul_le_mul_of_nonneg_left b2 (Rat.le_of_lt hp)
      grind
    have hm := sq_le h0 h
    have hr := rest_in (p := p) (q := q) (m := m') hD
    unfold kap
    unfold rest at *
    generalize dd orig p q = D at *
    generalize tri orig p q m = T at *
    generalize tri orig p q m' = T' at *
    have f1 : T * (2 * (p.1 * q.1)) = m * m * D := by grind
    have f2 : T' * (2 * (p.1 * q.1)) = m' * m' * D := by grind
    refine le_mul (c := 2 * (p.1 * q.1)) (by grind) ?_
    have g1 : (T' - T) * (2 * (p.1 * q.1)) = (m' * m' - m * m) * D := by grind
    rw [g1]
    have g2 : (D / 2 - T') * (2 * (p.1 * q.1)) = D * (p.1 * q.1) - m' * m' * D := by grind
    have hk : 0 ≤ (m' * m' - m * m) / 16 := by grind
    have g3 : D * (p.1 * q.1) - m' * m' * D ≤ 16 * D := by
      have a1 := Rat.mul_le_mul_of_nonneg_left hpq16 hD
      have a2 := Rat.mul_nonneg (sq0 (show 0 ≤ m' by grind)) hD
      grind
    have g4 := Rat.mul_le_mul_of_nonneg_left g3 hk
    rw [Rat.mul_assoc, g2]
    refine Rat.le_trans g4 ?_
    clear e1 e2 f1 f2 g1 g2 g3 g4 hr hpq hpq16
    grind
/-- One corner right of the cut. -/
theorem kap_alg {R R' D K m m' y : Rat} (h : R * (2 * K) = (y - m) * (y - m) * D) (h' : R' * (2 * K) = (y - m') * (y - m') * D) (hK : 0 < K) (hD : 0 ≤ D) (h0 : 0 ≤ m) (hm : m ≤ m') (hy : m' ≤ y) (y4 : y ≤ 4) : (m' * m' - m * m) / 16 * R' ≤ R - R' := by
  refine le_mul (c := 2 * K) (by grind) ?_
  have g1 : (R - R') * (2 * K) = ((m' - m) * (2 * y - m - m')) * D := by grind
  have g2 : (m' * m' - m * m) / 16 * R' * (2 * K) = (m' - m) * ((m' + m) * ((y - m') * (y - m')) / 16) * D := by
    have : (m' * m' - m * m) / 16 * R' * (2 * K) = (m' * m' - m * m) / 16 * (R' * (2 * K)) := by grind
    rw [this, h']
    grind
  rw [g1, g2]
  refine Rat.mul_le_mul_of_nonneg_right (Rat.mul_le_mul_of_nonneg_left ?_ (by grind)) hD
  -- (m' + m) (y - m')^2 <= 16 (2 y - m - m')
  have a1 : (y - m') * (y - m') ≤ 4 * (y - m') := Rat.mul_le_mul_of_nonneg_right (by grind) (by grind)
  have a2 : (m' + m) * ((y - m') * (y - m')) ≤ 8 * ((y - m') * (y - m')) := Rat.mul_le_mul_of_nonneg_right (by grind) (sq0 (by grind))
  grind
theorem kap_two (hD : 0 ≤ dd orig p q) (h0 : 0 ≤ m) (h : m ≤ m') (h1 : p.1 ≤ m) (h2 : m' < q.1) (b : q.1 ≤ 4) : kap p q m m' := by
  have e1 := tri_two (a := orig) (b := p) (c := q) (m := m) h0 h1 (by grind)
  have e2 := tri_two (a := orig) (b := p) (c := q) (m := m') (by show (0 : Rat) ≤ m'; grind) (by grind) h2
  have := kap_alg e1 e2 (Rat.mul_pos (by show 0 < q.1 - 0; grind) (by grind)) hD h0 h (by grind) b
  unfold kap rest
  grind
theorem kap_two' (hD : 0 ≤ dd orig p q) (h0 : 0 ≤ m) (h : m ≤ m') (h1 : q.1 ≤ m) (h2 : m' < p.1) (b : p.1 ≤ 4) : kap p q m m' := by
  have e1 := tri_two (a := q) (b := orig) (c := p) (m := m) h1 h0 (by grind)
  have e2 := tri_two (a := q) (b := orig) (c := p) (m := m') (by grind) (by show (0 : Rat) ≤ m'; grind) h2
  rw [tri_rot2 orig p q, show dd q orig p = dd orig p q by rw [dd_rot, dd_rot]] at e1 e2
  have := kap_alg e1 e2 (Rat.mul_pos (by grind) (by show 0 < p.1 - 0; grind)) hD h0 h (by grind) b
  unfold kap rest
  grind
theorem kap_all (hD : 0 ≤ dd orig p q) (h0 : 0 ≤ m) (h : m ≤ m') (b1 : p.1 ≤ 4) (b2 : q.1 ≤ 4) : kap p q m m' := by
  by_cases k1 : p.1 ≤ m' <;> by_cases k2 : q.1 ≤ m'
  · have e := tri_all (a := orig) (b := p) (c := q) (m := m') (by show (0 : Rat) ≤ m'; grind) k1 k2
    have := (tri_in (m := m) hD).2
    unfold kap rest
    rw [e]
    grind
  · by_cases j : p.1 ≤ m
    · exact kap_two hD h0 h j (by grind) b2
    · exact kap_trans hD h0 (x := p.1) (by grind) (by grind) (kap_one hD h0 (by grind) Rat.le_refl (by grind) b1 b2) (kap_two hD (by grind) (by grind) Rat.le_refl (by grind) b2)
  · by_cases j : q.1 ≤ m
    · exact kap_two' hD h0 h j (by grind) b1
    · exact kap_trans hD h0 (x := q.1) (by grind) (by grind) (kap_one hD h0 (by grind) (by grind) Rat.le_refl b1 b2) (kap_two' hD (by grind) (by grind) Rat.le_refl (by grind) b1)
  · exact kap_one hD h0 h (by grind) (by grind) b1 b2
end

theorem area_kap {V : Nat → Rat × Rat} {n : Nat} (hn : 0 < n) (hD : ∀ k, k < n → 0 ≤ dd orig (V k) (V (nx n k))) (hb : ∀ k, k < n → (V k).1 ≤ 4) {m m' : Rat} (h0 : 0 ≤ m) (h : m ≤ m') : (m' * m' - m * m) / 16 * (areaW V n - areaL V n m') ≤ areaL V n m' - areaL V n m := by
  rw [area_tri V hn, area_tri V hn]
  unfold areaW
  rw [← sm_sub, ← sm_sub, ← sm_mul]
  exact sm_le fun k hk => kap_all (hD k hk) h0 h (hb k hk) (hb _ (nx_lt hk))
end Go.Proofs.Yticoikchcmmpfaa
namespace Go.Proofs.Yticoikchcmmpfaa

def mirr (p : Rat × Rat) : Rat × Rat := (-p.1, p.2)
theorem gg_neg (a c : Rat) : gg (-a) (-c) = gg a c - (a + c) / 2 := by
  rcases (show 0 < a ∨ a = 0 ∨ a < 0 by grind) with h1 | h1 | h1 <;> rcases (show 0 < c ∨ c = 0 ∨ c < 0 by grind) with h2 | h2 | h2
  · rw [gg_nn' (a := -a) (c := -c) (by grind) (by grind), gg_pp (by grind) (by grind)]; grind
  · rw [gg_nn' (a := -a) (c := -c) (by grind) (by grind), gg_pp (by grind) (by grind)]; grind
  · have e1 := gg_pn (a := a) (c := c) (by grind) h2
    have e2 := gg_np (a := -a) (c := -c) (by grind) (by grind)
    refine mul_right_cancel (c := 2 * (a - c)) (by grind) ?_
    rw [show -c - -a = a - c by grind] at e2
    rw [e2]
    have : (gg a c - (a + c) / 2) * (2 * (a - c)) = gg a c * (2 * (a - c)) - (a + c) * (a - c) := by grind
    rw [this, e1]
    grind
  · rw [gg_nn' (a := -a) (c := -c) (by grind) (by grind), gg_pp (by grind) (by grind)]; grind
  · rw [gg_nn' (a := -a) (c := -c) (by grind) (by grind), gg_pp (by grind) (by grind)]; grind
  · rw [gg_pp (a := -a) (c := -c) (by grind) (by grind), gg_nn' (by grind) (by grind)]; grind
  · have e1 := gg_np (a := a) (c := c) h1 (by grind)
    have e2 := gg_pn (a := -a) (c := -c) (by grind) (by grind)
    refine mul_right_cancel (c := 2 * (c - a)) (by grind) ?_
    rw [show -a - -c = c - a by grind] at e2
    rw [e2]
    have : (gg a c - (a + c) / 2) * (2 * (c - a)) = gg a c * (2 * (c - a)) - (a + c) * (c - a) := by grind
    rw [this, e1]
    grind
  · rw [gg_pp (a := -a) (c := -c) (by grind) (by grind), gg_nn' (by grind) (by grind)]; grind
  · rw [gg_pp (a := -a) (c := -c) (by grind) (by grind), gg_nn' (by grind) (by grind)]; grind
theorem ed_mirr (p q : Rat × Rat) (m : Rat) : ed (mirr p) (mirr q) (-m) = ed p q m - (p.2 - q.2) * ((m - p.1 + (m - q.1)) / 2) := by
  unfold ed mirr
  rw [show -m - -p.1 = -(m - p.1) by grind, show -m - -q.1 = -(m - q.1) by grind, gg_neg]
  grind
theorem tri_mirr (a b c : Rat × Rat) (m : Rat) : tri (mirr a) (mirr c) (mirr b) (-m) = dd a b c / 2 - tri a b c m := by
  unfold tri
  rw [ed_mirr, ed_mirr, ed_mirr, ed_anti b a, ed_anti c b, ed_anti a c]
  unfold dd
  generalize ed b a m = e1
  generalize ed c b m = e2
  generalize ed a c m = e3
  grind
theorem dd_mirr (a b c : Rat × Rat) : dd (mirr a) (mirr c) (mirr b) = dd a b c := by unfold dd mirr; grind
theorem mirr_orig : mirr orig = orig := by unfold mirr orig; simp

theorem kap_left {p q : Rat × Rat} {m m' : Rat} (hD : 0 ≤ dd orig p q) (h : m ≤ m') (h0 : m' ≤ 0) (b1 : -4 ≤ p.1) (b2 : -4 ≤ q.1) : (m * m - m' * m') / 16 * tri orig p q m ≤ tri orig p q m' - tri orig p q m := by
  have hk := kap_all (p := mirr q) (q := mirr p) (m := -m') (m' := -m) (by have := dd_mirr orig p q; rw [mirr_orig] at this; rw [this]; exact hD) (by grind) (by grind) (by show -q.1 ≤ 4; grind) (by show -p.1 ≤ 4; grind)
  have e1 := tri_mirr orig p q m
  have e2 := tri_mirr orig p q m'
  have e3 := dd_mirr orig p q
  rw [mirr_orig] at e1 e2 e3
  unfold kap rest at hk
  rw [e1, e2, e3] at hk
  have f1 : dd orig p q / 2 - (dd orig p q / 2 - tri orig p q m) = tri orig p q m := by grind
  rw [f1, show -m * -m = m * m by grind, show -m' * -m' = m' * m' by grind] at hk
  grind
theorem area_left {V : Nat → Rat × Rat} {n : Nat} (hn : 0 < n) (hD : ∀ k, k < n → 0 ≤ dd orig (V k) (V (nx n k))) (hb : ∀ k, k < n → -4 ≤ (V k).1) {m m' : Rat} (h : m ≤ m') (h0 : m' ≤ 0) : (m * m - m' * m') / 16 * areaL V n m ≤ areaL V n m' - areaL V n m := by
  rw [area_tri V hn, area_tri V hn]
  rw [← sm_sub, ← sm_mul]
  exact sm_le fun k hk => kap_left (hD k hk) h h0 (hb k hk) (hb _ (nx_lt hk))
end Go.Proofs.Yticoikchcmmpfaa
