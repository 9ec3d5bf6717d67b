/-
  The point nearest to lines: what the sums come to.
-/
import Derived.Test.YticoikchcmmpfaaLMany
import Derived.Test.YticoikchcmmpfaaLPh2
namespace Go.Proofs.Yticoikchcmmpfaa
open Go.RowKit

theorem mul_comm32 {A B : Option Nat} {a b : Rat} (ha : Vl .f32 A a) (hb : Vl .f32 B b) : ab .mul .f32 B A = ab .mul .f32 A B := by
  obtain ⟨n1, s1, m1, p1, rfl, e1, _⟩ := ha
  obtain ⟨n2, s2, m2, p2, rfl, e2, _⟩ := hb
  simp only [ab, floatBits, Ieee.Format.mul, e1, e2, Ieee.Datum.product]
  rw [Nat.mul_comm m2 m1, Int.add_comm p2 p1, Bool.xor_comm s2 s1]

/-- The two parts of the point. -/
def zxX (J : Nat → Nat) (P : Nat → Nat × Nat) (n : Nat) : Option Nat := ab .quo .f32 (ab .sub .f32 (ab .mul .f32 (sumF J P nR n) (accL (js J n)).2.2) (ab .mul .f32 (sumF J P nI n) (accL (js J n)).2.1)) (detX (accL (js J n)))
def zyX (J : Nat → Nat) (P : Nat → Nat × Nat) (n : Nat) : Option Nat := ab .quo .f32 (ab .sub .f32 (ab .mul .f32 (accL (js J n)).1 (sumF J P nI n)) (ab .mul .f32 (accL (js J n)).2.1 (sumF J P nR n))) (detX (accL (js J n)))

theorem sums_solve {n : Nat} {J : Nat → Nat} {P : Nat → Nat × Nat} {zx zy : Rat} (h : Lines n J P zx zy) (K Kd : Nat) (hK : K ≤ 10) (hKd : Kd ≤ 10) {B Bd e b : Rat} (hB : (2 : Rat) ^ K = B) (hBd : (2 : Rat) ^ Kd = Bd) (hB1 : B ≤ 1024) (hBd1 : Bd ≤ 1024) (hs : Sums J P zx zy e n)
    (b1 : 802 / 100 * (n : Rat) * (101 / 100 * (n : Rat)) ≤ B) (b2 : 101 / 100 * (n : Rat) * (101 / 100 * (n : Rat)) ≤ Bd) (hb : 0 < b) (hbn : b ≤ (if n = 2 then (38 / 1000 : Rat) else 48 / 100)) (hE : 2 * (n * e * (101 / 100 * (n : Rat))) + 6 * (B * uu) + 4 * (6 * (Bd * uu)) ≤ b * (45 / 10000)) :
    ∃ m x y, Vl .f32 (detX (accL (js J n))) m ∧ 0 < m ∧ Vl .f32 (zxX J P n) x ∧ Vl .f32 (zyX J P n) y ∧ Ab (x - zx) (46 / 10000) ∧ Ab (y - zy) (46 / 10000) := by
  obtain ⟨⟨p1, q1⟩, ⟨p2, q2⟩, ⟨p3, q3⟩, hd⟩ := acc_get J h.dir (Nat.le_refl _) h.n6
  obtain ⟨hm, hmb⟩ := hd h.n2
  obtain ⟨⟨f, hf, ef, bf⟩, ⟨g, hg, eg, bg⟩⟩ := hs
  generalize hp : cv (accL (js J n)).1 = p at *
  generalize hq : cv (accL (js J n)).2.1 = q at *
  generalize hr : cv (accL (js J n)).2.2 = r at *
  have x1 := (q1.mul q3).mono b2
  have x2 := (q2.mul q2).mono b2
  obtain ⟨m, hm', em⟩ := det_num p1 p3 p2 Kd hKd hBd hBd1 x1 x2
  have hmm : cv (detX (accL (js J n))) = m := hm.uniq hm'
  rw [hmm] at hm hmb
  have hmb' : b ≤ m := Rat.le_trans hbn hmb
  obtain ⟨x, hx, ex⟩ := solve_num hf hg p3 p2 hm K hK hB hB1 ef eg ((bf.mul q3).mono b1) ((bg.mul q2).mono b1) q3 q2 em h.bx hmb' hb (by grind)
  have ef' : Ab (f - (q * zy + p * zx)) (n * e) := ef.eq (by grind)
  have eg' : Ab (g - (r * zy + q * zx)) (n * e) := eg.eq (by grind)
  have em' : Ab (r * p - q * q - m) (6 * (Bd * uu)) := em.eq (by grind)
  obtain ⟨y, hy, ey⟩ := solve_num hg hf p1 p2 hm K hK hB hB1 eg' ef' ((bg.mul q1).mono b1) ((bf.mul q2).mono b1) q1 q2 em' h.bY hmb' hb (by grind)
  refine ⟨m, x, y, hm, by grind, hx, ?_, ex, ey⟩
  unfold zyX
  rw [mul_comm32 hg p1, mul_comm32 hf p2]
  exact hy

/-- All that the sums come to. -/
theorem lines_solve {n : Nat} {J : Nat → Nat} {P : Nat → Nat × Nat} {zx zy : Rat} (h : Lines n J P zx zy) : ∃ m x y, Vl .f32 (detX (accL (js J n))) m ∧ 0 < m ∧ Vl .f32 (zxX J P n) x ∧ Vl .f32 (zyX J P n) y ∧ Ab (x - zx) (46 / 10000) ∧ Ab (y - zy) (46 / 10000) := by
  have hn2 := h.n2
  have hn6 := h.n6
  have hu : 0 < uu := uu_pos
  by_cases e : n = 2
  · subst e
    have hs : ∀ k, k ≤ 2 → Sums J P zx zy (144 * uu + (16 * uu + 32 * uu) + 8 * (uu + 4 * uu)) k := by
      intro k
      induction k with
      | zero => intro _; exact Sums.zero _ _ _ _ _
      | succ k ih =>
        intro hk
        have hk' : k = 0 ∨ k = 1 := by omega
        exact Sums.step h (by omega) 5 2 (by omega) (by omega) (N := 32) (Np := 4) (by decide +kernel) (by decide +kernel) (by rcases hk' with rfl | rfl <;> decide +kernel) (by rcases hk' with rfl | rfl <;> decide +kernel) (by decide +kernel) (ih (by omega))
    exact sums_solve h 6 3 (by omega) (by omega) (B := 64) (Bd := 8) (b := 38 / 1000) (by decide +kernel) (by decide +kernel) (by decide +kernel) (by decide +kernel) (hs 2 (Nat.le_refl _)) (by decide +kernel) (by decide +kernel) (by decide +kernel) (by decide +kernel) (by decide +kernel)
  · have hn : n = 3 ∨ n = 4 ∨ n = 5 ∨ n = 6 := by omega
    have hs : ∀ k, k ≤ n → Sums J P zx zy (144 * uu + (16 * uu + 64 * uu) + 8 * (uu + 8 * uu)) k := by
      intro k
      induction k with
      | zero => intro _; exact Sums.zero _ _ _ _ _
      | succ k ih =>
        intro hk
        have hk' : k = 0 ∨ k = 1 ∨ k = 2 ∨ k = 3 ∨ k = 4 ∨ k = 5 := by omega
        exact Sums.step h (by omega) 6 3 (by omega) (by omega) (N := 64) (Np := 8) (by decide +kernel) (by decide +kernel) (by rcases hk' with rfl | rfl | rfl | rfl | rfl | rfl <;> decide +kernel) (by rcases hk' with rfl | rfl | rfl | rfl | rfl | rfl <;> decide +kernel) (by decide +kernel) (ih (by omega))
    refine sums_solve h 9 6 (by omega) (by omega) (B := 512) (Bd := 64) (b := 48 / 100) (by decide +kernel) (by decide +kernel) (by decide +kernel) (by decide +kernel) (hs n (Nat.le_refl _)) ?_ ?_ (by decide +kernel) (by rw [if_neg e]; exact Rat.le_refl) ?_
    all_goals rcases hn with rfl | rfl | rfl | rfl <;> decide +kernel

/-- The miss of one line. -/
def missX (J : Nat → Nat) (P : Nat → Nat × Nat) (X Y : Option Nat) (k : Nat) : Option Nat := absX (wid (ab .sub .f32 (hX J P k) (innerX (some (nR (J k))) (some (nI (J k))) X Y)))
theorem miss_num {n : Nat} {J : Nat → Nat} {P : Nat → Nat × Nat} {zx zy : Rat} (h : Lines n J P zx zy) {X Y : Option Nat} {x y : Rat} (hx : Vl .f32 X x) (hy : Vl .f32 Y y) (ex : Ab (x - zx) (46 / 10000)) (ey : Ab (y - zy) (46 / 10000)) {k : Nat} (hk : k < n) :
    Fits (missX J P X Y k) ∧ (∃ i, Vl .f32 (innerX (some (nR (J k))) (some (nI (J k))) X Y) i) ∧ (∃ d, Vl .f32 (ab .sub .f32 (hX J P k) (innerX (some (nR (J k))) (some (nI (J k))) X Y)) d) ∧ ∃ t, Vl .f32 (nar (missX J P X Y k)) t ∧ 0 ≤ t ∧ t ≤ 95 / 10000 := by
  have hu : uu ≤ 1 / 16000000 ∧ 0 < uu := by decide +kernel
  obtain ⟨m1, m2, m3, m4, m5⟩ := h.normal hk
  obtain ⟨v, hv, ev, bv⟩ := h.height hk
  have bx := h.bx
  have bY := h.bY
  obtain ⟨i, hi, ei⟩ := inner_num m1 m2 hx hy 3 (by omega) (M := 8) (by decide +kernel) (by unfold Ab at *; constructor <;> grind) (by unfold Ab at *; constructor <;> grind) m3 m4
  have x1 := m3.mul ex
  have x2 := m4.mul ey
  have hd : Ab (v - i) (93 / 10000) := by
    have := ((ev.sub ei).sub (x1.add x2)).eq (y := v - i) (by grind)
    exact this.mono (by grind)
  obtain ⟨d, hd', ed⟩ := sub32 hv hi 0 (by omega) (B := 1) (by decide +kernel) (hd.mono (by decide +kernel))
  have hd2 : Ab d (94 / 10000) := by unfold Ab at *; constructor <;> grind
  obtain ⟨r, hr, r0, hr'⟩ := hd'.wid.abs
  have br : r ≤ 94 / 10000 := by unfold Ab at hd2; rcases hr' with e | e <;> grind
  obtain ⟨f, t, ht, et⟩ := nar32 hr 0 (by omega) (B := 1) (by decide +kernel) (by unfold Ab; constructor <;> grind)
  have t0 : 0 ≤ t := hr.nar_nn 0 (by omega) r0 (by have : (2 : Rat) ^ 0 = 1 := by decide +kernel
                                                   grind) ht
  refine ⟨f, ⟨i, hi⟩, ⟨d, hd'⟩, t, ht, t0, ?_⟩
  unfold Ab at et
  grind
end Go.Proofs.Yticoikchcmmpfaa
