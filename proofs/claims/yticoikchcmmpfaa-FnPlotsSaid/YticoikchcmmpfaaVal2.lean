/-
  The square root, widening, narrowing and small whole numbers, told by what they are worth.
-/
import Derived.Test.YticoikchcmmpfaaVal
namespace Go.Proofs.Yticoikchcmmpfaa
open Go.RowKit Ieee

theorem rootFrom_up (n : Nat) : ∀ (todo root : Nat), n < (root + 2 ^ todo) * (root + 2 ^ todo) → n < (Datum.rootFrom n todo root + 1) * (Datum.rootFrom n todo root + 1)
  | 0, root, h => h
  | todo + 1, root, h => by
    unfold Datum.rootFrom
    dsimp only
    refine rootFrom_up n todo _ ?_
    rw [Nat.one_shiftLeft]
    split
    · rw [show root + 2 ^ todo + 2 ^ todo = root + 2 ^ (todo + 1) by rw [Nat.pow_succ]; omega]; exact h
    · rename_i h'; exact Nat.lt_of_not_le h'

theorem sq_lt {a b : Nat} (h : a * a < b * b) : a < b := by
  by_cases hc : a < b
  · exact hc
  · have := Nat.mul_le_mul (Nat.le_of_not_lt hc) (Nat.le_of_not_lt hc)
    omega

/-- The whole root, and how great it is. -/
theorem root_core {n d : Nat} (hn : n ≠ 0) (hd : 2 ^ (2 * d) ≤ n) : Datum.rootFrom n (n.log2 / 2 + 1) 0 * Datum.rootFrom n (n.log2 / 2 + 1) 0 ≤ n ∧ n < (Datum.rootFrom n (n.log2 / 2 + 1) 0 + 1) * (Datum.rootFrom n (n.log2 / 2 + 1) 0 + 1) ∧ 2 ^ d ≤ Datum.rootFrom n (n.log2 / 2 + 1) 0 := by
  have h1 := rootFrom_sq n (n.log2 / 2 + 1) 0 (Nat.zero_le _)
  have h2 := rootFrom_up n (n.log2 / 2 + 1) 0 (by
    rw [Nat.zero_add, ← Nat.pow_add]
    exact Nat.lt_of_lt_of_le Nat.lt_log2_self (Nat.pow_le_pow_right (by decide) (by omega)))
  refine ⟨h1, h2, ?_⟩
  have h3 : 2 ^ d * 2 ^ d < (Datum.rootFrom n (n.log2 / 2 + 1) 0 + 1) * (Datum.rootFrom n (n.log2 / 2 + 1) 0 + 1) := by
    rw [← Nat.pow_add, show d + d = 2 * d by omega]
    omega
  have := sq_lt h3
  omega

/-- The square of the root ahead of the rounding. -/
theorem root_sq {n w d : Nat} (h1 : w * w ≤ n) (h2 : n < (w + 1) * (w + 1)) (h3 : 2 ^ d ≤ w) (st : Nat) (hst : st = (w * w != n).toNat) : (2 * w + st) * (2 * w + st) * 2 ^ d ≤ 4 * n * 2 ^ d + 4 * n ∧ 4 * n * 2 ^ d ≤ (2 * w + st) * (2 * w + st) * 2 ^ d + 4 * n := by
  subst hst
  have h4 : w * 2 ^ d ≤ n := Nat.le_trans (Nat.mul_le_mul_left _ h3) h1
  by_cases h : w * w = n
  · have : (w * w != n).toNat = 0 := by simp [h]
    rw [this, Nat.add_zero, show 2 * w * (2 * w) = 4 * (w * w) by grind, h]
    omega
  · have : (w * w != n).toNat = 1 := by simp [h]
    have e : (2 * w + 1) * (2 * w + 1) = 4 * (w * w) + 4 * w + 1 := by grind
    have e' : (w + 1) * (w + 1) = w * w + 2 * w + 1 := by grind
    rw [this]
    rw [e'] at h2
    have k1 : (2 * w + 1) * (2 * w + 1) ≤ 4 * n + 4 * w := by rw [e]; omega
    have k2 : 4 * n ≤ (2 * w + 1) * (2 * w + 1) + 4 * w := by rw [e]; omega
    have k1' := Nat.mul_le_mul_right (2 ^ d) k1
    have k2' := Nat.mul_le_mul_right (2 ^ d) k2
    generalize (2 * w + 1) * (2 * w + 1) = Z at *
    have e3 : (4 * n + 4 * w) * 2 ^ d = 4 * n * 2 ^ d + 4 * (w * 2 ^ d) := by grind
    have e4 : (Z + 4 * w) * 2 ^ d = Z * 2 ^ d + 4 * (w * 2 ^ d) := by grind
    rw [e3] at k1'
    rw [e4] at k2'
    omega

theorem root_dv (d : Nat) (m : Nat) (i : Int) (hm : m ≠ 0) : ∃ m' p', Datum.root d (.number false m i) = some (.number false m' p') ∧
    ((m' : Rat) * tw p') * ((m' : Rat) * tw p') * ((2 ^ d : Nat) : Rat) ≤ ((m : Rat) * tw i) * (((2 ^ d : Nat) : Rat) + 1) ∧ ((m : Rat) * tw i) * (((2 ^ d : Nat) : Rat) - 1) ≤ ((m' : Rat) * tw p') * ((m' : Rat) * tw p') * ((2 ^ d : Nat) : Rat) := by
  refine ⟨_, _, by unfold Datum.root; dsimp only; rw [if_neg hm, if_neg (by decide)], ?_⟩
  generalize hmore : 2 * d - m.log2 + ((i - ((2 * d - m.log2 : Nat) : Int)) % 2).toNat = more
  have hev : (i - (more : Int)) % 2 = 0 := by omega
  have hge : 2 * d ≤ m.log2 + more := by omega
  generalize hn : m <<< more = n
  have hn' : n = m * 2 ^ more := by rw [← hn, Nat.shiftLeft_eq]
  have hn0 : n ≠ 0 := by rw [hn']; exact Nat.mul_ne_zero hm (Nat.ne_of_gt (Nat.two_pow_pos _))
  have hnd : 2 ^ (2 * d) ≤ n := by
    rw [hn']
    refine Nat.le_trans ?_ (Nat.mul_le_mul_right _ (Nat.log2_self_le hm))
    rw [← Nat.pow_add]
    exact Nat.pow_le_pow_right (by decide) hge
  obtain ⟨r1, r2, r3⟩ := root_core hn0 hnd
  generalize Datum.rootFrom n (n.log2 / 2 + 1) 0 = w at *
  obtain ⟨k1, k2⟩ := root_sq r1 r2 r3 _ rfl
  generalize 2 * w + (w * w != n).toNat = W at *
  have e1 : (m : Rat) * tw i = (n : Rat) * tw (i - more) := by
    rw [hn', Rat.natCast_mul, ← tw_nat, Rat.mul_assoc, ← tw_add]
    congr 2
    omega
  have e2 : tw (i - more) = 4 * (tw ((i - more) / 2 - 1) * tw ((i - more) / 2 - 1)) := by
    rw [← tw_add, show (4 : Rat) = tw 1 * tw 1 by rw [tw_one]; decide +kernel, ← tw_add, ← tw_add]
    congr 1
    omega
  rw [e1, e2]
  have hg := tw_pos ((i - (more : Int)) / 2 - 1)
  generalize tw ((i - (more : Int)) / 2 - 1) = g at *
  have hgg := Rat.le_of_lt (Rat.mul_pos hg hg)
  have l1 : (W : Rat) * (W : Rat) * ((2 ^ d : Nat) : Rat) ≤ 4 * (n : Rat) * ((2 ^ d : Nat) : Rat) + 4 * (n : Rat) := by exact_mod_cast k1
  have l2 : 4 * (n : Rat) * ((2 ^ d : Nat) : Rat) ≤ (W : Rat) * (W : Rat) * ((2 ^ d : Nat) : Rat) + 4 * (n : Rat) := by exact_mod_cast k2
  have l1' := Rat.mul_le_mul_of_nonneg_right l1 hgg
  have l2' := Rat.mul_le_mul_of_nonneg_right l2 hgg
  clear l1 l2 k1 k2 r1 r2 r3 hnd hn0 hn' hn hge hev hmore e1 e2
  generalize ((2 ^ d : Nat) : Rat) = D at *
  generalize (W : Rat) = W' at *
  generalize (n : Rat) = n' at *
  constructor <;> grind

theorem le_of_sq {a b : Rat} (hb : 0 ≤ b) (h : a * a ≤ b * b) : a ≤ b := by
  by_cases hc : a ≤ b
  · exact hc
  · have hc' : b < a := by grind
    have h1 := Rat.mul_lt_mul_of_pos_right hc' (show 0 < a by grind)
    have h2 := Rat.mul_le_mul_of_nonneg_left (Rat.le_of_lt hc') hb
    grind

theorem sqrt_lin {W D u A : Rat} (h : D * u = 2) (hu : 0 ≤ u) (g : W * W * D ≤ A * (D + 1)) (g' : A * (D - 1) ≤ W * W * D) : 2 * (W * W) ≤ 2 * A + A * u ∧ 2 * A ≤ 2 * (W * W) + A * u := by
  have l1 := Rat.mul_le_mul_of_nonneg_right g hu
  have l2 := Rat.mul_le_mul_of_nonneg_right g' hu
  have e1 : W * W * D * u = 2 * (W * W) := by rw [Rat.mul_assoc, h]; grind
  have e2 : A * (D + 1) * u = A * (D * u) + A * u := by grind
  have e3 : A * (D - 1) * u = A * (D * u) - A * u := by grind
  rw [e1, e2, h] at l1
  rw [e1, e3, h] at l2
  constructor <;> grind

/-- r near W, W^2 near A. -/
theorem sq_near {r W A P u : Rat} (hP : 1 ≤ P) (hu : 0 ≤ u) (hu1 : u ≤ 1 / 100) (hW : 0 ≤ W) (hA0 : 0 ≤ A) (hA : A ≤ P * P) (w1 : 2 * (W * W) ≤ 2 * A + A * u) (w2 : 2 * A ≤ 2 * (W * W) + A * u) (n1 : r ≤ W + 2 * P * u) (n2 : W ≤ r + 2 * P * u) (hr : 0 ≤ r) :
    r * r ≤ A + P * P * u * 12 ∧ A ≤ r * r + P * P * u * 12 := by
  have hP0 : 0 ≤ P := by grind
  have hPP : 0 ≤ P * P := Rat.mul_nonneg hP0 hP0
  have hAu : A * u ≤ P * P * u := Rat.mul_le_mul_of_nonneg_right hA hu
  have hPPu : P * P * u ≤ P * P * (1 / 100) := Rat.mul_le_mul_of_nonneg_left hu1 hPP
  have hWP : W ≤ 2 * P := le_of_sq (by grind) (by grind)
  have hPu : 0 ≤ P * u := Rat.mul_nonneg hP0 hu
  have h1 : W * (P * u) ≤ 2 * P * (P * u) := Rat.mul_le_mul_of_nonneg_right hWP hPu
  have h2 : P * u ≤ P * (1 / 100) := Rat.mul_le_mul_of_nonneg_left hu1 hP0
  have h3 : (P * u) * (P * u) ≤ P * (1 / 100) * (P * u) := Rat.mul_le_mul_of_nonneg_right h2 hPu
  have up : r * r ≤ (W + 2 * P * u) * (W + 2 * P * u) := by
    have a1 := Rat.mul_le_mul_of_nonneg_left n1 hr
    have a2 := Rat.mul_le_mul_of_nonneg_right n1 (show 0 ≤ W + 2 * P * u by grind)
    grind
  have dn : W * W ≤ (r + 2 * P * u) * (r + 2 * P * u) := by
    have a1 := Rat.mul_le_mul_of_nonneg_left n2 hW
    have a2 := Rat.mul_le_mul_of_nonneg_right n2 (show 0 ≤ r + 2 * P * u by grind)
    grind
  have hr2 : r * (P * u) ≤ (W + 2 * P * u) * (P * u) := Rat.mul_le_mul_of_nonneg_right n1 hPu
  constructor <;> grind

theorem Vl.sqrt {X : Option Nat} {x : Rat} (hx : Vl .f64 X x) (h0 : 0 ≤ x) (K : Nat) (hK : K ≤ 99) (h : x ≤ 2 ^ K * 2 ^ K) : ∃ r, Vl .f64 (sqrtF X) r ∧ 0 ≤ r ∧ Nr (r * r) x (2 ^ K * 2 ^ K * uk .f64 * 12) := by
  obtain ⟨a, s, m, i, rfl, ea, rfl⟩ := hx
  have hP : (1 : Rat) ≤ 2 ^ K := by
    have := one_le_pow K
    rw [Rat.natCast_pow] at this
    exact this
  have hP0 : (0 : Rat) ≤ 2 ^ K := by grind
  have hPP := Rat.mul_nonneg hP0 hP0
  have hu : (0 : Rat) ≤ uk .f64 ∧ uk .f64 ≤ 1 / 100 := by decide +kernel
  by_cases hm : m = 0
  · subst hm
    obtain ⟨r, hr, hn⟩ := write_vl .f64 s 0 i 0 (by omega) (x := 0) (by rw [dv_eq]; simp [Rat.zero_mul, Rat.mul_zero]) (by decide) (by decide)
    have e0 : FloatKind.f64.format.write (.number s 0 i) = FloatKind.f64.format.word s 0 := by
      simp [Format.write, Format.nearest]
    have hz : Vl .f64 (some (FloatKind.f64.format.word s 0)) 0 := by
      refine ⟨_, s, 0, FloatKind.f64.format.leastPlace, rfl, ?_, by rw [dv_eq]; simp [Rat.zero_mul, Rat.mul_zero]⟩
      cases s <;> decide
    refine ⟨0, ?_, Rat.le_refl, ?_⟩
    · simpa [sqrtF, Format.sqrt, ea, Datum.root, e0] using hz
    · have := Rat.mul_nonneg hPP hu.1
      rw [dv_eq]
      unfold Nr
      simp [Rat.zero_mul, Rat.mul_zero]
      grind
  · have hs : s = false := by
      cases s
      · rfl
      · have : 0 < (m : Rat) * tw i := Rat.mul_pos (by exact_mod_cast Nat.pos_of_ne_zero hm) (tw_pos i)
        rw [dv_eq, if_pos rfl] at h0
        grind
    subst hs
    obtain ⟨m', p', e1, c1, c2⟩ := root_dv (FloatKind.f64.format.fractionBits + 2) m i hm
    have hd : ((2 ^ (FloatKind.f64.format.fractionBits + 2) : Nat) : Rat) * uk .f64 = 2 := by decide +kernel
    generalize ((2 ^ (FloatKind.f64.format.fractionBits + 2) : Nat) : Rat) = D at *
    have hA0 : 0 ≤ (m : Rat) * tw i := Rat.mul_nonneg Rat.natCast_nonneg (Rat.le_of_lt (tw_pos i))
    have hW0 : 0 ≤ (m' : Rat) * tw p' := Rat.mul_nonneg Rat.natCast_nonneg (Rat.le_of_lt (tw_pos p'))
    have hAe : dv (.number false m i) = (m : Rat) * tw i := by rw [dv_eq, if_neg (by decide), Rat.one_mul]
    rw [hAe] at h h0 ⊢
    obtain ⟨w1, w2⟩ := sqrt_lin hd hu.1 c1 c2
    have hAu : (m : Rat) * tw i * uk .f64 ≤ (m : Rat) * tw i * (1 / 100) := Rat.mul_le_mul_of_nonneg_left hu.2 hA0
    have hWP : (m' : Rat) * tw p' ≤ 2 * 2 ^ K := by
      generalize (2 : Rat) ^ K = P at *
      refine le_of_sq (by grind) ?_
      generalize (m : Rat) * tw i = A at *
      generalize (m' : Rat) * tw p' = W at *
      clear c1 c2 hd ea e1
      grind
    have e2 : (2 : Rat) ^ (K + 1) = 2 * 2 ^ K := by rw [Rat.pow_succ]; grind
    have hb : (m' : Rat) * tw p' ≤ tw ((K + 1 : Nat) : Int) := by rw [tw_nat', e2]; exact hWP
    obtain ⟨m2, p2, e3, n1, n2, _⟩ := nearest_dv FloatKind.f64.format (fmt_sign .f64) false m' p' _ hb (fmt_lo .f64 _) (fmt_hi .f64 (by omega))
    rw [tw_uk, e2] at n1 n2
    have hr0 : 0 ≤ (m2 : Rat) * tw p2 := Rat.mul_nonneg Rat.natCast_nonneg (Rat.le_of_lt (tw_pos p2))
    have hr : Vl .f64 (some (FloatKind.f64.format.write (.number false m' p'))) ((m2 : Rat) * tw p2) := ⟨_, _, _, _, rfl, e3, by rw [dv_eq, if_neg (by decide), Rat.one_mul]⟩
    refine ⟨_, ?_, hr0, sq_near hP hu.1 hu.2 hW0 hA0 h w1 w2 n1 n2 hr0⟩
    simpa [sqrtF, Format.sqrt, ea, e1] using hr

/-- 'float64(x)': worth the same. -/
theorem Vl.wid {X : Option Nat} {x : Rat} (hx : Vl .f32 X x) : Vl .f64 (Go.Proofs.Yticoikchcmmpfaa.wid X) x := by
  obtain ⟨a, s, m, i, rfl, ea, rfl⟩ := hx
  obtain ⟨hm, hi1, hi2⟩ := single_parts ea
  by_cases h0 : m = 0
  · subst h0
    obtain ⟨m', p', e, h1, h2, h3⟩ := nearest_dv FloatKind.f64.format (fmt_sign .f64) s 0 i ((0 : Nat) : Int) (by rw [tw_nat]; simp [Rat.zero_mul]; decide) (fmt_lo .f64 _) (fmt_hi .f64 (by omega))
    have h4 := h3 (by have e1 : FloatKind.f64.format.leastPlace = -1074 := double_least; omega) (by decide)
    refine ⟨_, s, m', p', rfl, ?_, ?_⟩
    · show FloatKind.f64.format.read (FloatKind.f64.format.write (FloatKind.f32.format.read a)) = _
      rw [ea]; exact e
    · rw [dv_eq, dv_eq, h4]
  · have hl : m.log2 < 24 := (Nat.log2_lt h0).2 hm
    have hK : (m : Rat) * tw i ≤ tw (128 : Int) := by
      have h1 := (log_le h0 i).2
      have h2 := tw_le (show (m.log2 : Int) + i + 1 ≤ 128 by omega)
      grind
    obtain ⟨m', p', e, h1, h2, h3⟩ := nearest_dv FloatKind.f64.format (fmt_sign .f64) s m i 128 hK (by have e1 : FloatKind.f64.format.leastPlace = -1074 := double_least; have e2 : (FloatKind.f64.format.fractionBits : Int) = 52 := rfl; omega) (by decide)
    have h4 := h3 (by have e1 : FloatKind.f64.format.leastPlace = -1074 := double_least; omega) (by have e2 : FloatKind.f64.format.fractionBits = 52 := rfl; omega)
    refine ⟨_, s, m', p', rfl, ?_, ?_⟩
    · show FloatKind.f64.format.read (FloatKind.f64.format.write (FloatKind.f32.format.read a)) = _
      rw [ea]; exact e
    · rw [dv_eq, dv_eq, h4]

/-- 'float32(y)': rounded; it does not overflow. -/
theorem Vl.nar {X : Option Nat} {x : Rat} (hx : Vl .f64 X x) (K : Nat) (hK : K ≤ 100) (h : -(2 ^ K : Rat) ≤ x) (h' : x ≤ 2 ^ K) : ∃ r, Vl .f32 (Go.Proofs.Yticoikchcmmpfaa.nar X) r ∧ Nr r x (2 ^ K * uk .f32) := by
  obtain ⟨a, s, m, i, rfl, ea, e⟩ := hx
  obtain ⟨r, hr, hn⟩ := write_vl .f32 s m i K hK e h h'
  refine ⟨r, ?_, hn⟩
  show Vl .f32 (some (FloatKind.f32.format.write (FloatKind.f64.format.read a))) r
  rw [ea]
  exact hr

theorem Vl.noOver {y : Nat} {x : Rat} (hx : Vl .f64 (some y) x) (K : Nat) (hK : K ≤ 100) (h : -(2 ^ K : Rat) ≤ x) (h' : x ≤ 2 ^ K) : NoOver y := by
  intro s m p hy
  obtain ⟨a, s', m', i', e, ea, e'⟩ := hx
  cases e
  rw [show FloatKind.f64.format.read y = .number s m p from hy] at ea
  cases ea
  obtain ⟨r, ⟨b, s2, m2, p2, e1, e2, _⟩, _⟩ := write_vl .f32 s m p K hK e' h h'
  cases e1
  have hb : (m : Rat) * tw p ≤ tw (K : Int) := by
    rw [tw_nat']
    rw [dv_eq] at e'
    have := Rat.mul_nonneg (show (0 : Rat) ≤ (m : Rat) from Rat.natCast_nonneg) (Rat.le_of_lt (tw_pos p))
    cases s <;> simp at e' <;> grind
  obtain ⟨m3, p3, e3, _⟩ := nearest_dv FloatKind.f32.format (fmt_sign .f32) s m p K hb (fmt_lo .f32 K) (fmt_hi .f32 hK)
  exact ⟨m3, p3, e3⟩
end Go.Proofs.Yticoikchcmmpfaa
