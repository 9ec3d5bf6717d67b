/-
  Operations on numbers of a format, told by what they are worth: the result is worth the exact result but for a small error.
-/
import Derived.Test.YticoikchcmmpfaaRnd
import Derived.Test.YticoikchcmmpfaaRoot
namespace Go.Proofs.Yticoikchcmmpfaa
open Go.RowKit Ieee

/-- A class that is a number worth v. -/
def Vl (k : FloatKind) (X : Option Nat) (v : Rat) : Prop := ∃ n s m p, X = some n ∧ k.format.read n = .number s m p ∧ dv (.number s m p) = v

theorem dv_eq (s : Bool) (m : Nat) (p : Int) : dv (.number s m p) = (if s then -1 else 1) * ((m : Rat) * tw p) := rfl

/-- Half a unit in the last place of numbers between 1 and 2. -/
def uk : FloatKind → Rat
  | .f32 => 1 / 16777216
  | .f64 => 1 / 9007199254740992

def Nr (r x e : Rat) : Prop := r ≤ x + e ∧ x ≤ r + e

theorem tw_uk (k : FloatKind) (K : Nat) : tw ((K : Int) - k.format.fractionBits - 1) = 2 ^ K * uk k := by
  rw [show (K : Int) - (k.format.fractionBits : Int) - 1 = (K : Int) + (-(k.format.fractionBits : Int) - 1) by omega, tw_add, tw_nat, Rat.natCast_pow]
  cases k
  · have : tw (-(FloatKind.f32.format.fractionBits : Int) - 1) = 1 / 16777216 := by decide +kernel
    rw [this]; rfl
  · have : tw (-(FloatKind.f64.format.fractionBits : Int) - 1) = 1 / 9007199254740992 := by decide +kernel
    rw [this]; rfl

theorem tw_nat' (K : Nat) : tw (K : Int) = (2 : Rat) ^ K := by rw [tw_nat, Rat.natCast_pow]; rfl

theorem fmt_sign (k : FloatKind) : k.format.infRung < k.format.signWeight := by cases k <;> decide
theorem fmt_lo (k : FloatKind) (K : Nat) : k.format.leastPlace ≤ (K : Int) - k.format.fractionBits := by
  cases k
  · have e1 : FloatKind.f32.format.leastPlace = -149 := single_least
    have e2 : (FloatKind.f32.format.fractionBits : Int) = 23 := rfl
    omega
  · have e1 : FloatKind.f64.format.leastPlace = -1074 := double_least
    have e2 : (FloatKind.f64.format.fractionBits : Int) = 52 := rfl
    omega
theorem fmt_hi (k : FloatKind) {K : Nat} (hK : K ≤ 100) : ((K : Int) - k.format.fractionBits - k.format.leastPlace).toNat + 2 < 2 ^ k.format.exponentBits - 1 := by
  cases k
  · have e1 : FloatKind.f32.format.leastPlace = -149 := single_least
    have e2 : (FloatKind.f32.format.fractionBits : Int) = 23 := rfl
    have e3 : 2 ^ FloatKind.f32.format.exponentBits = 256 := rfl
    omega
  · have e1 : FloatKind.f64.format.leastPlace = -1074 := double_least
    have e2 : (FloatKind.f64.format.fractionBits : Int) = 52 := rfl
    have e3 : 2 ^ FloatKind.f64.format.exponentBits = 2048 := rfl
    omega

theorem write_vl (k : FloatKind) (s : Bool) (m : Nat) (p : Int) (K : Nat) (hK : K ≤ 100) {x : Rat} (hx : dv (.number s m p) = x) (h : -(2 ^ K : Rat) ≤ x) (h' : x ≤ 2 ^ K) :
    ∃ r, Vl k (some (k.format.write (.number s m p))) r ∧ Nr r x (2 ^ K * uk k) := by
  have hp := Rat.le_of_lt (tw_pos p)
  have hm : (0 : Rat) ≤ (m : Rat) := Rat.natCast_nonneg
  have hmp := Rat.mul_nonneg hm hp
  have hb : (m : Rat) * tw p ≤ tw (K : Int) := by
    rw [tw_nat']
    unfold dv at hx
    cases s <;> simp only [if_true, Bool.false_eq_true, if_false] at hx <;> grind
  obtain ⟨m', p', e, h1, h2, _⟩ := nearest_dv k.format (fmt_sign k) s m p K hb (fmt_lo k K) (fmt_hi k hK)
  rw [tw_uk] at h1 h2
  refine ⟨dv (.number s m' p'), ⟨_, _, _, _, rfl, e, rfl⟩, ?_⟩
  unfold Nr
  unfold dv at hx ⊢
  cases s <;> simp only [if_true, Bool.false_eq_true, if_false] at hx ⊢ <;> constructor <;> grind

theorem signed_cast (s : Bool) (m up : Nat) : ((signed s m up : Int) : Rat) = (if s then -1 else 1) * ((m : Rat) * tw (up : Int)) := by
  unfold signed
  rw [tw_nat, Nat.shiftLeft_eq]
  cases s
  · rw [if_neg (by decide), if_neg (by decide), Rat.intCast_natCast, Rat.natCast_mul, Rat.one_mul]
  · rw [if_pos rfl, if_pos rfl, Rat.intCast_neg, Rat.intCast_natCast, Rat.natCast_mul]
    grind

theorem dv_total (b : Bool) (t : Int) (base : Int) (h : t ≠ 0 → b = decide (t < 0)) : dv (.number b t.natAbs base) = (t : Rat) * tw base := by
  unfold dv
  by_cases h0 : t = 0
  · subst h0
    simp [Rat.zero_mul, Rat.mul_zero]
  · rw [h h0]
    dsimp only
    by_cases hn : t < 0
    · obtain ⟨n, rfl⟩ : ∃ n : Nat, t = -(n : Int) := ⟨t.natAbs, by omega⟩
      rw [if_pos (decide_eq_true hn), Int.natAbs_neg, Int.natAbs_natCast, Rat.intCast_neg, Rat.intCast_natCast]
      grind
    · obtain ⟨n, rfl⟩ : ∃ n : Nat, t = (n : Int) := ⟨t.natAbs, by omega⟩
      rw [if_neg (by simp), Int.natAbs_natCast, Rat.intCast_natCast]
      grind

theorem sum_dv (s : Bool) (m : Nat) (i : Int) (t : Bool) (n : Nat) (j : Int) : ∃ s' m' p', Datum.sum (.number s m i) (.number t n j) = some (.number s' m' p') ∧ dv (.number s' m' p') = dv (.number s m i) + dv (.number t n j) := by
  refine ⟨_, _, _, rfl, ?_⟩
  rw [dv_total _ _ _ (fun h => by rw [if_neg h]), Rat.intCast_add, signed_cast, signed_cast]
  have e1 : tw i = tw ((i - min i j).toNat : Int) * tw (min i j) := by rw [← tw_add]; congr 1; omega
  have e2 : tw j = tw ((j - min i j).toNat : Int) * tw (min i j) := by rw [← tw_add]; congr 1; omega
  unfold dv
  dsimp only
  rw [e1, e2]
  grind

theorem product_dv (s : Bool) (m : Nat) (i : Int) (t : Bool) (n : Nat) (j : Int) : ∃ s' m' p', Datum.product (.number s m i) (.number t n j) = some (.number s' m' p') ∧ dv (.number s' m' p') = dv (.number s m i) * dv (.number t n j) := by
  refine ⟨_, _, _, rfl, ?_⟩
  unfold dv
  dsimp only
  rw [tw_add, Rat.natCast_mul]
  cases s <;> cases t <;> simp <;> grind

theorem opposite_dv (s : Bool) (m : Nat) (i : Int) : dv (.number (!s) m i) = -dv (.number s m i) := by
  unfold dv
  cases s <;> simp <;> grind

section
variable {k : FloatKind} {X Y : Option Nat} {x y : Rat}

theorem Vl.add (hx : Vl k X x) (hy : Vl k Y y) (K : Nat) (hK : K ≤ 100) (h : -(2 ^ K : Rat) ≤ x + y) (h' : x + y ≤ 2 ^ K) : ∃ r, Vl k (ab .add k X Y) r ∧ Nr r (x + y) (2 ^ K * uk k) := by
  obtain ⟨a, s, m, i, rfl, ea, rfl⟩ := hx
  obtain ⟨b, t, n, j, rfl, eb, rfl⟩ := hy
  obtain ⟨s', m', p', e1, e2⟩ := sum_dv s m i t n j
  obtain ⟨r, hr, hn⟩ := write_vl k s' m' p' K hK e2 h h'
  refine ⟨r, ?_, hn⟩
  simpa [ab, floatBits, Format.add, ea, eb, e1] using hr

theorem Vl.sub (hx : Vl k X x) (hy : Vl k Y y) (K : Nat) (hK : K ≤ 100) (h : -(2 ^ K : Rat) ≤ x - y) (h' : x - y ≤ 2 ^ K) : ∃ r, Vl k (ab .sub k X Y) r ∧ Nr r (x - y) (2 ^ K * uk k) := by
  obtain ⟨a, s, m, i, rfl, ea, rfl⟩ := hx
  obtain ⟨b, t, n, j, rfl, eb, rfl⟩ := hy
  obtain ⟨s', m', p', e1, e2⟩ := sum_dv s m i (!t) n j
  rw [opposite_dv, ← Rat.sub_eq_add_neg] at e2
  obtain ⟨r, hr, hn⟩ := write_vl k s' m' p' K hK e2 h h'
  refine ⟨r, ?_, hn⟩
  simpa [ab, floatBits, Format.sub, ea, eb, Datum.opposite, e1] using hr

theorem Vl.mul (hx : Vl k X x) (hy : Vl k Y y) (K : Nat) (hK : K ≤ 100) (h : -(2 ^ K : Rat) ≤ x * y) (h' : x * y ≤ 2 ^ K) : ∃ r, Vl k (ab .mul k X Y) r ∧ Nr r (x * y) (2 ^ K * uk k) := by
  obtain ⟨a, s, m, i, rfl, ea, rfl⟩ := hx
  obtain ⟨b, t, n, j, rfl, eb, rfl⟩ := hy
  obtain ⟨s', m', p', e1, e2⟩ := product_dv s m i t n j
  obtain ⟨r, hr, hn⟩ := write_vl k s' m' p' K hK e2 h h'
  refine ⟨r, ?_, hn⟩
  simpa [ab, floatBits, Format.mul, ea, eb, e1] using hr

theorem Vl.isNum (hx : Vl k X x) : isNum k X = true := by
  obtain ⟨a, s, m, i, rfl, ea, rfl⟩ := hx
  simp [Go.Proofs.Yticoikchcmmpfaa.isNum, ea]

theorem Vl.uniq (hx : Vl k X x) (hy : Vl k X y) : x = y := by
  obtain ⟨a, s, m, i, rfl, ea, rfl⟩ := hx
  obtain ⟨b, t, n, j, e, eb, rfl⟩ := hy
  cases e
  rw [ea] at eb
  cases eb
  rfl

end

/-! ### The quotient -/
theorem quot_core {D n Q R : Nat} (hn : 0 < n) (e : n * Q + R = D) (hR : R < n) (st : Nat) (hst : st = (R != 0).toNat) : (2 * Q + st) * n ≤ 2 * D + n ∧ 2 * D ≤ (2 * Q + st) * n + n ∧ (D = 0 → (2 * Q + st) * n = 0) := by
  subst hst
  by_cases h : R = 0
  · subst h
    have : ((0 : Nat) != 0).toNat = 0 := rfl
    rw [this, Nat.add_zero, Nat.mul_assoc, Nat.mul_comm Q n]
    omega
  · have : (R != 0).toNat = 1 := by simp [h]
    rw [this, Nat.add_mul, Nat.mul_assoc, Nat.mul_comm Q n]
    omega

theorem log2_shift_le {m n d : Nat} (hm : m ≠ 0) (_hn : n ≠ 0) : n * 2 ^ d ≤ 2 * (m <<< (d + n.log2 - m.log2)) := by
  have h1 : n < 2 ^ (n.log2 + 1) := Nat.lt_log2_self
  have h2 : 2 ^ m.log2 ≤ m := Nat.log2_self_le hm
  rw [Nat.shiftLeft_eq]
  have h3 : 2 ^ (d + n.log2) ≤ m * 2 ^ (d + n.log2 - m.log2) := by
    refine Nat.le_trans ?_ (Nat.mul_le_mul_right _ h2)
    rw [← Nat.pow_add]
    exact Nat.pow_le_pow_right (by decide) (by omega)
  have h4 : n * 2 ^ d ≤ 2 ^ (n.log2 + 1) * 2 ^ d := Nat.mul_le_mul_right _ (Nat.le_of_lt h1)
  have h5 : 2 ^ (n.log2 + 1) * 2 ^ d = 2 * 2 ^ (d + n.log2) := by
    rw [← Nat.pow_add, show n.log2 + 1 + d = (d + n.log2) + 1 by omega, Nat.pow_succ]; omega
  omega

/-- The quotient ahead of the rounding. -/
theorem quot_dv (d : Nat) (s : Bool) (m : Nat) (i : Int) (t : Bool) (n : Nat) (j : Int) (hn : n ≠ 0) : ∃ s' m' p', Datum.quotient d (.number s m i) (.number t n j) = some (.number s' m' p') ∧
    (s' = (s ^^ t)) ∧ ((m' : Rat) * tw p') * ((n : Rat) * tw j) * ((2 ^ d : Nat) : Rat) ≤ ((m : Rat) * tw i) * (((2 ^ d : Nat) : Rat) + 1) ∧ ((m : Rat) * tw i) * (((2 ^ d : Nat) : Rat) - 1) ≤ ((m' : Rat) * tw p') * ((n : Rat) * tw j) * ((2 ^ d : Nat) : Rat) := by
  have hnp : 0 < n := by omega
  refine ⟨_, _, _, by unfold Datum.quotient; dsimp only; rw [if_neg hn], rfl, ?_⟩
  generalize hD : m <<< (d + n.log2 - m.log2) = D
  obtain ⟨c1, c2, c3⟩ := quot_core hnp (Nat.div_add_mod D n) (Nat.mod_lt D hnp) _ rfl
  generalize hW : 2 * (D / n) + (D % n != 0).toNat = W at *
  have hlo : m ≠ 0 → n * 2 ^ d ≤ 2 * D := fun hm => by rw [← hD]; exact log2_shift_le hm hn
  have hmD : (m : Rat) * tw i = (D : Rat) * tw (i - ((d + n.log2 - m.log2 : Nat) : Int)) := by
    rw [← hD, Nat.shiftLeft_eq, Rat.natCast_mul, ← tw_nat, Rat.mul_assoc, ← tw_add]
    congr 2
    omega
  have e1 : tw (i - j - ((d + n.log2 - m.log2 : Nat) : Int) - 1) * tw j * 2 = tw (i - ((d + n.log2 - m.log2 : Nat) : Int)) := by
    rw [← tw_add, ← tw_one, ← tw_add]
    congr 1
    omega
  rw [hmD, ← e1]
  have hg := Rat.le_of_lt (tw_pos (i - j - ((d + n.log2 - m.log2 : Nat) : Int) - 1))
  have hj := Rat.le_of_lt (tw_pos j)
  have hgj := Rat.mul_nonneg hg hj
  generalize tw (i - j - ((d + n.log2 - m.log2 : Nat) : Int) - 1) = g at *
  generalize tw j = h at *
  have key : W * n * 2 ^ d ≤ 2 * D * (2 ^ d + 1) ∧ 2 * D * 2 ^ d ≤ W * n * 2 ^ d + 2 * D := by
    by_cases hm : m = 0
    · have hD0 : D = 0 := by rw [← hD, hm, Nat.zero_shiftLeft]
      rw [c3 hD0, hD0]; omega
    · have h1 := hlo hm
      have h2 := Nat.mul_le_mul_right (2 ^ d) c1
      have h3 := Nat.mul_le_mul_right (2 ^ d) c2
      rw [Nat.add_mul] at h2 h3
      rw [Nat.mul_add]
      omega
  have k1 : (W : Rat) * (n : Rat) * ((2 ^ d : Nat) : Rat) ≤ 2 * (D : Rat) * (((2 ^ d : Nat) : Rat) + 1) := by exact_mod_cast key.1
  have k2 : 2 * (D : Rat) * ((2 ^ d : Nat) : Rat) ≤ (W : Rat) * (n : Rat) * ((2 ^ d : Nat) : Rat) + 2 * (D : Rat) := by exact_mod_cast key.2
  have k1' := Rat.mul_le_mul_of_nonneg_right k1 hgj
  have k2' := Rat.mul_le_mul_of_nonneg_right k2 hgj
  constructor <;> grind

theorem le_of_mul {a b c : Rat} (hc : 0 < c) (h : a * c ≤ b * c) : a ≤ b := Rat.le_of_mul_le_mul_right h hc

theorem quo_lin {W d u q : Rat} (h : d * u = 2) (g : W * d * u ≤ q * (d + 1) * u) (g' : q * (d - 1) * u ≤ W * d * u) : 2 * W ≤ 2 * q + q * u ∧ 2 * q ≤ 2 * W + q * u := by
  have e1 : W * d * u = 2 * W := by rw [Rat.mul_assoc, h]; grind
  have e2 : q * (d + 1) * u = q * (d * u) + q * u := by grind
  have e3 : q * (d - 1) * u = q * (d * u) - q * u := by grind
  rw [e1, e2, h] at g
  rw [e1, e3, h] at g'
  constructor <;> grind

theorem Vl.quo {k : FloatKind} {X Y : Option Nat} {x y : Rat} (hx : Vl k X x) (hy : Vl k Y y) (K : Nat) (hK : K ≤ 99) (q : Rat) (hq : q * y = x) (hy0 : y ≠ 0) (h : -(2 ^ K : Rat) ≤ q) (h' : q ≤ 2 ^ K) : ∃ r, Vl k (ab .quo k X Y) r ∧ Nr r q (2 ^ K * uk k * 3) := by
  obtain ⟨a, s, m, i, rfl, ea, rfl⟩ := hx
  obtain ⟨b, t, n, j, rfl, eb, rfl⟩ := hy
  have hn : n ≠ 0 := by
    intro h0
    subst h0
    apply hy0
    unfold dv
    simp [Rat.zero_mul, Rat.mul_zero]
  obtain ⟨s', m', p', e1, es, c1, c2⟩ := quot_dv (k.format.fractionBits + 2) s m i t n j hn
  have hd : ((2 ^ (k.format.fractionBits + 2) : Nat) : Rat) * uk k = 2 := by cases k <;> decide +kernel
  have hu : (0 : Rat) < uk k ∧ uk k ≤ 1 := by cases k <;> decide +kernel
  generalize ((2 ^ (k.format.fractionBits + 2) : Nat) : Rat) = d at *
  have hB : 0 < (n : Rat) * tw j := Rat.mul_pos (by exact_mod_cast Nat.pos_of_ne_zero hn) (tw_pos j)
  have hA : 0 ≤ (m : Rat) * tw i := Rat.mul_nonneg Rat.natCast_nonneg (Rat.le_of_lt (tw_pos i))
  generalize hBe : (n : Rat) * tw j = B at *
  generalize hAe : (m : Rat) * tw i = A at *
  generalize hWe : (m' : Rat) * tw p' = W at *
  -- |W - |q|| is at most |q| / d
  obtain ⟨q', hq', hs, hq0⟩ : ∃ q' : Rat, q' * B = A ∧ (q = (if (s ^^ t) then -1 else 1) * q') ∧ 0 ≤ q' := by
    refine ⟨(if (s ^^ t) then -1 else 1) * q, ?_, ?_, ?_⟩
    · rw [dv_eq, dv_eq, hBe, hAe] at hq
      cases s <;> cases t <;> simp at hq ⊢ <;> grind
    · cases s <;> cases t <;> simp <;> grind
    · refine le_of_mul hB ?_
      rw [dv_eq, dv_eq, hBe, hAe] at hq
      rw [Rat.zero_mul]
      cases s <;> cases t <;> simp at hq ⊢ <;> grind
  subst hq'
  have g1 : W * d ≤ q' * (d + 1) := le_of_mul hB (by grind)
  have g2 : q' * (d - 1) ≤ W * d := le_of_mul hB (by grind)
  have hd0 : 0 < d := by
    have : 0 ≤ d ∨ d < 0 := by grind
    rcases this with h1 | h1
    · rcases (show d = 0 ∨ 0 < d by grind) with h2 | h2
      · subst h2; grind
      · exact h2
    · have := Rat.mul_le_mul_of_nonneg_right (Rat.le_of_lt h1) (Rat.le_of_lt hu.1)
      grind
  obtain ⟨w1, w2⟩ := quo_lin hd (Rat.mul_le_mul_of_nonneg_right g1 (Rat.le_of_lt hu.1)) (Rat.mul_le_mul_of_nonneg_right g2 (Rat.le_of_lt hu.1))
  have hqK : q' ≤ 2 ^ K := by
    cases e : (s ^^ t) <;> rw [e] at hs <;> simp at hs <;> grind
  have hqu := Rat.mul_le_mul_of_nonneg_right hqK (Rat.le_of_lt hu.1)
  have hqu2 : q' * uk k ≤ q' := by
    have := Rat.mul_le_mul_of_nonneg_left hu.2 hq0
    grind
  have e2 : (2 : Rat) ^ (K + 1) = 2 * 2 ^ K := by rw [Rat.pow_succ]; grind
  have hv : dv (.number s' m' p') = (if (s ^^ t) then -1 else 1) * W := by rw [dv_eq, hWe, es]
  have hW0 : 0 ≤ W := by rw [← hWe]; exact Rat.mul_nonneg Rat.natCast_nonneg (Rat.le_of_lt (tw_pos p'))
  obtain ⟨r, hr, n1, n2⟩ := write_vl k s' m' p' (K + 1) (by omega) hv (by rw [e2]; cases (s ^^ t) <;> simp <;> grind) (by rw [e2]; cases (s ^^ t) <;> simp <;> grind)
  refine ⟨r, ?_, ?_⟩
  · simpa [ab, floatBits, Format.div, ea, eb, e1] using hr
  · rw [e2] at n1 n2
    unfold Nr
    rw [hs]
    cases e : (s ^^ t) <;> rw [e] at n1 n2 <;> simp at n1 n2 ⊢ <;> constructor <;> grind

/-! ### How two numbers stand -/
theorem compare_int (a b : Int) : (a < b → compare a b = .lt) ∧ (a = b → compare a b = .eq) ∧ (b < a → compare a b = .gt) := by
  refine ⟨fun h => ?_, fun h => ?_, fun h => ?_⟩
  · show (if a < b then _ else _) = _
    rw [if_pos h]
  · show (if a < b then _ else if a = b then _ else _) = _
    rw [if_neg (by omega), if_pos h]
  · show (if a < b then _ else if a = b then _ else _) = _
    rw [if_neg (by omega), if_neg (by omega)]

theorem Vl.order {k : FloatKind} {X Y : Option Nat} {x y : Rat} (hx : Vl k X x) (hy : Vl k Y y) : (x < y → aord k X Y = some .lt) ∧ (x = y → aord k X Y = some .eq) ∧ (y < x → aord k X Y = some .gt) := by
  obtain ⟨a, s, m, i, rfl, ea, rfl⟩ := hx
  obtain ⟨b, t, n, j, rfl, eb, rfl⟩ := hy
  have e1 : dv (.number s m i) = ((signed s m (i - min i j).toNat : Int) : Rat) * tw (min i j) := by
    rw [signed_cast, Rat.mul_assoc, Rat.mul_assoc, ← tw_add, dv_eq]
    congr 3
    omega
  have e2 : dv (.number t n j) = ((signed t n (j - min i j).toNat : Int) : Rat) * tw (min i j) := by
    rw [signed_cast, Rat.mul_assoc, Rat.mul_assoc, ← tw_add, dv_eq]
    congr 3
    omega
  have e3 : aord k (some a) (some b) = some (compare (signed s m (i - min i j).toNat) (signed t n (j - min i j).toNat)) := by
    simp [aord, Format.order, ea, eb, Datum.order]
  rw [e1, e2, e3]
  have hp := tw_pos (min i j)
  generalize signed s m (i - min i j).toNat = A
  generalize signed t n (j - min i j).toNat = B
  generalize tw (min i j) = g at *
  obtain ⟨c1, c2, c3⟩ := compare_int A B
  have mono : ∀ {u v : Int}, u ≤ v → (u : Rat) * g ≤ (v : Rat) * g := fun h => Rat.mul_le_mul_of_nonneg_right (by exact_mod_cast h) (Rat.le_of_lt hp)
  have smono : ∀ {u v : Int}, u < v → (u : Rat) * g < (v : Rat) * g := fun h => Rat.mul_lt_mul_of_pos_right (by exact_mod_cast h) hp
  refine ⟨fun h => ?_, fun h => ?_, fun h => ?_⟩
  · rw [c1]
    by_cases hc : A < B
    · exact hc
    · have := mono (show B ≤ A by omega)
      grind
  · rw [c2]
    by_cases hc : A < B
    · have := smono hc; grind
    · by_cases hc2 : B < A
      · have := smono hc2; grind
      · omega
  · rw [c3]
    by_cases hc : B < A
    · exact hc
    · have := mono (show A ≤ B by omega)
      grind
end Go.Proofs.Yticoikchcmmpfaa
