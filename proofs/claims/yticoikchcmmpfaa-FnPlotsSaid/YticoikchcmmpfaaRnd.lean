/-
  What a number of a binary format is worth (a Rat), and by how much rounding to nearest errs.
-/
import Derived.Test.YticoikchcmmpfaaFlo
namespace Go.Proofs.Yticoikchcmmpfaa
open Ieee

def tw (p : Int) : Rat := (2 : Rat) ^ p
theorem tw_pos (p : Int) : 0 < tw p := Rat.zpow_pos (by decide)
theorem tw_add (a b : Int) : tw (a + b) = tw a * tw b := Rat.zpow_add (by decide) a b
theorem tw_zero : tw 0 = 1 := Rat.zpow_zero 2
theorem tw_nat (n : Nat) : tw (n : Int) = ((2 ^ n : Nat) : Rat) := by
  unfold tw
  rw [Rat.zpow_natCast, Rat.natCast_pow]; rfl
theorem tw_one : tw 1 = 2 := Rat.zpow_one 2
theorem one_le_pow (n : Nat) : (1 : Rat) ≤ ((2 ^ n : Nat) : Rat) := by
  have : 1 ≤ 2 ^ n := Nat.one_le_two_pow
  exact_mod_cast this
theorem tw_le {a b : Int} (h : a ≤ b) : tw a ≤ tw b := by
  obtain ⟨n, rfl⟩ : ∃ n : Nat, b = a + n := ⟨(b - a).toNat, by omega⟩
  rw [tw_add, tw_nat]
  have h1 := tw_pos a
  have h2 := one_le_pow n
  have := Rat.mul_le_mul_of_nonneg_left h2 (Rat.le_of_lt h1)
  grind
theorem tw_lt {a b : Int} (h : a < b) : tw a < tw b := by
  have h1 := tw_le (show a + 1 ≤ b by omega)
  rw [tw_add, tw_one] at h1
  have := tw_pos a
  grind
theorem of_tw_le {a b : Int} (h : tw a ≤ tw b) : a ≤ b := by
  by_cases h1 : a ≤ b
  · exact h1
  · have := tw_lt (show b < a by omega)
    grind

/-- What a number of the format is worth. -/
def dv : Datum → Rat
  | .number s m p => (if s then -1 else 1) * ((m : Rat) * tw p)
  | _ => 0

theorem cut_even (s : Bool) (n d : Nat) : 2 * (Toward.even.cut s n d * 2 ^ d) ≤ 2 * n + 2 ^ d ∧ 2 * n ≤ 2 * (Toward.even.cut s n d * 2 ^ d) + 2 ^ d ∧ n / 2 ^ d ≤ Toward.even.cut s n d ∧ Toward.even.cut s n d ≤ n / 2 ^ d + 1 := by
  unfold Toward.cut
  simp only [Nat.one_shiftLeft]
  by_cases h : d ≤ n.log2 + 2
  · rw [Nat.min_eq_left h]
    have hp : 0 < 2 ^ d := Nat.two_pow_pos d
    have hdm := Nat.div_add_mod n (2 ^ d)
    have hlt := Nat.mod_lt n hp
    generalize n / 2 ^ d = q at *
    generalize n % 2 ^ d = r at *
    generalize 2 ^ d = g at *
    rw [Nat.mul_comm] at hdm
    have hb : (decide (g < 2 * r) || g == 2 * r && q % 2 == 1) = true ∧ g ≤ 2 * r ∨ (decide (g < 2 * r) || g == 2 * r && q % 2 == 1) = false ∧ 2 * r ≤ g := by
      cases e : (decide (g < 2 * r) || g == 2 * r && q % 2 == 1)
      · simp at e; exact .inr ⟨rfl, by omega⟩
      · simp at e; exact .inl ⟨rfl, by omega⟩
    rcases hb with ⟨e, h2⟩ | ⟨e, h2⟩ <;> rw [e]
    · simp only [Bool.toNat_true, Nat.add_mul, Nat.one_mul]
      omega
    · simp only [Bool.toNat_false, Nat.add_zero]
      omega
  · rw [Nat.min_eq_right (by omega)]
    have hlog : n < 2 ^ (n.log2 + 1) := Nat.lt_log2_self
    have e2 : 2 ^ (n.log2 + 2) = 2 * 2 ^ (n.log2 + 1) := by rw [Nat.pow_succ]; omega
    have hle : 2 ^ (n.log2 + 2) ≤ 2 ^ d := Nat.pow_le_pow_right (by decide) (by omega)
    rw [e2] at hle ⊢
    generalize 2 ^ (n.log2 + 1) = g at *
    generalize 2 ^ d = g' at *
    rw [Nat.div_eq_of_lt (by omega), Nat.mod_eq_of_lt (by omega), Nat.div_eq_of_lt (by omega)]
    have e : (decide (2 * g < 2 * n) || 2 * g == 2 * n && 0 % 2 == 1) = false := by simp; omega
    rw [e]
    simp
    omega

theorem word_neg (f : Format) (s : Bool) {r : Nat} (h : r ≤ f.infRung) (hw : f.infRung < f.signWeight) : (f.word s r / f.signWeight % 2 == 1) = s ∧ f.word s r % f.signWeight = r := by
  have hr : r % f.signWeight = r := Nat.mod_eq_of_lt (by omega)
  have hd : r / f.signWeight = 0 := Nat.div_eq_of_lt (by omega)
  unfold Format.word
  cases s
  · simp only [Bool.false_eq_true, if_false]
    rw [hd]
    exact ⟨rfl, hr⟩
  · simp only [if_true]
    rw [Nat.add_mod_left, Nat.add_div_left _ (by omega), hd]
    exact ⟨rfl, hr⟩

/-- The rung q binades up, k further. -/
theorem read_rung (f : Format) (s : Bool) (hw : f.infRung < f.signWeight) {q k : Nat} (hk : q = 0 ∨ f.binade ≤ k) (hk2 : k ≤ 2 * f.binade) (hr : q * f.binade + k < f.infRung) :
    ∃ m p, f.read (f.word s (q * f.binade + k)) = .number s m p ∧ (m : Rat) * tw p = (k : Rat) * tw (f.leastPlace + q) := by
  have hB : 0 < f.binade := Nat.two_pow_pos _
  obtain ⟨e1, e2⟩ := word_neg f s (Nat.le_of_lt hr) hw
  unfold Format.read
  rw [e1, e2]
  dsimp only
  generalize f.binade = B at *
  generalize f.infRung = R at *
  by_cases h1 : q * B + k < B
  · have h0 : q = 0 := by
      rcases hk with h | h
      · exact h
      · omega
    subst h0
    rw [if_pos h1]
    refine ⟨_, _, rfl, ?_⟩
    simp
  · rw [if_neg h1, if_pos hr]
    refine ⟨_, _, rfl, ?_⟩
    by_cases h2 : k = 2 * B
    · subst h2
      have e3 : (q * B + 2 * B) % B = 0 := by rw [← Nat.add_mul]; exact Nat.mul_mod_left _ _
      have e4 : (q * B + 2 * B) / B = q + 2 := by rw [← Nat.add_mul]; exact Nat.mul_div_cancel _ hB
      rw [e3, e4, show f.leastPlace + ((q + 2 - 1 : Nat) : Int) = (f.leastPlace + q) + 1 by omega, tw_add _ 1, tw_one]
      push_cast
      grind
    · have hBk : B ≤ k := by
        rcases hk with h | h
        · subst h; omega
        · exact h
      have e3 : (q * B + k) % B = k - B := by
        rw [show q * B + k = (k - B) + (q + 1) * B by rw [Nat.add_mul]; omega, Nat.add_mul_mod_self_right, Nat.mod_eq_of_lt (by omega)]
      have e4 : (q * B + k) / B = q + 1 := by
        rw [show q * B + k = (k - B) + (q + 1) * B by rw [Nat.add_mul]; omega, Nat.add_mul_div_right _ _ hB, Nat.div_eq_of_lt (by omega)]; omega
      rw [e3, e4, show B + (k - B) = k by omega, show q + 1 - 1 = q by omega]

theorem log_le {m : Nat} (hm : m ≠ 0) (p : Int) : tw (m.log2 + p) ≤ (m : Rat) * tw p ∧ (m : Rat) * tw p < tw (m.log2 + p + 1) := by
  have h1 : ((2 ^ m.log2 : Nat) : Rat) ≤ (m : Rat) := by exact_mod_cast Nat.log2_self_le hm
  have h2 : (m : Rat) < ((2 ^ (m.log2 + 1) : Nat) : Rat) := by exact_mod_cast Nat.lt_log2_self
  have hp := tw_pos p
  rw [show (m.log2 : Int) + p + 1 = ((m.log2 + 1 : Nat) : Int) + p by omega, tw_add, tw_add _ p, tw_nat, tw_nat]
  exact ⟨Rat.mul_le_mul_of_nonneg_right h1 (Rat.le_of_lt hp), Rat.mul_lt_mul_of_pos_right h2 hp⟩

/-- Rounding: what the nearest word is worth differs from the number by half a unit at most. -/
theorem nearest_dv (f : Format) (hw : f.infRung < f.signWeight) (s : Bool) (m : Nat) (p K : Int) (hK : (m : Rat) * tw p ≤ tw K) (hlo : f.leastPlace ≤ K - f.fractionBits) (hhi : (K - f.fractionBits - f.leastPlace).toNat + 2 < 2 ^ f.exponentBits - 1) :
    ∃ m' p', f.read (f.nearest s m p) = .number s m' p' ∧ (m' : Rat) * tw p' ≤ (m : Rat) * tw p + tw (K - f.fractionBits - 1) ∧ (m : Rat) * tw p ≤ (m' : Rat) * tw p' + tw (K - f.fractionBits - 1) ∧ (f.leastPlace ≤ p → m.log2 ≤ f.fractionBits → (m' : Rat) * tw p' = (m : Rat) * tw p) := by
  have hB : 0 < f.binade := Nat.two_pow_pos _
  have hpos := tw_pos (K - f.fractionBits - 1)
  unfold Format.nearest
  by_cases h0 : m = 0
  · subst h0
    rw [if_pos rfl]
    obtain ⟨m', p', e1, e2⟩ := read_rung f s hw (q := 0) (k := 0) (.inl rfl) (Nat.zero_le _) (by
      unfold Format.infRung
      have := Nat.mul_le_mul_right f.binade (show 1 ≤ 2 ^ f.exponentBits - 1 by omega)
      omega)
    rw [Nat.zero_mul, Nat.zero_add] at e1
    refine ⟨m', p', e1, ?_⟩
    rw [e2]
    simp only [Rat.natCast_ofNat, Rat.zero_mul]
    exact ⟨by grind, by grind, fun _ _ => trivial⟩
  · rw [if_neg h0]
    dsimp only
    obtain ⟨l1, l2⟩ := log_le h0 p
    have hLK : (m.log2 : Int) + p ≤ K := of_tw_le (by grind)
    generalize hL : max (p + (m.log2 : Int) - f.fractionBits) f.leastPlace = L
    have hLlo : f.leastPlace ≤ L := by omega
    have hLhi : L ≤ K - f.fractionBits := by omega
    -- the shifted number
    obtain ⟨c1, c2, c3, c4⟩ := cut_even s (m <<< (p - L).toNat) (L - p).toNat
    generalize hk : Toward.even.cut s (m <<< (p - L).toNat) (L - p).toNat = k at *
    rw [Nat.shiftLeft_eq] at c1 c2 c3 c4
    -- in Rat: k within a half of m * 2^(p-L)
    have key : 2 * ((k : Rat) * tw L) ≤ 2 * ((m : Rat) * tw p) + tw L ∧ 2 * ((m : Rat) * tw p) ≤ 2 * ((k : Rat) * tw L) + tw L := by
      have r1 : (2 * ((k : Rat) * ((2 ^ (L - p).toNat : Nat) : Rat))) ≤ 2 * ((m : Rat) * ((2 ^ (p - L).toNat : Nat) : Rat)) + ((2 ^ (L - p).toNat : Nat) : Rat) := by exact_mod_cast c1
      have r2 : 2 * ((m : Rat) * ((2 ^ (p - L).toNat : Nat) : Rat)) ≤ (2 * ((k : Rat) * ((2 ^ (L - p).toNat : Nat) : Rat))) + ((2 ^ (L - p).toNat : Nat) : Rat) := by exact_mod_cast c2
      rw [← tw_nat, ← tw_nat] at r1 r2
      by_cases hc : p ≤ L
      · rw [show ((p - L).toNat : Int) = 0 by omega, tw_zero, show ((L - p).toNat : Int) = L - p by omega] at r1 r2
        have e : tw L = tw (L - p) * tw p := by rw [← tw_add]; congr 1; omega
        have hp := Rat.le_of_lt (tw_pos p)
        have r1' := Rat.mul_le_mul_of_nonneg_right r1 hp
        have r2' := Rat.mul_le_mul_of_nonneg_right r2 hp
        rw [e]
        constructor <;> grind
      · rw [show ((L - p).toNat : Int) = 0 by omega, tw_zero, show ((p - L).toNat : Int) = p - L by omega] at r1 r2
        have e : tw p = tw (p - L) * tw L := by rw [← tw_add]; congr 1; omega
        have hp := Rat.le_of_lt (tw_pos L)
        have r1' := Rat.mul_le_mul_of_nonneg_right r1 hp
        have r2' := Rat.mul_le_mul_of_nonneg_right r2 hp
        rw [e]
        constructor <;> grind
    have hk2 : k ≤ 2 * f.binade := by
      have hup : m * 2 ^ (p - L).toNat < 2 * f.binade * 2 ^ (L - p).toNat := by
        have h3 : m < 2 ^ (m.log2 + 1) := Nat.lt_log2_self
        have h4 : 2 ^ (m.log2 + 1) * 2 ^ (p - L).toNat ≤ 2 * f.binade * 2 ^ (L - p).toNat := by
          unfold Format.binade
          rw [show 2 * 2 ^ f.fractionBits = 2 ^ (f.fractionBits + 1) by rw [Nat.pow_succ]; omega, ← Nat.pow_add, ← Nat.pow_add]
          exact Nat.pow_le_pow_right (by decide) (by omega)
        exact Nat.lt_of_lt_of_le (Nat.mul_lt_mul_of_pos_right h3 (Nat.two_pow_pos _)) h4
      have := (Nat.div_lt_iff_lt_mul (Nat.two_pow_pos (L - p).toNat)).2 hup
      omega
    have hk1 : (L - f.leastPlace).toNat = 0 ∨ f.binade ≤ k := by
      by_cases hc : L = f.leastPlace
      · left; omega
      · right
        refine Nat.le_trans ?_ c3
        rw [Nat.le_div_iff_mul_le (Nat.two_pow_pos _)]
        have h3 : 2 ^ m.log2 ≤ m := Nat.log2_self_le h0
        refine Nat.le_trans ?_ (Nat.mul_le_mul_right _ h3)
        unfold Format.binade
        rw [← Nat.pow_add, ← Nat.pow_add]
        exact Nat.pow_le_pow_right (by decide) (by omega)
    have hr : (L - f.leastPlace).toNat * f.binade + k < f.infRung := by
      unfold Format.infRung
      have h5 := Nat.mul_le_mul_right f.binade (show (L - f.leastPlace).toNat + 3 ≤ 2 ^ f.exponentBits - 1 by omega)
      rw [Nat.add_mul] at h5
      omega
    rw [Nat.min_eq_left (Nat.le_of_lt hr)]
    obtain ⟨m', p', e1, e2⟩ := read_rung f s hw hk1 hk2 hr
    refine ⟨m', p', e1, ?_⟩
    rw [e2, show f.leastPlace + ((L - f.leastPlace).toNat : Int) = L by omega]
    have hu : tw L ≤ 2 * tw (K - f.fractionBits - 1) := by
      have := tw_le hLhi
      rw [show K - (f.fractionBits : Int) = (K - f.fractionBits - 1) + 1 by omega, tw_add _ 1, tw_one] at this
      grind
    refine ⟨by grind, by grind, fun hp hl => ?_⟩
    have hLp : L ≤ p := by omega
    have hd : (L - p).toNat = 0 := by omega
    rw [hd, cut_zero, Nat.shiftLeft_eq] at hk
    rw [← hk, Rat.natCast_mul, ← tw_nat, Rat.mul_assoc, ← tw_add]
    congr 2
    omega
end Go.Proofs.Yticoikchcmmpfaa
