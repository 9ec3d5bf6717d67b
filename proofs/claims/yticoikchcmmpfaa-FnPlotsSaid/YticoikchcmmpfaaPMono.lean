/-
  Rounding keeps the order, and what is representable stays on its side.
-/
import Derived.Test.YticoikchcmmpfaaLNum5
namespace Go.Proofs.Yticoikchcmmpfaa
open Go.RowKit Ieee

/-- r is x rounded: k units of 2^L. -/
def Nst (f : Format) (x r : Rat) : Prop := ∃ (L : Int) (k : Nat), r = (k : Rat) * tw L ∧ 2 * ((k : Rat) * tw L) ≤ 2 * x + tw L ∧ 2 * x ≤ 2 * ((k : Rat) * tw L) + tw L ∧ (k : Rat) ≤ tw (f.fractionBits + 1) ∧ (L = f.leastPlace ∨ (tw f.fractionBits ≤ (k : Rat) ∧ tw (L + f.fractionBits) ≤ x)) ∧ x < tw (L + f.fractionBits + 1) ∧ f.leastPlace ≤ L
theorem nearest_full (f : Format) (hw : f.infRung < f.signWeight) (s : Bool) (m : Nat) (h0 : m ≠ 0) (p K : Int) (hK : (m : Rat) * tw p ≤ tw K) (hlo : f.leastPlace ≤ K - f.fractionBits) (hhi : (K - f.fractionBits - f.leastPlace).toNat + 2 < 2 ^ f.exponentBits - 1) :
    ∃ m' p', f.read (f.nearest s m p) = .number s m' p' ∧ Nst f ((m : Rat) * tw p) ((m' : Rat) * tw p') := by
  have hB : 0 < f.binade := Nat.two_pow_pos _
  unfold Format.nearest
  rw [if_neg h0]
  dsimp only
  obtain ⟨l1, l2⟩ := log_le h0 p
  have hLK : (m.log2 : Int) + p ≤ K := of_tw_le (by grind)
  generalize hL : max (p + (m.log2 : Int) - f.fractionBits) f.leastPlace = L
  have hLlo : f.leastPlace ≤ L := by omega
  have hLhi : L ≤ K - f.fractionBits := by omega
  -- the shifted number
  obtain ⟨c1, c2, c3, c4⟩ := cut_even s (m <<< (p - L).toNat) (L - p).toNat
  generalize hk : Toward.even.cut s (m <<< (p - L).toNat) (L - p).toNat = k at *
  rw [Nat.shiftLeft_eq] at c1 c2 c3 c4
  -- in Rat: k within a half of m * 2^(p-L)
  have key : 2 * ((k : Rat) * tw L) ≤ 2 * ((m : Rat) * tw p) + tw L ∧ 2 * ((m : Rat) * tw p) ≤ 2 * ((k : Rat) * tw L) + tw L := by
    have r1 : (2 * ((k : Rat) * ((2 ^ (L - p).toNat : Nat) : Rat))) ≤ 2 * ((m : Rat) * ((2 ^ (p - L).toNat : Nat) : Rat)) + ((2 ^ (L - p).toNat : Nat) : Rat) := by exact_mod_cast c1
    have r2 : 2 * ((m : Rat) * ((2 ^ (p - L).toNat : Nat) : Rat)) ≤ (2 * ((k : Rat) * ((2 ^ (L - p).toNat : Nat) : Rat))) + ((2 ^ (L - p).toNat : Nat) : Rat) := by exact_mod_cast c2
    rw [← tw_nat, ← tw_nat] at r1 r2
    by_cases hc : p ≤ L
    · rw [show ((p - L).toNat : Int) = 0 by omega, tw_zero, show ((L - p).toNat : Int) = L - p by omega] at r1 r2
      have e : tw L = tw (L - p) * tw p := by rw [← tw_add]; congr 1; omega
      have hp := Rat.le_of_lt (tw_pos p)
      have r1' := Rat.mul_le_mul_of_nonneg_right r1 hp
      have r2' := Rat.mul_le_mul_of_nonneg_right r2 hp
      rw [e]
      constructor <;> grind
    · rw [show ((L - p).toNat : Int) = 0 by omega, tw_zero, show ((p - L).toNat : Int) = p - L by omega] at r1 r2
      have e : tw p = tw (p - L) * tw L := by rw [← tw_add]; congr 1; omega
      have hp := Rat.le_of_lt (tw_pos L)
      have r1' := Rat.mul_le_mul_of_nonneg_right r1 hp
      have r2' := Rat.mul_le_mul_of_nonneg_right r2 hp
      rw [e]
      constructor <;> grind
  have hk2 : k ≤ 2 * f.binade := by
    have hup : m * 2 ^ (p - L).toNat < 2 * f.binade * 2 ^ (L - p).toNat := by
      have h3 : m < 2 ^ (m.log2 + 1) := Nat.lt_log2_self
      have h4 : 2 ^ (m.log2 + 1) * 2 ^ (p - L).toNat ≤ 2 * f.binade * 2 ^ (L - p).toNat := by
        unfold Format.binade
        rw [show 2 * 2 ^ f.fractionBits = 2 ^ (f.fractionBits + 1) by rw [Nat.pow_succ]; omega, ← Nat.pow_add, ← Nat.pow_add]
        exact Nat.pow_le_pow_right (by decide) (by omega)
      exact Nat.lt_of_lt_of_le (Nat.mul_lt_mul_of_pos_right h3 (Nat.two_pow_pos _)) h4
    have := (Nat.div_lt_iff_lt_mul (Nat.two_pow_pos (L - p).toNat)).2 hup
    omega
  have hk1 : (L - f.leastPlace).toNat = 0 ∨ f.binade ≤ k := by
    by_cases hc : L = f.leastPlace
    · left; omega
    · right
      refine Nat.le_trans ?_ c3
      rw [Nat.le_div_iff_mul_le (Nat.two_pow_pos _)]
      have h3 : 2 ^ m.log2 ≤ m := Nat.log2_self_le h0
      refine Nat.le_trans ?_ (Nat.mul_le_mul_right _ h3)
      unfold Format.binade
      rw [← Nat.pow_add, ← Nat.pow_add]
      exact Nat.pow_le_pow_right (by decide) (by omega)
  have hr : (L - f.leastPlace).toNat * f.binade + k < f.infRung := by
    unfold Format.infRung
    have h5 := Nat.mul_le_mul_right f.binade (show (L - f.leastPlace).toNat + 3 ≤ 2 ^ f.exponentBits - 1 by omega)
    rw [Nat.add_mul] at h5
    omega
  rw [Nat.min_eq_left (Nat.le_of_lt hr)]
  obtain ⟨m', p', e1, e2⟩ := read_rung f s hw hk1 hk2 hr
  refine ⟨m', p', e1, L, k, ?_, key.1, key.2, ?_, ?_, ?_, hLlo⟩
  · rw [e2, show f.leastPlace + ((L - f.leastPlace).toNat : Int) = L by omega]
  · have : (k : Rat) ≤ ((2 * f.binade : Nat) : Rat) := by exact_mod_cast hk2
    rw [show ((f.fractionBits : Int) + 1) = ((f.fractionBits + 1 : Nat) : Int) by omega, tw_nat, Nat.pow_succ, Nat.mul_comm]
    exact this
  · by_cases hc : L = f.leastPlace
    · exact .inl hc
    · right
      have hk3 : f.binade ≤ k := by
        rcases hk1 with h | h
        · omega
        · exact h
      refine ⟨?_, ?_⟩
      · rw [tw_nat]
        exact_mod_cast hk3
      · rw [show L + (f.fractionBits : Int) = (m.log2 : Int) + p by omega]
        exact l1
  · have := tw_le (show (m.log2 : Int) + p + 1 ≤ L + f.fractionBits + 1 by omega)
    grind

theorem unit_le {k k' : Nat} {u : Rat} (hu : 0 < u) (h : ¬ k ≤ k') : (k' : Rat) * u + u ≤ (k : Rat) * u := by
  have : ((k' + 1 : Nat) : Rat) ≤ (k : Rat) := by exact_mod_cast (show k' + 1 ≤ k by omega)
  have := Rat.mul_le_mul_of_nonneg_right this (Rat.le_of_lt hu)
  rw [Rat.natCast_add] at this
  have e : ((1 : Nat) : Rat) = 1 := rfl
  rw [e] at this
  grind
theorem unit_mono {k k' : Nat} {u : Rat} (hu : 0 < u) (h : k ≤ k') : (k : Rat) * u ≤ (k' : Rat) * u := by
  have : (k : Rat) ≤ (k' : Rat) := by exact_mod_cast h
  exact Rat.mul_le_mul_of_nonneg_right this (Rat.le_of_lt hu)
theorem Nst.mono {f : Format} {x y r s : Rat} (hx : Nst f x r) (hy : Nst f y s) (h : x < y) : r ≤ s := by
  obtain ⟨L, k, rfl, a1, a2, a3, a4, a5, a6⟩ := hx
  obtain ⟨L', k', rfl, b1, b2, b3, b4, b5, b6⟩ := hy
  by_cases hc : L' < L
  · exfalso
    rcases a4 with a4 | a4
    · omega
    · have h1 := tw_le (show L' + f.fractionBits + 1 ≤ L + f.fractionBits by omega)
      grind
  · by_cases he : L = L'
    · subst he
      have hu := tw_pos L
      by_cases hk : k ≤ k'
      · exact unit_mono hu hk
      · exfalso
        have := unit_le hu hk
        grind
    · rcases b4 with b4 | b4
      · omega
      · have h1 := Rat.mul_le_mul_of_nonneg_right b4.1 (Rat.le_of_lt (tw_pos L'))
        have h2 := Rat.mul_le_mul_of_nonneg_right a3 (Rat.le_of_lt (tw_pos L))
        rw [← tw_add] at h1 h2
        have h3 := tw_le (show (f.fractionBits : Int) + 1 + L ≤ f.fractionBits + L' by omega)
        exact Rat.le_trans h2 (Rat.le_trans h3 h1)
/-- A number of the format. -/
def Rep (f : Format) (y : Rat) : Prop := ∃ (M : Nat) (e : Int), y = (M : Rat) * tw e ∧ (M : Rat) < tw (f.fractionBits + 1) ∧ f.leastPlace ≤ e
theorem Rep.mult {M : Nat} {e L : Int} (h : L ≤ e) : (M : Rat) * tw e = ((M * 2 ^ (e - L).toNat : Nat) : Rat) * tw L := by
  have e1 : tw e = tw ((e - L).toNat : Int) * tw L := by rw [← tw_add]; congr 1; omega
  rw [e1, tw_nat, Rat.natCast_mul]
  grind
theorem Nst.ge {f : Format} {x y r : Rat} (hx : Nst f x r) (hy : Rep f y) (h : y ≤ x) : y ≤ r := by
  obtain ⟨L, k, rfl, a1, a2, a3, a4, a5, a6⟩ := hx
  obtain ⟨M, e, rfl, m1, m2⟩ := hy
  by_cases hc : L ≤ e
  · rw [Rep.mult hc] at *
    generalize M * 2 ^ (e - L).toNat = k' at *
    have hu := tw_pos L
    by_cases hk : k' ≤ k
    · exact unit_mono hu hk
    · exfalso
      have := unit_le hu hk
      grind
  · rcases a4 with a4 | a4
    · omega
    · have h1 := Rat.mul_le_mul_of_nonneg_right a4.1 (Rat.le_of_lt (tw_pos L))
      have h2 := Rat.mul_le_mul_of_nonneg_right (Rat.le_of_lt m1) (Rat.le_of_lt (tw_pos e))
      rw [← tw_add] at h1 h2
      have h3 := tw_le (show (f.fractionBits : Int) + 1 + e ≤ f.fractionBits + L by omega)
      exact Rat.le_trans h2 (Rat.le_trans h3 h1)
theorem Nst.le {f : Format} {x y r : Rat} (hx : Nst f x r) (hy : Rep f y) (h : x ≤ y) : r ≤ y := by
  obtain ⟨L, k, rfl, a1, a2, a3, a4, a5, a6⟩ := hx
  obtain ⟨M, e, rfl, m1, m2⟩ := hy
  by_cases hc : L ≤ e
  · rw [Rep.mult hc] at *
    generalize M * 2 ^ (e - L).toNat = k' at *
    have hu := tw_pos L
    by_cases hk : k ≤ k'
    · exact unit_mono hu hk
    · exfalso
      have := unit_le hu hk
      grind
  · exfalso
    rcases a4 with a4 | a4
    · omega
    · have h2 := Rat.mul_lt_mul_of_pos_right m1 (tw_pos e)
      rw [← tw_add] at h2
      have h3 := tw_le (show (f.fractionBits : Int) + 1 + e ≤ L + f.fractionBits by omega)
      grind

/-! ### Classes -/
theorem pos_false {s : Bool} {m : Nat} {p : Int} {x : Rat} (hx : dv (.number s m p) = x) (h : 0 < x) : s = false ∧ m ≠ 0 ∧ (m : Rat) * tw p = x := by
  rw [dv_eq] at hx
  have hmp := Rat.mul_nonneg (show (0 : Rat) ≤ (m : Rat) from Rat.natCast_nonneg) (Rat.le_of_lt (tw_pos p))
  cases s
  · simp only [Bool.false_eq_true, if_false, Rat.one_mul] at hx
    refine ⟨rfl, ?_, hx⟩
    rintro rfl
    simp [Rat.zero_mul] at hx
    grind
  · simp only [if_true] at hx
    grind
theorem write_nst (k : FloatKind) (s : Bool) (m : Nat) (p : Int) (K : Nat) (hK : K ≤ 100) {x r : Rat} (hx : dv (.number s m p) = x) (h : 0 < x) (h' : x ≤ 2 ^ K) (hr : Vl k (some (k.format.write (.number s m p))) r) : Nst k.format x r := by
  obtain ⟨rfl, hm, e⟩ := pos_false hx h
  obtain ⟨m', p', e1, hn⟩ := nearest_full k.format (fmt_sign k) false m hm p K (by rw [tw_nat', e]; exact h') (fmt_lo k K) (fmt_hi k hK)
  rw [e] at hn
  have hv : Vl k (some (k.format.write (.number false m p))) ((m' : Rat) * tw p') := ⟨_, _, _, _, rfl, e1, by rw [dv_eq, if_neg (by decide), Rat.one_mul]⟩
  rw [hr.uniq hv]
  exact hn
theorem Vl.rep {X : Option Nat} {x : Rat} (hx : Vl .f32 X x) (h : 0 < x) : Rep FloatKind.f32.format x := by
  obtain ⟨a, s, m, i, rfl, ea, ev⟩ := hx
  obtain ⟨rfl, hm, e⟩ := pos_false ev h
  obtain ⟨h1, h2, _⟩ := single_parts ea
  refine ⟨m, i, e.symm, ?_, ?_⟩
  · have e1 : tw (FloatKind.f32.format.fractionBits + 1) = ((2 ^ 24 : Nat) : Rat) := by decide +kernel
    rw [e1]
    exact_mod_cast h1
  · have e1 : FloatKind.f32.format.leastPlace = -149 := single_least
    omega
section
variable {X Y : Option Nat} {x y r : Rat}
theorem add_nst (hx : Vl .f32 X x) (hy : Vl .f32 Y y) (K : Nat) (hK : K ≤ 100) (h : 0 < x + y) (h' : x + y ≤ 2 ^ K) (hr : Vl .f32 (ab .add .f32 X Y) r) : Nst FloatKind.f32.format (x + y) r := by
  obtain ⟨a, s, m, i, rfl, ea, rfl⟩ := hx
  obtain ⟨b, t, n, j, rfl, eb, rfl⟩ := hy
  obtain ⟨s', m', p', e1, e2⟩ := sum_dv s m i t n j
  refine write_nst .f32 s' m' p' K hK e2 h h' ?_
  simpa [ab, floatBits, Format.add, ea, eb, e1] using hr
theorem sub_nst (hx : Vl .f32 X x) (hy : Vl .f32 Y y) (K : Nat) (hK : K ≤ 100) (h : 0 < x - y) (h' : x - y ≤ 2 ^ K) (hr : Vl .f32 (ab .sub .f32 X Y) r) : Nst FloatKind.f32.format (x - y) r := by
  obtain ⟨a, s, m, i, rfl, ea, rfl⟩ := hx
  obtain ⟨b, t, n, j, rfl, eb, rfl⟩ := hy
  obtain ⟨s', m', p', e1, e2⟩ := sum_dv s m i (!t) n j
  rw [opposite_dv, ← Rat.sub_eq_add_neg] at e2
  refine write_nst .f32 s' m' p' K hK e2 h h' ?_
  simpa [ab, floatBits, Format.sub, ea, eb, Datum.opposite, e1] using hr
theorem nar_nst (hx : Vl .f64 X x) (K : Nat) (hK : K ≤ 100) (h : 0 < x) (h' : x ≤ 2 ^ K) (hr : Vl .f32 (Go.Proofs.Yticoikchcmmpfaa.nar X) r) : Nst FloatKind.f32.format x r := by
  obtain ⟨a, s, m, i, rfl, ea, e⟩ := hx
  refine write_nst .f32 s m i K hK e h h' ?_
  have : Go.Proofs.Yticoikchcmmpfaa.nar (some a) = some (FloatKind.f32.format.write (.number s m i)) := by
    show some (FloatKind.f32.format.write (FloatKind.f64.format.read a)) = _
    rw [ea]
  rw [this] at hr
  exact hr
end
theorem single_form {b : Nat} {s : Bool} {m : Nat} {p : Int} (h : Ieee.single.read b = .number s m p) : p = -149 ∨ 2 ^ 23 ≤ m := by
  unfold Ieee.Format.read at h
  have hb : Ieee.single.binade = 8388608 := rfl
  have hi : Ieee.single.infRung = 2139095040 := rfl
  have hs : Ieee.single.signWeight = 2147483648 := rfl
  have hl : Ieee.single.leastPlace = -149 := by decide
  rw [hb, hi, hs, hl] at h
  dsimp only at h
  split at h
  · cases h; exact .inl rfl
  · split at h
    · cases h; right; omega
    · split at h <;> cases h
theorem form_lt {m m' : Nat} {p p' : Int} (hm : m < 2 ^ 24) (hp : -149 ≤ p) (f' : p' = -149 ∨ 2 ^ 23 ≤ m') (e : (m : Rat) * tw p = (m' : Rat) * tw p') : p' ≤ p := by
  by_cases h : p' ≤ p
  · exact h
  · exfalso
    rcases f' with f' | f'
    · omega
    · have e1 := Rep.mult (M := m') (show p ≤ p' by omega)
      rw [← e] at e1
      have h2 : m = m' * 2 ^ (p' - p).toNat := by
        have hp := tw_pos p
        have h3 : (m : Rat) = ((m' * 2 ^ (p' - p).toNat : Nat) : Rat) := by
          refine Rat.le_antisymm ?_ ?_
          · exact Rat.le_of_mul_le_mul_right (by rw [e1]; exact Rat.le_refl) hp
          · exact Rat.le_of_mul_le_mul_right (by rw [e1]; exact Rat.le_refl) hp
        exact_mod_cast h3
      have h4 : 2 ^ 1 ≤ 2 ^ (p' - p).toNat := Nat.pow_le_pow_right (by decide) (by omega)
      have := Nat.mul_le_mul f' h4
      omega
theorem wid_same {X Y : Option Nat} {x : Rat} (hx : Vl .f32 X x) (hy : Vl .f32 Y x) (h : 0 < x) : Go.Proofs.Yticoikchcmmpfaa.wid X = Go.Proofs.Yticoikchcmmpfaa.wid Y := by
  obtain ⟨a, s, m, p, rfl, ea, ev⟩ := hx
  obtain ⟨b, t, n, q, rfl, eb, ew⟩ := hy
  obtain ⟨rfl, hm, e⟩ := pos_false ev h
  obtain ⟨rfl, hn, e'⟩ := pos_false ew h
  obtain ⟨a1, a2, _⟩ := single_parts ea
  obtain ⟨b1, b2, _⟩ := single_parts eb
  have h1 := form_lt a1 a2 (single_form eb) (e.trans e'.symm)
  have h2 := form_lt b1 b2 (single_form ea) (e'.trans e.symm)
  obtain rfl : p = q := by omega
  obtain rfl : m = n := by
    have hp := tw_pos p
    have h3 : (m : Rat) = (n : Rat) := by
      refine Rat.le_antisymm ?_ ?_
      · exact Rat.le_of_mul_le_mul_right (by rw [e, e']; exact Rat.le_refl) hp
      · exact Rat.le_of_mul_le_mul_right (by rw [e, e']; exact Rat.le_refl) hp
    exact_mod_cast h3
  show some (FloatKind.f64.encode (FloatKind.f32.decode a)) = some (FloatKind.f64.encode (FloatKind.f32.decode b))
  rw [show FloatKind.f32.decode a = _ from ea, show FloatKind.f32.decode b = _ from eb]
/-- Numbers of 32 bits from 1/16 on are whole multiples of 2^-27. -/
theorem Vl.grid {X : Option Nat} {x : Rat} (hx : Vl .f32 X x) (h : 1 / 16 ≤ x) : ∃ a : Nat, x = (a : Rat) * tw (-27) := by
  obtain ⟨a, s, m, p, rfl, ea, ev⟩ := hx
  obtain ⟨rfl, hm, e⟩ := pos_false ev (by grind)
  obtain ⟨a1, a2, _⟩ := single_parts ea
  have h1 : (m : Rat) < tw 24 := by
    rw [show (24 : Int) = ((24 : Nat) : Int) from rfl, tw_nat]
    exact_mod_cast a1
  have h2 := Rat.mul_lt_mul_of_pos_right h1 (tw_pos p)
  rw [← tw_add, e] at h2
  have h3 : tw (-4) = 1 / 16 := by decide +kernel
  have hp : -27 ≤ p := by
    by_cases hc : -27 ≤ p
    · exact hc
    · have := tw_le (show 24 + p ≤ -4 by omega)
      grind
  exact ⟨_, by rw [← e]; exact Rep.mult hp⟩
/-- The root keeps the order. -/
theorem root_mono {P Q : Option Nat} {p q r s : Rat} (hp : Vl .f32 P p) (hq : Vl .f32 Q q) (h : q ≤ p) (q0 : 1 / 16 ≤ q) (p1 : p ≤ 64) (hr : Vl .f32 (rootF P) r) (hs : Vl .f32 (rootF Q) s) : s ≤ r := by
  by_cases he : p = q
  · subst he
    have := wid_same hp hq (by grind)
    unfold rootF at hr hs
    rw [this] at hr
    rw [hr.uniq hs]
    exact Rat.le_refl
  · obtain ⟨a, ha⟩ := hp.grid (by grind)
    obtain ⟨b, hb⟩ := hq.grid q0
    have hu : tw (-27) = 1 / 134217728 := by decide +kernel
    have hgap : q + 1 / 134217728 ≤ p := by
      rw [← hu]
      by_cases hc : a ≤ b
      · exfalso
        have := unit_mono (tw_pos (-27)) hc
        grind
      · have := unit_le (tw_pos (-27)) hc
        grind
    obtain ⟨x, hx, x0, nx⟩ := hp.wid.sqrt (by grind) 3 (by omega) (by rw [show (2 : Rat) ^ 3 * 2 ^ 3 = 64 by decide +kernel]; exact p1)
    obtain ⟨y, hy, y0, ny⟩ := hq.wid.sqrt (by grind) 3 (by omega) (by rw [show (2 : Rat) ^ 3 * 2 ^ 3 = 64 by decide +kernel]; grind)
    have he : (2 : Rat) ^ 3 * 2 ^ 3 * uk .f64 * 12 ≤ 1 / 1000000000000 := by decide +kernel
    unfold Nr at nx ny
    generalize (2 : Rat) ^ 3 * 2 ^ 3 * uk .f64 * 12 = ee at *
    have hxy : y < x := by
      rcases (show y < x ∨ x ≤ y by grind) with c | c
      · exact c
      · exfalso
        have h1 := Rat.mul_le_mul_of_nonneg_left c x0
        have h2 := Rat.mul_le_mul_of_nonneg_right c y0
        grind
    have hy1 : 0 < y := by
      rcases (show 0 < y ∨ y = 0 by grind) with c | c
      · exact c
      · rw [c] at ny; grind
    have hx8 : x ≤ 2 ^ 4 := by
      have e16 : (2 : Rat) ^ 4 = 16 := by decide +kernel
      rw [e16]
      refine le_of_sq (by decide) ?_
      grind
    have n1 := nar_nst hx 4 (by omega) (by grind) hx8 hr
    have n2 := nar_nst hy 4 (by omega) hy1 (by grind) hs
    exact n2.mono n1 hxy
end Go.Proofs.Yticoikchcmmpfaa
