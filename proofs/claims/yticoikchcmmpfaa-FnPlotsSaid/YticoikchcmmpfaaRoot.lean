/-
  The square root of a 32-bit number, by way of a 64-bit one: it does not overflow when it is narrowed.
-/
import Derived.Test.YticoikchcmmpfaaFlo
import Derived.Laws.Externs
namespace Go.Proofs.Yticoikchcmmpfaa
open Go.RowKit

section
variable (s : Bool)

theorem cut_le {m F : Nat} {p last : Int} (hl : p + (m.log2 : Int) - F ≤ last) : Ieee.Toward.even.cut s (m <<< (p - last).toNat) (last - p).toNat ≤ 2 ^ (F + 1) := by
  have h2 : m < 2 ^ (m.log2 + 1) := Nat.lt_log2_self
  by_cases hd : last ≤ p
  · have e2 : (last - p).toNat = 0 := by omega
    rw [e2, cut_zero, Nat.shiftLeft_eq]
    have h31 : m * 2 ^ (p - last).toNat < 2 ^ (m.log2 + 1) * 2 ^ (p - last).toNat := Nat.mul_lt_mul_of_pos_right h2 (Nat.two_pow_pos _)
    rw [← Nat.pow_add] at h31
    have h32 : 2 ^ (m.log2 + 1 + (p - last).toNat) ≤ 2 ^ (F + 1) := Nat.pow_le_pow_right (by omega) (by omega)
    omega
  · have e2 : (p - last).toNat = 0 := by omega
    rw [e2, Nat.shiftLeft_zero]
    have hdd : (m.log2 : Int) - F ≤ ((last - p).toNat : Int) := by omega
    generalize (last - p).toNat = d at *
    unfold Ieee.Toward.cut
    dsimp only
    have hlow : m / (1 <<< min d (m.log2 + 2)) + 1 ≤ 2 ^ (F + 1) := by
      rw [Nat.one_shiftLeft]
      by_cases hm : d ≤ m.log2 + 2
      · rw [Nat.min_eq_left hm]
        have h4 : m / 2 ^ d < 2 ^ (F + 1) := by
          rw [Nat.div_lt_iff_lt_mul (Nat.two_pow_pos _), ← Nat.pow_add]
          exact Nat.lt_of_lt_of_le h2 (Nat.pow_le_pow_right (by omega) (by omega))
        omega
      · rw [Nat.min_eq_right (by omega)]
        have h4 : m / 2 ^ (m.log2 + 2) = 0 := Nat.div_eq_of_lt (Nat.lt_of_lt_of_le h2 (Nat.pow_le_pow_right (by omega) (by omega)))
        rw [h4]
        have := Nat.two_pow_pos (F + 1)
        omega
    have hb : ∀ b : Bool, b.toNat ≤ 1 := fun b => by cases b <;> decide
    refine Nat.le_trans (Nat.add_le_add_left (hb _) _) hlow

/-- The rung of a number that is rounded. -/
def rungOf (f : Ieee.Format) (s : Bool) (m : Nat) (p : Int) : Nat :=
  (max (p + m.log2 - f.fractionBits) f.leastPlace - f.leastPlace).toNat * f.binade + Ieee.Toward.even.cut s (m <<< (p - max (p + m.log2 - f.fractionBits) f.leastPlace).toNat) (max (p + m.log2 - f.fractionBits) f.leastPlace - p).toNat

theorem nearest_eq (f : Ieee.Format) {m : Nat} (h0 : m ≠ 0) (p : Int) : f.nearest s m p = f.word s (min (rungOf f s m p) f.infRung) := by
  unfold Ieee.Format.nearest
  rw [if_neg h0]
  rfl

theorem rung_le (f : Ieee.Format) {m : Nat} {p B : Int} (hB : p + m.log2 ≤ B) (hB2 : f.leastPlace + f.fractionBits ≤ B) : (rungOf f s m p : Int) ≤ (B - f.fractionBits - f.leastPlace + 2) * f.binade := by
  unfold rungOf
  have h1 := cut_le s (m := m) (F := f.fractionBits) (p := p) (last := max (p + m.log2 - f.fractionBits) f.leastPlace) (by omega)
  have h2 : (max (p + (m.log2 : Int) - f.fractionBits) f.leastPlace - f.leastPlace).toNat ≤ (B - f.fractionBits - f.leastPlace).toNat := by omega
  have hb : f.binade = 2 ^ f.fractionBits := rfl
  rw [Nat.pow_succ, ← hb] at h1
  generalize Ieee.Toward.even.cut s (m <<< (p - max (p + m.log2 - f.fractionBits) f.leastPlace).toNat) (max (p + m.log2 - f.fractionBits) f.leastPlace - p).toNat = c at *
  have h3 := Nat.mul_le_mul_right f.binade h2
  generalize (max (p + (m.log2 : Int) - f.fractionBits) f.leastPlace - f.leastPlace).toNat = u at *
  have h4 : ((B - f.fractionBits - f.leastPlace).toNat : Int) = B - f.fractionBits - f.leastPlace := Int.toNat_of_nonneg (by omega)
  have h5 : ((u * f.binade + c : Nat) : Int) ≤ (((B - f.fractionBits - f.leastPlace).toNat * f.binade + f.binade * 2 : Nat) : Int) := by omega
  have h6 : (((B - f.fractionBits - f.leastPlace).toNat * f.binade + f.binade * 2 : Nat) : Int) = (B - f.fractionBits - f.leastPlace + 2) * f.binade := by
    rw [Int.natCast_add, Int.natCast_mul, Int.natCast_mul, h4, Int.add_mul]
    omega
  rw [h6] at h5
  exact h5

theorem single_infRung : Ieee.single.infRung = 255 * Ieee.single.binade := rfl
theorem single_least : Ieee.single.leastPlace = -149 := by decide

/-- A number below 2 ^ 127 is no infinity as a 32-bit number. -/
theorem single_fits {m : Nat} {p : Int} (h : m = 0 ∨ p + (m.log2 : Int) ≤ 126) : ∃ m' p', Ieee.single.read (Ieee.single.nearest s m p) = .number s m' p' := by
  by_cases h0 : m = 0
  · subst h0
    unfold Ieee.Format.nearest
    rw [if_pos rfl]
    exact read_word_num _ _ (by decide)
  · rw [nearest_eq s _ h0]
    refine read_word_num _ _ ?_
    have h1 := rung_le s Ieee.single (p := p) (m := m) (B := 126) (by omega) (by decide)
    have e : ((126 : Int) - Ieee.single.fractionBits - Ieee.single.leastPlace + 2) = 254 := by decide
    rw [e] at h1
    have h2 : 0 < Ieee.single.binade := by decide
    rw [single_infRung]
    refine Nat.lt_of_le_of_lt (Nat.min_le_left _ _) ?_
    omega

/-- How great a 64-bit number is that has been rounded. -/
theorem double_size {m : Nat} {p B : Int} (h : m = 0 ∨ p + (m.log2 : Int) ≤ B) (hB0 : -1000 ≤ B) (hB1 : B ≤ 1000) : ∃ m' p', Ieee.double.read (Ieee.double.nearest s m p) = .number s m' p' ∧ (m' = 0 ∨ p' + (m'.log2 : Int) ≤ B + 1) := by
  have hbpos : 0 < Ieee.double.binade := by decide
  by_cases h0 : m = 0
  · subst h0
    refine ⟨0, -1074, ?_, .inl rfl⟩
    unfold Ieee.Format.nearest
    rw [if_pos rfl]
    cases s <;> decide
  · rw [nearest_eq s _ h0]
    have h1 := rung_le s Ieee.double (p := p) (m := m) (B := B) (by omega) (by rw [double_least]; have : Ieee.double.fractionBits = 52 := rfl; omega)
    have hf : (Ieee.double.fractionBits : Int) = 52 := rfl
    rw [double_least, hf] at h1
    generalize rungOf Ieee.double s m p = r at *
    have h2 : (r : Int) ≤ (B + 1024) * Ieee.double.binade := by
      have e : B - 52 - -1074 + 2 = B + 1024 := by omega
      rw [e] at h1; exact h1
    have h3 : (B + 1024) * (Ieee.double.binade : Int) ≤ 2024 * Ieee.double.binade := Int.mul_le_mul_of_nonneg_right (by omega) (by omega)
    have h4 : r < Ieee.double.infRung := by rw [double_infRung]; omega
    rw [Nat.min_eq_left (Nat.le_of_lt h4)]
    unfold Ieee.Format.read
    rw [word_mod _ _ (Nat.le_of_lt h4), word_sign _ _ (Nat.le_of_lt h4)]
    dsimp only
    by_cases h5 : r < Ieee.double.binade
    · rw [if_pos h5]
      refine ⟨_, _, rfl, ?_⟩
      by_cases hr : r = 0
      · exact .inl hr
      · right
        rw [double_least]
        have : r.log2 < 53 := (Nat.log2_lt hr).2 (by rw [double_binade] at h5; omega)
        omega
    · rw [if_neg h5, if_pos h4]
      refine ⟨_, _, rfl, .inr ?_⟩
      rw [double_least]
      have h6 : (Ieee.double.binade + r % Ieee.double.binade).log2 < 53 := (Nat.log2_lt (by omega)).2 (by
        have := Nat.mod_lt r hbpos
        rw [double_binade] at *
        omega)
      have h7 : r / Ieee.double.binade ≤ (B + 1024).toNat := by
        refine Nat.le_of_lt_succ ((Nat.div_lt_iff_lt_mul hbpos).2 ?_)
        have h8 : ((B + 1024).toNat : Int) = B + 1024 := Int.toNat_of_nonneg (by omega)
        have h9 : (r : Int) ≤ (((B + 1024).toNat * Ieee.double.binade : Nat) : Int) := by rw [Int.natCast_mul, h8]; exact h2
        rw [Nat.succ_mul]
        omega
      generalize r / Ieee.double.binade = u at *
      omega
end

theorem rootFrom_sq (n : Nat) : ∀ (todo root : Nat), root * root ≤ n → Ieee.Datum.rootFrom n todo root * Ieee.Datum.rootFrom n todo root ≤ n
  | 0, root, h => h
  | todo + 1, root, h => by
    unfold Ieee.Datum.rootFrom
    dsimp only
    refine rootFrom_sq n todo _ ?_
    split
    · rename_i h'; exact h'
    · exact h

/-- How great a square root is. -/
theorem root_size {d : Nat} {m : Nat} {p : Int} {t : Ieee.Datum} {B : Int} (h : Ieee.Datum.root d (.number false m p) = some t) (hB : m = 0 ∨ p + (m.log2 : Int) ≤ B) :
    ∃ m' p', t = .number false m' p' ∧ (m' = 0 ∨ p' + (m'.log2 : Int) ≤ B / 2 + 1) := by
  unfold Ieee.Datum.root at h
  by_cases h0 : m = 0
  · subst h0
    simp only [if_true, Option.some.injEq] at h
    exact ⟨0, p, h.symm, .inl rfl⟩
  · simp only [if_neg h0, Bool.false_eq_true, if_false, Option.some.injEq] at h
    have hE : p + (m.log2 : Int) ≤ B := by rcases hB with h' | h'; exact absurd h' h0; exact h'
    generalize hk : (2 * d - m.log2 + ((p - ((2 * d - m.log2 : Nat) : Int)) % 2).toNat) = k at h
    have hev : (p - (k : Int)) % 2 = 0 := by omega
    generalize hw : Ieee.Datum.rootFrom (m <<< k) ((m <<< k).log2 / 2 + 1) 0 = r at h
    have hsq : r * r ≤ m <<< k := by rw [← hw]; exact rootFrom_sq _ _ _ (Nat.zero_le _)
    refine ⟨_, _, h.symm, ?_⟩
    have hc : (r * r != m <<< k).toNat ≤ 1 := by cases (r * r != m <<< k) <;> decide
    generalize (r * r != m <<< k).toNat = c at *
    by_cases hz : 2 * r + c = 0
    · exact .inl hz
    right
    have h2 : m < 2 ^ (m.log2 + 1) := Nat.lt_log2_self
    have h3 : m <<< k < 2 ^ (m.log2 + 1 + k) := by
      rw [Nat.shiftLeft_eq, Nat.pow_add]
      exact Nat.mul_lt_mul_of_pos_right h2 (Nat.two_pow_pos _)
    have h4 : r < 2 ^ ((m.log2 + k) / 2 + 1) := by
      refine Nat.lt_of_not_le fun hge => ?_
      have h5 : 2 ^ ((m.log2 + k) / 2 + 1) * 2 ^ ((m.log2 + k) / 2 + 1) ≤ r * r := Nat.mul_le_mul hge hge
      rw [← Nat.pow_add] at h5
      have h6 : 2 ^ (m.log2 + 1 + k) ≤ 2 ^ ((m.log2 + k) / 2 + 1 + ((m.log2 + k) / 2 + 1)) := Nat.pow_le_pow_right (by omega) (by omega)
      omega
    have h7 : (2 * r + c).log2 < (m.log2 + k) / 2 + 2 := (Nat.log2_lt hz).2 (by
      rw [Nat.pow_succ]
      omega)
    clear h4 h3 h2 hsq hw
    omega

/-- The square root, told of classes. -/
def sqrtF : Option Nat → Option Nat
  | none => none
  | some x => FloatKind.f64.format.sqrt x
/-- 'float32(y)' of a float64 that does not overflow, told of classes. -/
def nar : Option Nat → Option Nat
  | none => none
  | some b => some (FloatKind.f32.encode (FloatKind.f64.decode b))
def rootF (X : Option Nat) : Option Nat := nar (sqrtF (wid X))

def NoOver (y : Nat) : Prop := ∀ s m p, FloatKind.f64.decode y = .number s m p → ∃ m' p', FloatKind.f32.decode (FloatKind.f32.encode (.number s m p)) = .number s m' p'

theorem noOver_root {x y : Nat} (h : cl .f64 y = sqrtF (wid (cl .f32 x))) : NoOver y := by
  intro s m p hy
  have hy0 : cl .f64 y = some y := by
    unfold cl
    rw [show FloatKind.f64.format.read y = .number s m p from hy]
    rfl
  rw [hy0] at h
  cases hx : cl .f32 x with
  | none => rw [hx] at h; cases h
  | some x' =>
    obtain rfl := cl_some hx
    rw [hx] at h
    have h1 : some y = FloatKind.f64.format.sqrt (FloatKind.f64.encode (FloatKind.f32.decode x')) := h
    unfold Ieee.Format.sqrt at h1
    obtain ⟨t, ht, hyt⟩ := Option.map_eq_some_iff.1 h1.symm
    cases hd : FloatKind.f32.decode x' with
    | nan s' t' =>
      unfold cl at hx
      rw [show FloatKind.f32.format.read x' = .nan s' t' from hd] at hx
      cases hx
    | infinity s' =>
      rw [hd] at ht
      have e : FloatKind.f64.format.read (FloatKind.f64.encode (.infinity s')) = .infinity s' := read_word_inf _ s' (by decide)
      rw [e] at ht
      have ht' : t = .infinity false := by
        cases s'
        · simp only [Ieee.Datum.root, Bool.false_eq_true, if_false, Option.some.injEq] at ht; exact ht.symm
        · simp only [Ieee.Datum.root, if_true] at ht; cases ht
      subst ht'
      have e2 : FloatKind.f64.format.read (FloatKind.f64.format.write (.infinity false)) = .infinity false := read_word_inf _ false (by decide)
      rw [hyt] at e2
      rw [show FloatKind.f64.format.read y = .number s m p from hy] at e2
      cases e2
    | number s' m1 p1 =>
      obtain ⟨hm1, hp1, hp2⟩ := single_parts (b := x') hd
      have hE : m1 = 0 ∨ p1 + (m1.log2 : Int) ≤ 127 := by
        by_cases h0 : m1 = 0
        · exact .inl h0
        · have := (Nat.log2_lt h0).2 hm1
          right; omega
      obtain ⟨m2, p2, e, hE2⟩ := double_size s' hE (by omega) (by omega)
      have e' : FloatKind.f64.format.read (FloatKind.f64.encode (.number s' m1 p1)) = .number s' m2 p2 := e
      rw [hd, e'] at ht
      have key : ∃ m3 p3 u, t = .number u m3 p3 ∧ (m3 = 0 ∨ p3 + (m3.log2 : Int) ≤ 65) := by
        cases s' with
        | false =>
          obtain ⟨m3, p3, rfl, h3⟩ := root_size ht hE2
          exact ⟨m3, p3, false, rfl, by omega⟩
        | true =>
          unfold Ieee.Datum.root at ht
          by_cases h0 : m2 = 0
          · simp only [if_pos h0, Option.some.injEq] at ht
            exact ⟨m2, p2, true, ht.symm, .inl h0⟩
          · simp only [if_neg h0, if_true] at ht
            cases ht
      obtain ⟨m3, p3, u, rfl, hE3⟩ := key
      obtain ⟨m4, p4, e4, hE4⟩ := double_size u hE3 (by omega) (by omega)
      have e5 : FloatKind.f64.format.read y = .number u m4 p4 := by rw [← hyt]; exact e4
      rw [show FloatKind.f64.format.read y = .number s m p from hy] at e5
      cases e5
      exact single_fits s (by omega)

theorem run_nar {P : Program} (w : World) {src dst : TypeId} (hs : P.underlying src = some (.float .f64)) (hd : P.underlying dst = some (.float .f32)) (y : Nat) (hn : NoOver y) :
    ∃ r d, (convert src dst (.float .f64 y)).run P w = .ok (.float .f32 r) (w.drewN d) ∧ cl .f32 r = nar (cl .f64 y) := by
  cases h : FloatKind.f64.decode y with
  | nan s t =>
    refine ⟨(Question.nanConv .f32 y).cut (w.tape w.drawn (.nanConv .f32 y)), 1, ?_, ?_⟩
    · simp [convert, run_underlying hs, run_underlying hd, Conv.floatToFloat, h, choose, Sem.run, Question.forced, World.drewN]
    · rw [cl_convCut]
      have : cl .f64 y = none := by
        unfold cl
        rw [show FloatKind.f64.format.read y = .nan s t from h]
        rfl
      rw [this]; rfl
  | infinity s =>
    refine ⟨FloatKind.f32.encode (.infinity s), 0, ?_, ?_⟩
    · simp [convert, run_underlying hs, run_underlying hd, Conv.floatToFloat, h, World.drewN]
    · rw [cl_encode rfl]
      have : cl .f64 y = some y := by
        unfold cl
        rw [show FloatKind.f64.format.read y = .infinity s from h]
        rfl
      rw [this]
      show _ = some (FloatKind.f32.encode (FloatKind.f64.decode y))
      rw [h]
  | number s m p =>
    refine ⟨FloatKind.f32.encode (.number s m p), 0, ?_, ?_⟩
    · obtain ⟨m', p', e⟩ := hn s m p h
      simp [convert, run_underlying hs, run_underlying hd, Conv.floatToFloat, h, e, Ieee.Datum.isInfinity, World.drewN]
    · rw [cl_encode rfl]
      have : cl .f64 y = some y := by
        unfold cl
        rw [show FloatKind.f64.format.read y = .number s m p from h]
        rfl
      rw [this]
      show _ = some (FloatKind.f32.encode (FloatKind.f64.decode y))
      rw [h]

theorem wpList_nar {P : Program} {w : World} {ops : Array Oper} {rest : List Oper} {o : Oper} {a : Act} {Q : Exit → Act → World → Prop} (hg : Region.wanted o (yielded ops a.tmps) = true) {src dst : TypeId} {x : Operand} (hop : o.op = Op.convert src dst x) (hs : P.underlying src = some (.float .f64)) (hd : P.underlying dst = some (.float .f32)) {p : Nat} (hx : a.eval x = .float .f64 p) (hn : NoOver p)
    (hK : ∀ r d, cl .f32 r = nar (cl .f64 p) → wpList P ops Q rest (a.put o.dst (.float .f32 r)) (w.drewN d)) : wpList P ops Q (o :: rest) a w := by
  refine wpList_step fun K hK' => ?_
  rw [if_pos hg]
  obtain ⟨r, d, hrun, hr⟩ := run_nar (P := P) w hs hd p hn
  unfold Oper.wp
  have e : (execOp a.eval o).run P w = .ok (.value (.float .f32 r)) (w.drewN d) := by
    simp only [execOp, hop, hx]
    simp [hrun, Result.andThen]
  rw [e]
  exact hK' _ _ (hK r d hr)

/-- math.sqrt's entry. -/
theorem run_sqrt {P : Program} (w : World) (x : Nat) : ∃ r d, (Extern.MathSqrt.sqrt #[.float .f64 x]).run P w = .ok (.float .f64 r) (w.drewN d) ∧ cl .f64 r = sqrtF (cl .f64 x) := by
  have hn : cl .f64 x = none → FloatKind.f64.format.sqrt x = none := fun h => by
    obtain ⟨s, t, e⟩ := read_nan h
    unfold Ieee.Format.sqrt
    rw [e]
    rfl
  cases h : FloatKind.f64.format.sqrt x with
  | some r =>
    refine ⟨r, 0, ?_, ?_⟩
    · change Sem.run P (match FloatKind.f64.format.sqrt x with | some r => (pure (Value.float .f64 r) : Sem Value) | none => do pure (Value.float .f64 (← choose (.nanBits .f64 x x)))) w = _
      rw [h]
      rfl
    · cases hx : cl .f64 x with
      | none => rw [hn hx] at h; cases h
      | some x' =>
        obtain rfl := cl_some hx
        show _ = FloatKind.f64.format.sqrt x'
        rw [h]
        unfold Ieee.Format.sqrt at h
        exact cl_write (fun _ e => root_isNaN e) h
  | none =>
    refine ⟨(Question.nanBits .f64 x x).cut (w.tape w.drawn (.nanBits .f64 x x)), 1, ?_, ?_⟩
    · change Sem.run P (match FloatKind.f64.format.sqrt x with | some r => (pure (Value.float .f64 r) : Sem Value) | none => do pure (Value.float .f64 (← choose (.nanBits .f64 x x)))) w = _
      rw [h]
      simp [choose, Sem.run, Question.forced, World.drewN]
    · rw [cl_nanCut]
      cases hx : cl .f64 x with
      | none => rfl
      | some x' =>
        obtain rfl := cl_some hx
        show _ = FloatKind.f64.format.sqrt x'
        rw [h]
end Go.Proofs.Yticoikchcmmpfaa
