/-
  The sum of the cross products around a list of points, in 32 bits: how far it is from what it should be.
-/
import Derived.Test.YticoikchcmmpfaaPNear
import Derived.Test.YticoikchcmmpfaaLMany
namespace Go.Proofs.Yticoikchcmmpfaa
open Go.RowKit

def pt (w : Nat × Nat) : Rat × Rat := (wv w.1, wv w.2)
theorem vl_wv {k : Nat} {v : Rat} (h : Vl .f32 (cl .f32 k) v) : wv k = v := by
  have hn := h.isNum
  have : cl .f32 k = some k := by
    unfold cl at hn ⊢
    split
    · rename_i hx
      simp [hx, isNum] at hn
    · rfl
  rw [this] at h
  exact (vl_word h.isNum).uniq h
theorem numF_vl {k : Nat} (h : NumF k) : Vl .f32 (cl .f32 k) (wv k) := by
  unfold NumF at h
  have : cl .f32 k = some k := by
    unfold cl at h ⊢
    split
    · rename_i hx
      simp [hx, isNum] at h
    · rfl
  rw [this] at h ⊢
  exact vl_word h
def crV (p q : Rat × Rat) : Rat := p.1 * q.2 - p.2 * q.1
/-- The sum up to k of a list of N words. -/
def sumX (P : Nat → Nat × Nat) (N : Nat) : Nat → Option Nat
  | 0 => some 0
  | k + 1 => ab .add .f32 (sumX P N k) (crossX (cl .f32 (P k).1) (cl .f32 (P k).2) (cl .f32 (P (nx N k)).1) (cl .f32 (P (nx N k)).2))
def areaX (P : Nat → Nat × Nat) (N : Nat) : Option Nat := ab .quo .f32 (sumX P N N) twoW

theorem cross6 {A B C D : Option Nat} {a b c d : Rat} (ha : Vl .f32 A a) (hb : Vl .f32 B b) (hc : Vl .f32 C c) (hd : Vl .f32 D d) (ba : Ab a (603 / 100)) (bb : Ab b (603 / 100)) (bc : Ab c (603 / 100)) (bd : Ab d (603 / 100)) :
    ∃ r, Vl .f32 (crossX A B C D) r ∧ Ab (r - (a * d - b * c)) (256 * uu) := by
  have hu : uu ≤ 1 / 16000000 ∧ 0 < uu := by decide +kernel
  have b1 := ba.mul bd
  have b2 := bb.mul bc
  obtain ⟨m1, h1, e1⟩ := mul32 ha hd 6 (by omega) (B := 64) (by decide +kernel) (b1.mono (by decide +kernel))
  obtain ⟨m2, h2, e2⟩ := mul32 hb hc 6 (by omega) (B := 64) (by decide +kernel) (b2.mono (by decide +kernel))
  have b3 : Ab (m1 - m2) 128 := by
    unfold Ab at *
    constructor <;> grind
  obtain ⟨r, hr, e3⟩ := sub32 h1 h2 7 (by omega) (B := 128) (by decide +kernel) b3
  refine ⟨r, hr, ?_⟩
  clear b1 b2 b3
  unfold Ab at *
  constructor <;> grind

/-- A list of points within a box about b. -/
structure BoxN (P : Nat → Nat × Nat) (N : Nat) (bx b2 : Rat) : Prop where
  num : ∀ k, k < N → NumC (P k)
  px : ∀ k, k < N → Ab (wv (P k).1 - bx) (402 / 100)
  py : ∀ k, k < N → Ab (wv (P k).2 - b2) (402 / 100)
  cx : Ab bx 2
  cy : Ab b2 2
/-- The exact sum up to k. -/
def sumV (P : Nat → Nat × Nat) (N k : Nat) : Rat := sm k fun j => crV (pt (P j)) (pt (P (nx N j)))
section
variable {P : Nat → Nat × Nat} {N : Nat} {bx b2 : Rat} (h : BoxN P N bx b2)
include h
theorem BoxN.in6 {k : Nat} (hk : k < N) : Ab (wv (P k).1) (603 / 100) ∧ Ab (wv (P k).2) (603 / 100) := by
  have h1 := h.px k hk
  have h2 := h.py k hk
  have h3 := h.cx
  have h4 := h.cy
  unfold Ab at *
  constructor <;> constructor <;> grind
theorem BoxN.part (hN : N ≤ 14) {k : Nat} (hk : k ≤ N) : Ab (sumV P N k) 490 := by
  have key : ∀ k, k ≤ N → Ab (sumV P N k - (bx * ((pt (P (if k = N then 0 else k))).2 - (pt (P 0)).2) - b2 * ((pt (P (if k = N then 0 else k))).1 - (pt (P 0)).1))) (k * (324 / 10)) := by
    intro k
    induction k with
    | zero =>
      intro _
      unfold sumV sm
      have : (if 0 = N then 0 else 0) = 0 := by split <;> rfl
      rw [this]
      unfold Ab
      simp [Rat.zero_mul, Rat.mul_zero, Rat.sub_self]
    | succ k ih =>
      intro hk
      have i1 := ih (by omega)
      rw [if_neg (show ¬ k = N by omega)] at i1
      rw [show (if k + 1 = N then 0 else k + 1) = nx N k from rfl]
      have hn := nx_lt (show k < N by omega)
      have p1 := h.px k (by omega)
      have p2 := h.py k (by omega)
      have p3 := h.px _ hn
      have p4 := h.py _ hn
      have q1 := p1.mul p4
      have q2 := p2.mul p3
      have e : sumV P N (k + 1) = sumV P N k + crV (pt (P k)) (pt (P (nx N k))) := rfl
      rw [e]
      have hc : ((k + 1 : Nat) : Rat) = (k : Rat) + 1 := by rw [Rat.natCast_add]; rfl
      rw [hc]
      have s1 := (i1.add (q1.sub q2)).mono (e' := ((k : Rat) + 1) * (324 / 10)) (by grind)
      refine s1.eq ?_
      show _ = sumV P N k - _ + _
      generalize sumV P N k = S
      unfold crV pt
      simp only
      generalize wv (P k).1 = x1
      generalize wv (P k).2 = y1
      generalize wv (P (nx N k)).1 = x2
      generalize wv (P (nx N k)).2 = y2
      grind
  have h1 := key k hk
  by_cases h0 : N = 0
  · have : k = 0 := by omega
    subst this
    unfold sumV sm Ab
    constructor <;> decide +kernel
  have hi : (if k = N then 0 else k) < N := by split <;> omega
  have p1 := h.px _ hi
  have p2 := h.py _ hi
  have p3 := h.px 0 (by omega)
  have p4 := h.py 0 (by omega)
  have q1 : Ab ((pt (P (if k = N then 0 else k))).2 - (pt (P 0)).2) (804 / 100) := ((p2.sub p4).mono (e' := 804 / 100) (by decide +kernel)).eq (by show wv _ - wv _ = _; grind)
  have q2 : Ab ((pt (P (if k = N then 0 else k))).1 - (pt (P 0)).1) (804 / 100) := ((p1.sub p3).mono (e' := 804 / 100) (by decide +kernel)).eq (by show wv _ - wv _ = _; grind)
  have r1 := h.cx.mul q1
  have r2 := h.cy.mul q2
  have k14 : (k : Rat) ≤ 14 := by exact_mod_cast (show k ≤ 14 by omega)
  clear q1 q2 p1 p2 p3 p4
  unfold Ab at *
  constructor <;> grind
theorem BoxN.sum (hN : N ≤ 14) {k : Nat} (hk : k ≤ N) : ∃ v, Vl .f32 (sumX P N k) v ∧ Ab (v - sumV P N k) (k * (768 * uu)) := by
  have hu : uu ≤ 1 / 16000000 ∧ 0 < uu := by decide +kernel
  induction k with
  | zero =>
    refine ⟨0, zero_vl, ?_⟩
    unfold sumV sm Ab
    simp [Rat.zero_mul, Rat.sub_self]
  | succ k ih =>
    obtain ⟨v, hv, ev⟩ := ih (by omega)
    have hk' : k < N := by omega
    have hn := nx_lt hk'
    obtain ⟨a1, a2⟩ := h.in6 hk'
    obtain ⟨a3, a4⟩ := h.in6 hn
    have n1 := h.num k hk'
    have n2 := h.num _ hn
    obtain ⟨c, hc, ec⟩ := cross6 (numF_vl n1.1) (numF_vl n1.2) (numF_vl n2.1) (numF_vl n2.2) a1 a2 a3 a4
    have e : sumV P N (k + 1) = sumV P N k + (wv (P k).1 * wv (P (nx N k)).2 - wv (P k).2 * wv (P (nx N k)).1) := rfl
    have hp := h.part hN hk
    rw [e] at hp ⊢
    have hc1 : ((k + 1 : Nat) : Rat) = (k : Rat) + 1 := by rw [Rat.natCast_add]; rfl
    rw [hc1]
    have k14 : (k : Rat) ≤ 14 := by exact_mod_cast (show k ≤ 14 by omega)
    have k14' := Rat.mul_le_mul_of_nonneg_right k14 (show 0 ≤ 768 * uu by grind)
    generalize wv (P k).1 * wv (P (nx N k)).2 - wv (P k).2 * wv (P (nx N k)).1 = C at *
    generalize sumV P N k = S at *
    clear a1 a2 a3 a4 n1 n2
    have b : Ab (v + c) 512 := by
      unfold Ab at *
      constructor <;> grind
    obtain ⟨w, hw, ew⟩ := add32 hv hc 9 (by omega) (B := 512) (by decide +kernel) b
    refine ⟨w, hw, ?_⟩
    clear b hp k14'
    unfold Ab at *
    constructor <;> grind
/-- Half of it. -/
theorem BoxN.area (hN : N ≤ 14) (hS : Ab (sumV P N N) 240) : ∃ v, Vl .f32 (areaX P N) v ∧ Ab (v - sumV P N N / 2) (N * (384 * uu) + 384 * uu) := by
  have hu : uu ≤ 1 / 16000000 ∧ 0 < uu := by decide +kernel
  obtain ⟨s, hs, es⟩ := h.sum hN (Nat.le_refl N)
  have k14 : (N : Rat) ≤ 14 := by exact_mod_cast hN
  have k14' := Rat.mul_le_mul_of_nonneg_right k14 (show 0 ≤ 768 * uu by grind)
  obtain ⟨v, hv, ev⟩ := quo32 hs two_num 7 (by omega) (B := 128) (by decide +kernel) (s / 2) (by grind) (by decide +kernel) (by unfold Ab at *; constructor <;> grind)
  refine ⟨v, hv, ?_⟩
  generalize sumV P N N = S at *
  clear k14 k14' hS
  unfold Ab at *
  constructor <;> grind
end
end Go.Proofs.Yticoikchcmmpfaa
