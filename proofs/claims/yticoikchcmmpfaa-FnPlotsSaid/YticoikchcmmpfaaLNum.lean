/-
  Bounds: |x| <= e; operations told with them.
-/
import Derived.Test.YticoikchcmmpfaaLTab
namespace Go.Proofs.Yticoikchcmmpfaa
open Go.RowKit

def Ab (x e : Rat) : Prop := -e ≤ x ∧ x ≤ e
theorem Ab.mono {x e e' : Rat} (h : Ab x e) (he : e ≤ e') : Ab x e' := by unfold Ab at *; constructor <;> grind
theorem Ab.add {x y e e' : Rat} (h : Ab x e) (h' : Ab y e') : Ab (x + y) (e + e') := by unfold Ab at *; constructor <;> grind
theorem Ab.sub {x y e e' : Rat} (h : Ab x e) (h' : Ab y e') : Ab (x - y) (e + e') := by unfold Ab at *; constructor <;> grind
theorem Ab.pos {x e : Rat} (h : Ab x e) : 0 ≤ e := by unfold Ab at *; grind
theorem Ab.mul {x y e e' : Rat} (h : Ab x e) (h' : Ab y e') : Ab (x * y) (e * e') := by
  have he := h.pos
  have he' := h'.pos
  unfold Ab at *
  have a1 := Rat.mul_nonneg (show 0 ≤ e - x by grind) (show 0 ≤ e' - y by grind)
  have a2 := Rat.mul_nonneg (show 0 ≤ e + x by grind) (show 0 ≤ e' - y by grind)
  have a3 := Rat.mul_nonneg (show 0 ≤ e - x by grind) (show 0 ≤ e' + y by grind)
  have a4 := Rat.mul_nonneg (show 0 ≤ e + x by grind) (show 0 ≤ e' + y by grind)
  constructor <;> grind
theorem Ab.eq {x y e : Rat} (h : Ab x e) (hxy : y = x) : Ab y e := by rw [hxy]; exact h
/-- From a product to its factor. -/
theorem Ab.div {x c e b : Rat} (h : Ab (x * c) e) (hc : b ≤ c ∨ c ≤ -b) (hb : 0 < b) : Ab x (e / b) := by
  have hk : e / b * b = e := Rat.div_mul_cancel (by grind)
  have he := h.pos
  have hq : 0 ≤ e / b := Rat.le_of_mul_le_mul_right (by rw [hk, Rat.zero_mul]; exact he) hb
  generalize e / b = q at *
  unfold Ab at *
  rcases hc with hc | hc
  · constructor
    · refine le_of_mul (c := c) (by grind) ?_
      have := Rat.mul_le_mul_of_nonneg_left hc hq
      grind
    · refine le_of_mul (c := c) (by grind) ?_
      have := Rat.mul_le_mul_of_nonneg_left hc hq
      grind
  · constructor
    · refine le_of_mul (c := -c) (by grind) ?_
      have := Rat.mul_le_mul_of_nonneg_left (show b ≤ -c by grind) hq
      grind
    · refine le_of_mul (c := -c) (by grind) ?_
      have := Rat.mul_le_mul_of_nonneg_left (show b ≤ -c by grind) hq
      grind

/-- A unit of 32 bits. -/
def uu : Rat := 1 / 16777216
theorem uu_pos : 0 < uu := by decide +kernel

section
variable {X Y : Option Nat} {x y : Rat}
theorem add32 (hx : Vl .f32 X x) (hy : Vl .f32 Y y) (K : Nat) (hK : K ≤ 100) {B : Rat} (hB : (2 : Rat) ^ K = B) (h : Ab (x + y) B) : ∃ r, Vl .f32 (ab .add .f32 X Y) r ∧ Ab (r - (x + y)) (B * uu) := by
  subst hB
  obtain ⟨r, hr, n1, n2⟩ := hx.add hy K hK h.1 h.2
  refine ⟨r, hr, ?_⟩
  show _ ∧ _
  rw [show uk .f32 = uu from rfl] at n1 n2
  constructor <;> grind
theorem sub32 (hx : Vl .f32 X x) (hy : Vl .f32 Y y) (K : Nat) (hK : K ≤ 100) {B : Rat} (hB : (2 : Rat) ^ K = B) (h : Ab (x - y) B) : ∃ r, Vl .f32 (ab .sub .f32 X Y) r ∧ Ab (r - (x - y)) (B * uu) := by
  subst hB
  obtain ⟨r, hr, n1, n2⟩ := hx.sub hy K hK h.1 h.2
  refine ⟨r, hr, ?_⟩
  show _ ∧ _
  rw [show uk .f32 = uu from rfl] at n1 n2
  constructor <;> grind
theorem mul32 (hx : Vl .f32 X x) (hy : Vl .f32 Y y) (K : Nat) (hK : K ≤ 100) {B : Rat} (hB : (2 : Rat) ^ K = B) (h : Ab (x * y) B) : ∃ r, Vl .f32 (ab .mul .f32 X Y) r ∧ Ab (r - x * y) (B * uu) := by
  subst hB
  obtain ⟨r, hr, n1, n2⟩ := hx.mul hy K hK h.1 h.2
  refine ⟨r, hr, ?_⟩
  show _ ∧ _
  rw [show uk .f32 = uu from rfl] at n1 n2
  constructor <;> grind
theorem quo32 (hx : Vl .f32 X x) (hy : Vl .f32 Y y) (K : Nat) (hK : K ≤ 99) {B : Rat} (hB : (2 : Rat) ^ K = B) (q : Rat) (hq : q * y = x) (hy0 : y ≠ 0) (h : Ab q B) : ∃ r, Vl .f32 (ab .quo .f32 X Y) r ∧ Ab (r - q) (B * uu * 3) := by
  subst hB
  obtain ⟨r, hr, n1, n2⟩ := hx.quo hy K hK q hq hy0 h.1 h.2
  refine ⟨r, hr, ?_⟩
  show _ ∧ _
  rw [show uk .f32 = uu from rfl] at n1 n2
  constructor <;> grind
end

/-- z - far u. -/
theorem point_num {Z U F : Option Nat} {z u f : Rat} (hz : Vl .f32 Z z) (hu : Vl .f32 U u) (hf : Vl .f32 F f) (bz : Ab z 5) (bu : Ab u 1) (bf : Ab f 6) :
    ∃ p, Vl .f32 (ab .sub .f32 Z (ab .mul .f32 U F)) p ∧ Ab (p - (z - u * f)) (24 * uu) := by
  have b1 := bu.mul bf
  obtain ⟨m, hm, e1⟩ := mul32 hu hf 3 (by omega) (B := 8) (by decide +kernel) (b1.mono (by decide +kernel))
  have hu0 : uu ≤ 1 / 1000 := by decide +kernel
  have b2 : Ab (z - m) 16 := by
    unfold Ab at *
    constructor <;> grind
  obtain ⟨p, hp, e2⟩ := sub32 hz hm 4 (by omega) (B := 16) (by decide +kernel) b2
  refine ⟨p, hp, ?_⟩
  unfold Ab at *
  constructor <;> grind
end Go.Proofs.Yticoikchcmmpfaa
