/-
  The point nearest to lines: sums, and what comes of them.
-/
import Derived.Test.YticoikchcmmpfaaLNum2
namespace Go.Proofs.Yticoikchcmmpfaa
open Go.RowKit

/-- A height: n . p, p a point of the line through z with the normal n. -/
theorem height_num {N1 N2 P1 P2 : Option Nat} {nx ny px py ux uy f zx zy : Rat} (h1 : Vl .f32 N1 nx) (h2 : Vl .f32 N2 ny) (h3 : Vl .f32 P1 px) (h4 : Vl .f32 P2 py) (b1 : Ab nx 1) (b2 : Ab ny 1) (bu : Ab ux 1) (bv : Ab uy 1) (bf : Ab f 6) (bz : Ab zx 4) (bz' : Ab zy 4)
    (e1 : Ab (px - (zx - ux * f)) (24 * uu)) (e2 : Ab (py - (zy - uy * f)) (24 * uu)) (hn : nx * ux + ny * uy = 0) :
    ∃ h, Vl .f32 (innerX N1 N2 P1 P2) h ∧ Ab (h - (nx * zx + ny * zy)) (144 * uu) ∧ Ab h (801 / 100) := by
  have hu : uu ≤ 1 / 16000000 ∧ 0 < uu := by decide +kernel
  have p1 := bu.mul bf
  have p2 := bv.mul bf
  obtain ⟨h, hh, eh⟩ := inner_num h1 h2 h3 h4 4 (by omega) (M := 16) (by decide +kernel) (by unfold Ab at *; constructor <;> grind) (by unfold Ab at *; constructor <;> grind) b1 b2
  have m1 := b1.mul e1
  have m2 := b2.mul e2
  have z1 := b1.mul bz
  have z2 := b2.mul bz'
  have key : nx * px + ny * py - (nx * zx + ny * zy) = nx * (px - (zx - ux * f)) + ny * (py - (zy - uy * f)) := by
    have : (nx * ux + ny * uy) * f = 0 := by rw [hn]; grind
    grind
  have k2 : Ab (h - (nx * zx + ny * zy)) (144 * uu) := by
    have := (eh.add (m1.add m2)).eq (y := h - (nx * zx + ny * zy)) (by grind)
    exact this.mono (by grind)
  refine ⟨h, hh, k2, ?_⟩
  clear m1 m2 p1 p2 e1 e2 eh key
  unfold Ab at *
  constructor <;> grind

/-- One more line in a sum of products: S + a b. -/
theorem sum_num {S A B : Option Nat} {s a b : Rat} (hs : Vl .f32 S s) (ha : Vl .f32 A a) (hb : Vl .f32 B b) (K L : Nat) (hK : K ≤ 20) (hL : L ≤ 20) {M N : Rat} (hM : (2 : Rat) ^ K = M) (hN : (2 : Rat) ^ L = N) (hab : Ab (a * b) M) (h : Ab (s + a * b) (N - 1 / 1000)) (hMs : M ≤ 1000) :
    ∃ r, Vl .f32 (ab .add .f32 S (ab .mul .f32 A B)) r ∧ Ab (r - (s + a * b)) (M * uu + N * uu) := by
  have hu : uu ≤ 1 / 16000000 ∧ 0 < uu := by decide +kernel
  obtain ⟨m, hm, em⟩ := mul32 ha hb K (by omega) hM hab
  have hMu : M * uu ≤ 1000 * (1 / 16000000) := by
    have a1 := Rat.mul_le_mul_of_nonneg_right hMs (Rat.le_of_lt hu.2)
    grind
  obtain ⟨r, hr, er⟩ := add32 hs hm L (by omega) hN (by unfold Ab at *; constructor <;> grind)
  refine ⟨r, hr, ?_⟩
  unfold Ab at *
  constructor <;> grind

/-- The error of the first sum after one more line. -/
theorem err_num {F P Q F' P' Q' h nx ny zx zy e d1 d2 : Rat} (hF : Ab (F - (P * zx + Q * zy)) e) (hF' : Ab (F' - (F + h * nx)) d1) (hP : Ab (P' - (P + nx * nx)) d2) (hQ : Ab (Q' - (Q + nx * ny)) d2) (hh : Ab (h - (nx * zx + ny * zy)) (144 * uu)) (bn : Ab nx 1) (bz : Ab zx 4) (bz' : Ab zy 4) :
    Ab (F' - (P' * zx + Q' * zy)) (e + (144 * uu + d1 + 8 * d2)) := by
  have m1 := hh.mul bn
  have m2 := hP.mul bz
  have m3 := hQ.mul bz'
  have : F' - (P' * zx + Q' * zy) = (F - (P * zx + Q * zy)) + ((F' - (F + h * nx)) + (h - (nx * zx + ny * zy)) * nx) - ((P' - (P + nx * nx)) * zx + (Q' - (Q + nx * ny)) * zy) := by grind
  have h2 := (hF.add (hF'.add m1)).sub (m2.add m3)
  exact (h2.eq this).mono (by grind)

theorem mul_right_cancel {a b c : Rat} (hc : c ≠ 0) (h : a * c = b * c) : a = b := by
  have h1 : a * c * c⁻¹ = b * c * c⁻¹ := by rw [h]
  rw [Rat.mul_assoc, Rat.mul_assoc, Rat.mul_inv_cancel _ hc, Rat.mul_one, Rat.mul_one] at h1
  exact h1
/-- The solution: x m is near F R - G Q. -/
theorem solve_num {F G R Q M : Option Nat} {f g r q m p zx zy : Rat} (hf : Vl .f32 F f) (hg : Vl .f32 G g) (hr : Vl .f32 R r) (hq : Vl .f32 Q q) (hm : Vl .f32 M m) (K : Nat) (hK : K ≤ 10) {B : Rat} (hB : (2 : Rat) ^ K = B) (hB1 : B ≤ 1024) {e c w b : Rat} (hfz : Ab (f - (p * zx + q * zy)) e) (hgz : Ab (g - (q * zx + r * zy)) e)
    (bf : Ab (f * r) B) (bg : Ab (g * q) B) (br : Ab r c) (bq : Ab q c) (hmm : Ab (p * r - q * q - m) w) (bz : Ab zx 4) (hm0 : b ≤ m) (hb : 0 < b) (hE : 2 * (e * c) + 6 * (B * uu) + 4 * w ≤ b * (45 / 10000)) :
    ∃ x, Vl .f32 (ab .quo .f32 (ab .sub .f32 (ab .mul .f32 F R) (ab .mul .f32 G Q)) M) x ∧ Ab (x - zx) (46 / 10000) := by
  have hu : uu ≤ 1 / 16000000 ∧ 0 < uu := by decide +kernel
  have hB0 : 0 ≤ B := bf.pos
  have hBu : B * uu ≤ 1 := by
    have := Rat.mul_le_mul_of_nonneg_right hB1 (Rat.le_of_lt hu.2)
    grind
  have hBu0 : 0 ≤ B * uu := Rat.mul_nonneg hB0 (Rat.le_of_lt hu.2)
  obtain ⟨a1, h1, e1⟩ := mul32 hf hr K (by omega) hB bf
  obtain ⟨a2, h2, e2⟩ := mul32 hg hq K (by omega) hB bg
  have hB2 : (2 : Rat) ^ (K + 2) = 4 * B := by rw [Rat.pow_succ, Rat.pow_succ, hB]; grind
  have hB1' : (1 : Rat) ≤ B := by
    rw [← hB]
    have := one_le_pow K
    rw [Rat.natCast_pow] at this
    exact this
  obtain ⟨a, ha, ea⟩ := sub32 h1 h2 (K + 2) (by omega) hB2 (by clear hfz hgz br bq hmm bz hE; unfold Ab at *; constructor <;> grind)
  have ea' : Ab (a - (f * r - g * q)) (6 * (B * uu)) := by
    clear hfz hgz br bq hmm bz hE
    unfold Ab at *
    constructor <;> grind
  have hmn : m ≠ 0 := by grind
  have htc : a / m * m = a := Rat.div_mul_cancel hmn
  generalize a / m = t at *
  have k1 := hfz.mul br
  have k2 := hgz.mul bq
  have k3 := hmm.mul bz
  have hk : Ab ((t - zx) * m) (b * (45 / 10000)) := by
    have := (ea'.add ((k1.sub k2).add k3)).eq (y := (t - zx) * m) (by grind)
    exact this.mono (by grind)
  have ht := hk.div (b := b) (.inl hm0) hb
  have hbb : b * (45 / 10000) / b = 45 / 10000 := by
    have : b * (45 / 10000) / b * b = 45 / 10000 * b := by rw [Rat.div_mul_cancel (by grind)]; grind
    have h3 : b ≠ 0 := by grind
    exact mul_right_cancel h3 this
  rw [hbb] at ht
  obtain ⟨x, hx, ex⟩ := quo32 ha hm 3 (by omega) (B := 8) (by decide +kernel) t htc hmn (by clear hk k1 k2 k3 ea' ea e1 e2 bf bg; unfold Ab at *; constructor <;> grind)
  refine ⟨x, hx, ?_⟩
  clear hk k1 k2 k3 ea' ea e1 e2 bf bg
  unfold Ab at *
  constructor <;> grind

/-- The determinant. -/
theorem det_num {P R Q : Option Nat} {p r q : Rat} (hp : Vl .f32 P p) (hr : Vl .f32 R r) (hq : Vl .f32 Q q) (K : Nat) (hK : K ≤ 10) {B : Rat} (hB : (2 : Rat) ^ K = B) (hB1 : B ≤ 1024) (b1 : Ab (p * r) B) (b2 : Ab (q * q) B) :
    ∃ m, Vl .f32 (ab .sub .f32 (ab .mul .f32 P R) (ab .mul .f32 Q Q)) m ∧ Ab (p * r - q * q - m) (6 * (B * uu)) := by
  have hu : uu ≤ 1 / 16000000 ∧ 0 < uu := by decide +kernel
  have hBu : B * uu ≤ 1 / 1000 := by
    have := Rat.mul_le_mul_of_nonneg_right hB1 (Rat.le_of_lt hu.2)
    grind
  have hB1' : (1 : Rat) ≤ B := by
    rw [← hB]
    have := one_le_pow K
    rw [Rat.natCast_pow] at this
    exact this
  obtain ⟨a1, h1, e1⟩ := mul32 hp hr K (by omega) hB b1
  obtain ⟨a2, h2, e2⟩ := mul32 hq hq K (by omega) hB b2
  have hB2 : (2 : Rat) ^ (K + 2) = 4 * B := by rw [Rat.pow_succ, Rat.pow_succ, hB]; grind
  obtain ⟨m, hm, em⟩ := sub32 h1 h2 (K + 2) (by omega) hB2 (by unfold Ab at *; constructor <;> grind)
  refine ⟨m, hm, ?_⟩
  unfold Ab at *
  constructor <;> grind
end Go.Proofs.Yticoikchcmmpfaa
