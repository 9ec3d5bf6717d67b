/-
  The point at two distances has them, nearly.
-/
import Derived.Test.YticoikchcmmpfaaLNum3
namespace Go.Proofs.Yticoikchcmmpfaa
open Go.RowKit

/-- A distance that is nearly known: from the parts of the point to the length. -/
theorem dist_num {P1 P2 C1 C2 : Option Nat} {p1 p2 c1 c2 t1 t2 r M : Rat} (h1 : Vl .f32 P1 p1) (h2 : Vl .f32 P2 p2) (k1 : Vl .f32 C1 c1) (k2 : Vl .f32 C2 c2) (e1 : Ab (p1 - (c1 + t1)) (200 * uu)) (e2 : Ab (p2 - (c2 + t2)) (200 * uu)) (b1 : Ab t1 28) (b2 : Ab t2 28)
    (hr : Ab (t1 * t1 + t2 * t2 - r * r) M) (hM : M ≤ 32 / 1000) (r1 : 9 / 10 ≤ r) :
    ∃ l, Vl .f32 (longX (ab .sub .f32 P1 C1) (ab .sub .f32 P2 C2)) l ∧ Fits (sqrtF (powX (ab .sub .f32 P1 C1) (ab .sub .f32 P2 C2))) ∧ Ab (l - r) (4 / 100) := by
  have hu : uu ≤ 1 / 16000000 ∧ 0 < uu := by decide +kernel
  obtain ⟨v1, hv1, f1⟩ := sub32 h1 k1 5 (by omega) (B := 32) (by decide +kernel) (by unfold Ab at e1 b1 ⊢; constructor <;> grind)
  obtain ⟨v2, hv2, f2⟩ := sub32 h2 k2 5 (by omega) (B := 32) (by decide +kernel) (by unfold Ab at e2 b2 ⊢; constructor <;> grind)
  have g1 : Ab (v1 - t1) (232 * uu) := by unfold Ab at e1 f1 ⊢; constructor <;> grind
  have g2 : Ab (v2 - t2) (232 * uu) := by unfold Ab at e2 f2 ⊢; constructor <;> grind
  have s1 := sq_err g1 b1
  have s2 := sq_err g2 b2
  obtain ⟨f, l, hl, l0, el⟩ := long_num hv1 hv2 (by unfold Ab at g1 b1 ⊢; constructor <;> grind) (by unfold Ab at g2 b2 ⊢; constructor <;> grind)
  refine ⟨l, hl, f, root_err (e := 36 / 1000) ?_ l0 r1 Rat.le_refl⟩
  have hs : 232 * uu * (2 * 28 + 232 * uu) ≤ 8 / 10000 := by decide +kernel
  clear e1 e2 f1 f2 g1 g2 b1 b2
  unfold Ab at *
  constructor <;> grind

theorem longs2 {A1 A2 B1 B2 W1 W2 D X H : Option Nat} {a1 a2 b1 b2 w1 w2 d x h r s : Rat} (hA1 : Vl .f32 A1 a1) (hA2 : Vl .f32 A2 a2) (hB1 : Vl .f32 B1 b1) (hB2 : Vl .f32 B2 b2) (hW1 : Vl .f32 W1 w1) (hW2 : Vl .f32 W2 w2) (hD : Vl .f32 D d) (hX : Vl .f32 X x) (hH : Vl .f32 H h)
    (ba1 : Ab a1 12) (ba2 : Ab a2 12) (e1 : Ab (w1 - (b1 - a1)) (8 * uu)) (e2 : Ab (w2 - (b2 - a2)) (8 * uu)) (dl : 109 / 100 ≤ d) (du : d ≤ 12) (hd : Ab (d * d - (w1 * w1 + w2 * w2)) (1 / 1000)) (hx : Ab (2 * d * x - (d * d + r * r - s * s)) (15000 * uu)) (bx : Ab x (62 / 10)) (bh : Ab h (65 / 10)) (hxh : Ab (x * x + h * h - r * r) (400 * uu))
    (r1 : 9 / 10 ≤ r) (r2 : r ≤ 61 / 10) (s1 : 9 / 10 ≤ s) (s2 : s ≤ 55 / 10) :
    Fits (mulRe (ab .quo .f32 W1 D) (ab .quo .f32 W2 D) X H) ∧ Fits (mulIm (ab .quo .f32 W1 D) (ab .quo .f32 W2 D) X H) ∧
    (∃ p1 p2, Vl .f32 (ab .add .f32 A1 (nar (mulRe (ab .quo .f32 W1 D) (ab .quo .f32 W2 D) X H))) p1 ∧ Vl .f32 (ab .add .f32 A2 (nar (mulIm (ab .quo .f32 W1 D) (ab .quo .f32 W2 D) X H))) p2) ∧
    (∀ P1 P2, P1 = ab .add .f32 A1 (nar (mulRe (ab .quo .f32 W1 D) (ab .quo .f32 W2 D) X H)) → P2 = ab .add .f32 A2 (nar (mulIm (ab .quo .f32 W1 D) (ab .quo .f32 W2 D) X H)) →
      (∃ l, Vl .f32 (longX (ab .sub .f32 P1 A1) (ab .sub .f32 P2 A2)) l ∧ Fits (sqrtF (powX (ab .sub .f32 P1 A1) (ab .sub .f32 P2 A2))) ∧ Ab (l - r) (4 / 100)) ∧
      (∃ l, Vl .f32 (longX (ab .sub .f32 P1 B1) (ab .sub .f32 P2 B2)) l ∧ Fits (sqrtF (powX (ab .sub .f32 P1 B1) (ab .sub .f32 P2 B2))) ∧ Ab (l - s) (4 / 100))) := by
  have hu : uu ≤ 1 / 16000000 ∧ 0 < uu := by decide +kernel
  have hdn : d ≠ 0 := by grind
  have hk1 : w1 / d * d = w1 := Rat.div_mul_cancel hdn
  have hk2 : w2 / d * d = w2 := Rat.div_mul_cancel hdn
  generalize w1 / d = k1 at *
  generalize w2 / d = k2 at *
  obtain ⟨ku, bk1, bk2⟩ := unit_num hk1 hk2 dl hd
  obtain ⟨g1, hg1, eg1⟩ := quo32 hW1 hD 1 (by omega) (B := 2) (by decide +kernel) k1 hk1 hdn (bk1.mono (by decide +kernel))
  obtain ⟨g2, hg2, eg2⟩ := quo32 hW2 hD 1 (by omega) (B := 2) (by decide +kernel) k2 hk2 hdn (bk2.mono (by decide +kernel))
  obtain ⟨⟨f1, m1, hm1, em1⟩, f2, m2, hm2, em2⟩ := mul_num hg1 hg2 hX hH (by unfold Ab at bk1 eg1 ⊢; constructor <;> grind) (by unfold Ab at bk2 eg2 ⊢; constructor <;> grind) (bx.mono (by decide +kernel)) (bh.mono (by decide +kernel))
  have q1 := eg1.mul bx
  have q2 := eg2.mul bh
  have q3 := eg1.mul bh
  have q4 := eg2.mul bx
  have em1' : Ab (m1 - (k1 * x - k2 * h)) (150 * uu) := by clear e1 e2 hd hx hxh ku bk1 bk2 bx bh; unfold Ab at *; constructor <;> grind
  have em2' : Ab (m2 - (k1 * h + k2 * x)) (150 * uu) := by clear e1 e2 hd hx hxh ku bk1 bk2 bx bh; unfold Ab at *; constructor <;> grind
  have t1 := bk1.mul bx
  have t2 := bk2.mul bh
  have t3 := bk1.mul bh
  have t4 := bk2.mul bx
  have bt1 : Ab (k1 * x - k2 * h) 15 := (t1.sub t2).mono (by decide +kernel)
  have bt2 : Ab (k1 * h + k2 * x) 15 := (t3.add t4).mono (by decide +kernel)
  obtain ⟨p1, hp1, ep1⟩ := part_num hA1 hm1 ba1 bt1 em1'
  obtain ⟨p2, hp2, ep2⟩ := part_num hA2 hm2 ba2 bt2 em2'
  refine ⟨f1, f2, ⟨p1, p2, hp1, hp2⟩, ?_⟩
  rintro P1 P2 rfl rfl
  have br0 : Ab r (61 / 10) := ⟨by grind, r2⟩
  have bs0 : Ab s (55 / 10) := ⟨by grind, s2⟩
  have br : Ab (r * r) (3721 / 100) := (br0.mul br0).mono (by decide +kernel)
  have bss : Ab (s * s) (3025 / 100) := (bs0.mul bs0).mono (by decide +kernel)
  constructor
  · refine dist_num hp1 hp2 hA1 hA2 (t1 := k1 * x - k2 * h) (t2 := k1 * h + k2 * x) (M := 32 / 1000) (ep1.mono (by grind)) (ep2.mono (by grind)) (bt1.mono (by decide +kernel)) (bt2.mono (by decide +kernel)) ?_ Rat.le_refl r1
    have e : (k1 * x - k2 * h) * (k1 * x - k2 * h) + (k1 * h + k2 * x) * (k1 * h + k2 * x) - r * r = (k1 * k1 + k2 * k2 - 1) * (x * x + h * h) + (x * x + h * h - r * r) := by grind
    have b : Ab (x * x + h * h) (3722 / 100) := by unfold Ab at hxh br ⊢; constructor <;> grind
    exact (((ku.mul b).add hxh).eq e).mono (by decide +kernel)
  · have bd : Ab (x - d) (182 / 10) := by unfold Ab at bx ⊢; constructor <;> grind
    have t5 := bk1.mul bd
    have t6 := bk2.mul bd
    refine dist_num hp1 hp2 hB1 hB2 (t1 := k1 * (x - d) - k2 * h) (t2 := k1 * h + k2 * (x - d)) (M := 32 / 1000) ?_ ?_ ((t5.sub t2).mono (by decide +kernel)) ((t3.add t6).mono (by decide +kernel)) ?_ Rat.le_refl s1
    · have e : p1 - (b1 + (k1 * (x - d) - k2 * h)) = (p1 - (a1 + (k1 * x - k2 * h))) + (w1 - (b1 - a1)) := by rw [← hk1]; grind
      exact ((ep1.add e1).eq e).mono (by grind)
    · have e : p2 - (b2 + (k1 * h + k2 * (x - d))) = (p2 - (a2 + (k1 * h + k2 * x))) + (w2 - (b2 - a2)) := by rw [← hk2]; grind
      exact ((ep2.add e2).eq e).mono (by grind)
    · have e : (k1 * (x - d) - k2 * h) * (k1 * (x - d) - k2 * h) + (k1 * h + k2 * (x - d)) * (k1 * h + k2 * (x - d)) - s * s = (k1 * k1 + k2 * k2 - 1) * ((x - d) * (x - d) + h * h) + ((x * x + h * h - r * r) - (2 * d * x - (d * d + r * r - s * s))) := by grind
      have e' : (x - d) * (x - d) + h * h = s * s + ((x * x + h * h - r * r) - (2 * d * x - (d * d + r * r - s * s))) := by grind
      have b : Ab ((x - d) * (x - d) + h * h) (3026 / 100) := ((bss.add (hxh.sub hx)).eq e').mono (by decide +kernel)
      exact (((ku.mul b).add (hxh.sub hx)).eq e).mono (by decide +kernel)
end Go.Proofs.Yticoikchcmmpfaa
