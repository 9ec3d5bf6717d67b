/-
  What the law FnMeetLines looks at: the two distances.
-/
import Derived.Test.YticoikchcmmpfaaLSet
namespace Go.Proofs.Yticoikchcmmpfaa
open Go.RowKit

def dXc (ys : List Int) : Option Nat := fi (1 + b10 ys 7 5)
def dYc (ys : List Int) : Option Nat := hlf (b10 ys 8 9 - 4)
def oXc (xs ys : List Int) : Option Nat := ab .add .f32 (zXc xs) (dXc ys)
def oYc (xs ys : List Int) : Option Nat := ab .add .f32 (zYc xs) (dYc ys)
def rc (xs ys : List Int) : Option Nat := longX (ab .sub .f32 (zXc xs) (pXc xs ys 0)) (ab .sub .f32 (zYc xs) (pYc xs ys 0))
def sc (xs ys : List Int) : Option Nat := longX (ab .sub .f32 (zXc xs) (oXc xs ys)) (ab .sub .f32 (zYc xs) (oYc xs ys))

structure LongFacts (xs ys : List Int) : Prop where
  fr : Fits (sqrtF (powX (ab .sub .f32 (zXc xs) (pXc xs ys 0)) (ab .sub .f32 (zYc xs) (pYc xs ys 0))))
  fs : Fits (sqrtF (powX (ab .sub .f32 (zXc xs) (oXc xs ys)) (ab .sub .f32 (zYc xs) (oYc xs ys))))
  r : ∃ v, Vl .f32 (rc xs ys) v
  s : ∃ v, Vl .f32 (sc xs ys) v
  ox : ∃ v, Vl .f32 (oXc xs ys) v
  oy : ∃ v, Vl .f32 (oYc xs ys) v
  all : ∀ left, ∃ yes, LongsOk (pXc xs ys 0) (pYc xs ys 0) (oXc xs ys) (oYc xs ys) (rc xs ys) (sc xs ys) left yes ∧ (yes = true → ∀ P1 P2, P1 = lp1 (pXc xs ys 0) (pYc xs ys 0) (oXc xs ys) (oYc xs ys) (rc xs ys) (sc xs ys) left → P2 = lp2 (pXc xs ys 0) (pYc xs ys 0) (oXc xs ys) (oYc xs ys) (rc xs ys) (sc xs ys) left →
      Fits (sqrtF (powX (ab .sub .f32 P1 (pXc xs ys 0)) (ab .sub .f32 P2 (pYc xs ys 0)))) ∧ (aord .f64 (gapX (wid (longX (ab .sub .f32 P1 (pXc xs ys 0)) (ab .sub .f32 P2 (pYc xs ys 0)))) (wid (rc xs ys))) c05 == some .gt) = false ∧
      Fits (sqrtF (powX (ab .sub .f32 P1 (oXc xs ys)) (ab .sub .f32 P2 (oYc xs ys)))) ∧ (aord .f64 (gapX (wid (longX (ab .sub .f32 P1 (oXc xs ys)) (ab .sub .f32 P2 (oYc xs ys)))) (wid (sc xs ys))) c05 == some .gt) = false)

theorem long_facts (xs ys : List Int) : LongFacts xs ys := by
  have hu : uu ≤ 1 / 16000000 ∧ 0 < uu := by decide +kernel
  obtain ⟨n2, n6, _⟩ := nn_range ys
  have j0 := (jf_range ys 0).1
  obtain ⟨⟨p, hp, ep⟩, ⟨q, hq, eq⟩, _⟩ := p_get xs ys (k := 0) (by omega)
  obtain ⟨⟨u1, u2⟩, ⟨v1, v2⟩, hun⟩ := first_get (i := jf ys 0) (by omega) (by omega)
  obtain ⟨f1, f2, f3, _, _⟩ := ff_get xs 0
  obtain ⟨hx, bx⟩ := zX_get xs
  obtain ⟨hy, bY⟩ := zY_get xs
  have h7 := b10_range (xs := ys) 7 (n := 5) (by omega)
  have h8 := b10_range (xs := ys) 8 (n := 9) (by omega)
  obtain ⟨dx1, dx2, dx3⟩ := fi_get (n := 1 + b10 ys 7 5) (m := 5) (by omega) (by omega) (by omega)
  obtain ⟨dy1, dy2⟩ := hlf_get (n := b10 ys 8 9 - 4) (by omega) (by omega)
  rw [show fi (1 + b10 ys 7 5) = dXc ys from rfl] at dx1 dx2 dx3
  rw [show hlf (b10 ys 8 9 - 4) = dYc ys from rfl] at dy1 dy2
  have dx3' : cv (dXc ys) ≤ 5 := Rat.le_trans dx3 (by decide +kernel)
  clear dx3
  generalize cv (dXc ys) = dx at *
  generalize cv (dYc ys) = dy at *
  generalize cv (zXc xs) = zx at *
  generalize cv (zYc xs) = zy at *
  generalize cv (fi (ff xs 0)) = f at *
  generalize wv (uR (jf ys 0)) = u at *
  generalize wv (uI (jf ys 0)) = v at *
  have bu : Ab u (39 / 100) := by unfold Ab; constructor <;> grind
  have bv : Ab v (985 / 1000) := by unfold Ab; constructor <;> grind
  have bf : Ab f 6 := by unfold Ab; constructor <;> grind
  have m1 := bu.mul bf
  have m2 := bv.mul bf
  have lo1 : 19 / 100 * 1 ≤ u * f := by
    have a1 := Rat.mul_le_mul_of_nonneg_left f2 (show 0 ≤ u by grind)
    grind
  obtain ⟨o1, ho1, eo1⟩ := add32 hx dx1 4 (by omega) (B := 16) (by decide +kernel) (by unfold Ab at *; constructor <;> grind)
  obtain ⟨o2, ho2, eo2⟩ := add32 hy dy1 4 (by omega) (B := 16) (by decide +kernel) (by unfold Ab at *; constructor <;> grind)
  obtain ⟨fr, r, hr, r0, er⟩ := apart_num (t1 := u * f) (t2 := v * f) hx hy hp hq (by unfold Ab at ep ⊢; constructor <;> grind) (by unfold Ab at eq ⊢; constructor <;> grind) (m1.mono (by decide +kernel)) (m2.mono (by decide +kernel))
  obtain ⟨fs, s, hs, s0, es⟩ := apart_num (t1 := -dx) (t2 := -dy) hx hy ho1 ho2 (by unfold Ab at eo1 ⊢; constructor <;> grind) (by unfold Ab at eo2 ⊢; constructor <;> grind) (by unfold Ab; constructor <;> grind) (by unfold Ab at dy2 ⊢; constructor <;> grind)
  have hff1 : 1 ≤ f * f := by
    have a1 := Rat.mul_le_mul_of_nonneg_left f2 (show 0 ≤ f by grind)
    grind
  have hff2 := (bf.mul bf).2
  have hr2 : Ab (u * f * (u * f) + v * f * (v * f) - f * f) (36 * (1 / 100000)) := by
    have := (hun.mul (show Ab (f * f) 36 by unfold Ab; constructor <;> grind)).eq (y := u * f * (u * f) + v * f * (v * f) - f * f) (by grind)
    exact this.mono (by decide +kernel)
  obtain ⟨r1, r2⟩ := len_in (lo := 9 / 10) (hi := 61 / 10) r0 er (by unfold Ab at hr2; grind) (by unfold Ab at hr2; grind) (by decide +kernel)
  have dxx1 : 1 ≤ dx * dx := by
    have a1 := Rat.mul_le_mul_of_nonneg_left dx2 (show 0 ≤ dx by grind)
    grind
  have bdx : Ab dx 5 := by unfold Ab; constructor <;> grind
  have dxx2 := (bdx.mul bdx).2
  have dyy2 := (dy2.mul dy2).2
  have dyy1 := sq_nn dy
  obtain ⟨s1, s2⟩ := len_in (lo := 9 / 10) (hi := 55 / 10) s0 es (by grind) (by grind) (by decide +kernel)
  refine ⟨fr, fs, ⟨r, hr⟩, ⟨s, hs⟩, ⟨o1, ho1⟩, ⟨o2, ho2⟩, fun left => ?_⟩
  obtain ⟨yes, hok, hd⟩ := longs_all hp hq ho1 ho2 hr hs (by clear er es hr2; unfold Ab at *; constructor <;> grind) (by clear er es hr2; unfold Ab at *; constructor <;> grind) (by clear er es hr2; unfold Ab at *; grind) (by clear er es hr2; unfold Ab at *; grind) (by clear er es hr2; unfold Ab at *; constructor <;> grind) r1 r2 s1 s2 left
  refine ⟨yes, hok, fun hy P1 P2 e1 e2 => ?_⟩
  obtain ⟨⟨l1, h1, g1, k1⟩, ⟨l2, h2, g2, k2⟩⟩ := hd hy P1 P2 e1 e2
  exact ⟨g1, gap_test h1 hr k1, g2, gap_test h2 hs k2⟩
end Go.Proofs.Yticoikchcmmpfaa
