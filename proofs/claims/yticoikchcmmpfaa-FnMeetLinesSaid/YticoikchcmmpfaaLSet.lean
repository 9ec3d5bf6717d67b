/-
  What the law FnMeetLines looks at, in plain numbers.
-/
import Derived.Test.YticoikchcmmpfaaLNum6
import Derived.Test.YticoikchcmmpfaaLMany
import Derived.Test.YticoikchcmmpfaaLAt
namespace Go.Proofs.Yticoikchcmmpfaa
open Go.RowKit

def zXc (xs : List Int) : Option Nat := qtr (b10 xs 0 33 - 16)
def zYc (xs : List Int) : Option Nat := qtr (b10 xs 1 33 - 16)
def nn (ys : List Int) : Nat := (2 + b10 ys 0 5).toNat
def jf (ys : List Int) (k : Nat) : Nat := (2 * (k : Int) + b10 ys (k + 1) 2 + 1).toNat
def ff (xs : List Int) (k : Nat) : Int := 1 + b10 xs (k + 2) 6
def pXc (xs ys : List Int) (k : Nat) : Option Nat := ab .sub .f32 (zXc xs) (ab .mul .f32 (some (uR (jf ys k))) (fi (ff xs k)))
def pYc (xs ys : List Int) (k : Nat) : Option Nat := ab .sub .f32 (zYc xs) (ab .mul .f32 (some (uI (jf ys k))) (fi (ff xs k)))
def pf (xs ys : List Int) (k : Nat) : Nat × Nat := ((pXc xs ys k).getD 0, (pYc xs ys k).getD 0)

theorem nn_range (ys : List Int) : 2 ≤ nn ys ∧ nn ys ≤ 6 ∧ ((nn ys : Nat) : Int) = 2 + b10 ys 0 5 := by
  have h := b10_range (xs := ys) 0 (n := 5) (by omega)
  unfold nn
  omega
theorem jf_range (ys : List Int) (k : Nat) : (jf ys k = 2 * k + 1 ∨ jf ys k = 2 * k + 2) ∧ ((jf ys k : Nat) : Int) = 2 * (k : Int) + b10 ys (k + 1) 2 + 1 := by
  have h := b10_range (xs := ys) (k + 1) (n := 2) (by omega)
  unfold jf
  omega
theorem zX_get (xs : List Int) : Vl .f32 (zXc xs) (cv (zXc xs)) ∧ Ab (cv (zXc xs)) 4 := by
  have h := b10_range (xs := xs) 0 (n := 33) (by omega)
  exact qtr_get (by omega) (by omega)
theorem zY_get (xs : List Int) : Vl .f32 (zYc xs) (cv (zYc xs)) ∧ Ab (cv (zYc xs)) 4 := by
  have h := b10_range (xs := xs) 1 (n := 33) (by omega)
  exact qtr_get (by omega) (by omega)
theorem ff_get (xs : List Int) (k : Nat) : Vl .f32 (fi (ff xs k)) (cv (fi (ff xs k))) ∧ 1 ≤ cv (fi (ff xs k)) ∧ cv (fi (ff xs k)) ≤ 6 ∧ 1 ≤ ff xs k ∧ ff xs k ≤ 6 := by
  have h := b10_range (xs := xs) (k + 2) (n := 6) (by omega)
  unfold ff
  obtain ⟨a, b, c⟩ := fi_get (n := 1 + b10 xs (k + 2) 6) (m := 6) (by omega) (by omega) (by omega)
  exact ⟨a, b, c, by omega, by omega⟩
theorem p_get (xs ys : List Int) {k : Nat} (hk : k < nn ys) : (∃ v, Vl .f32 (pXc xs ys k) v ∧ Ab (v - (cv (zXc xs) - wv (uR (jf ys k)) * cv (fi (ff xs k)))) (24 * uu)) ∧ (∃ v, Vl .f32 (pYc xs ys k) v ∧ Ab (v - (cv (zYc xs) - wv (uI (jf ys k)) * cv (fi (ff xs k)))) (24 * uu)) ∧ cl .f32 (pf xs ys k).1 = pXc xs ys k ∧ cl .f32 (pf xs ys k).2 = pYc xs ys k ∧ pXc xs ys k = some (pf xs ys k).1 ∧ pYc xs ys k = some (pf xs ys k).2 := by
  obtain ⟨n2, n6, _⟩ := nn_range ys
  obtain ⟨jd, _⟩ := jf_range ys k
  obtain ⟨_, _, _, _, _, _, _, _, v1, v2, _, _, _, b1, b2⟩ := tab_get (j := jf ys k) (by omega) (by omega)
  obtain ⟨x1, x2⟩ := zX_get xs
  obtain ⟨y1, y2⟩ := zY_get xs
  obtain ⟨f1, f2, f3, _, _⟩ := ff_get xs k
  have bf : Ab (cv (fi (ff xs k))) 6 := by unfold Ab; constructor <;> grind
  obtain ⟨p, hp, ep⟩ := point_num x1 v1 f1 (x2.mono (by decide +kernel)) b1 bf
  obtain ⟨q, hq, eq⟩ := point_num y1 v2 f1 (y2.mono (by decide +kernel)) b2 bf
  have e1 : pXc xs ys k = some (pf xs ys k).1 := by
    obtain ⟨n, _, _, _, e, _⟩ := hp
    show pXc xs ys k = some ((pXc xs ys k).getD 0)
    rw [show pXc xs ys k = some n from e]; rfl
  have e2 : pYc xs ys k = some (pf xs ys k).2 := by
    obtain ⟨n, _, _, _, e, _⟩ := hq
    show pYc xs ys k = some ((pYc xs ys k).getD 0)
    rw [show pYc xs ys k = some n from e]; rfl
  refine ⟨⟨p, hp, ep⟩, ⟨q, hq, eq⟩, ?_, ?_, e1, e2⟩
  · rw [e1]; exact vl_cl (v := p) (by rw [← e1]; exact hp)
  · rw [e2]; exact vl_cl (v := q) (by rw [← e2]; exact hq)

theorem lines (xs ys : List Int) : Lines (nn ys) (jf ys) (pf xs ys) (cv (zXc xs)) (cv (zYc xs)) := by
  obtain ⟨n2, n6, _⟩ := nn_range ys
  refine ⟨n2, n6, fun k _ => (jf_range ys k).1, (zX_get xs).2, (zY_get xs).2, fun k hk => ?_⟩
  obtain ⟨⟨p, hp, ep⟩, ⟨q, hq, eq⟩, c1, c2, _, _⟩ := p_get xs ys hk
  obtain ⟨f1, f2, f3, _, _⟩ := ff_get xs k
  refine ⟨cv (fi (ff xs k)), p, q, by unfold Ab; constructor <;> grind, by rw [c1]; exact hp, by rw [c2]; exact hq, ep, eq⟩

/-! ### The tests -/
def c05 : Option Nat := some 4587366580439587226
def c01 : Option Nat := some 4576918229304087675
theorem c05_vl : ∃ v, Vl .f64 c05 v ∧ 499 / 10000 ≤ v := ⟨_, vlW (by decide), by decide +kernel⟩
theorem c01_vl : ∃ v, Vl .f64 c01 v ∧ 99 / 10000 ≤ v := ⟨_, vlW (by decide), by decide +kernel⟩
theorem no_gt {k : FloatKind} {X Y : Option Nat} {x y : Rat} (hx : Vl k X x) (hy : Vl k Y y) (h : x < y) : (aord k X Y == some .gt) = false := by
  rw [(hx.order hy).1 h]; rfl

theorem near_test {X Y ZX ZY : Option Nat} {x y zx zy : Rat} (hx : Vl .f32 X x) (hy : Vl .f32 Y y) (hzx : Vl .f32 ZX zx) (hzy : Vl .f32 ZY zy) (ex : Ab (x - zx) (46 / 10000)) (ey : Ab (y - zy) (46 / 10000)) :
    Fits (sqrtF (powX (ab .sub .f32 X ZX) (ab .sub .f32 Y ZY))) ∧ (aord .f64 (wid (longX (ab .sub .f32 X ZX) (ab .sub .f32 Y ZY))) c05 == some .gt) = false := by
  have hu : uu ≤ 1 / 16000000 ∧ 0 < uu := by decide +kernel
  obtain ⟨v1, h1, e1⟩ := sub32 hx hzx 0 (by omega) (B := 1) (by decide +kernel) (ex.mono (by decide +kernel))
  obtain ⟨v2, h2, e2⟩ := sub32 hy hzy 0 (by omega) (B := 1) (by decide +kernel) (ey.mono (by decide +kernel))
  have b1 : Ab v1 (5 / 1000) := by unfold Ab at *; constructor <;> grind
  have b2 : Ab v2 (5 / 1000) := by unfold Ab at *; constructor <;> grind
  obtain ⟨f, l, hl, l0, el⟩ := long_num h1 h2 (b1.mono (by decide +kernel)) (b2.mono (by decide +kernel))
  have q1 := (b1.mul b1).2
  have q2 := (b2.mul b2).2
  have hl2 : l ≤ 4 / 100 := by
    refine le_of_sq (by decide +kernel) ?_
    unfold Ab at el
    grind
  obtain ⟨c, hc, hc'⟩ := c05_vl
  exact ⟨f, no_gt hl.wid hc (by grind)⟩

theorem gap_test {L R : Option Nat} {l r : Rat} (hl : Vl .f32 L l) (hr : Vl .f32 R r) (h : Ab (l - r) (4 / 100)) : (aord .f64 (gapX (wid L) (wid R)) c05 == some .gt) = false := by
  have hv : vv ≤ 1 / 1000000000000 ∧ 0 < vv := by decide +kernel
  obtain ⟨c, hc, hc'⟩ := c05_vl
  obtain ⟨d1, h1, e1⟩ := sub64 hl.wid hr.wid 0 (by omega) (B := 1) (by decide +kernel) (h.mono (by decide +kernel))
  obtain ⟨d2, h2, e2⟩ := sub64 hr.wid hl.wid 0 (by omega) (B := 1) (by decide +kernel) (by unfold Ab at *; constructor <;> grind)
  unfold gapX
  split
  · exact no_gt h2 hc (by unfold Ab at *; grind)
  · exact no_gt h1 hc (by unfold Ab at *; grind)

/-- The first test: where the first line and the last one meet. -/
theorem turn_facts (xs ys : List Int) :
    let J0 := jf ys 0; let J1 := jf ys (nn ys - 1); let A1 := pXc xs ys 0; let A2 := pYc xs ys 0; let B1 := pXc xs ys (nn ys - 1); let B2 := pYc xs ys (nn ys - 1)
    (aord .f32 (crossX (some (uR J0)) (some (uI J0)) (some (uR J1)) (some (uI J1))) (some 0) != some .eq) = true ∧
    (∃ p, Vl .f32 (tmX A1 (some (uR J0)) B1 A1 B2 A2 (some (uR J0)) (some (uI J0)) (some (uR J1)) (some (uI J1))) p ∧ Ab (p - cv (zXc xs)) (1 / 10000)) ∧
    (∃ q, Vl .f32 (tmX A2 (some (uI J0)) B1 A1 B2 A2 (some (uR J0)) (some (uI J0)) (some (uR J1)) (some (uI J1))) q ∧ Ab (q - cv (zYc xs)) (1 / 10000)) := by
  intro J0 J1 A1 A2 B1 B2
  obtain ⟨n2, n6, _⟩ := nn_range ys
  have j0 := (jf_range ys 0).1
  have j1 := (jf_range ys (nn ys - 1)).1
  obtain ⟨⟨p, hp, ep⟩, ⟨q, hq, eq⟩, _⟩ := p_get xs ys (k := 0) (by omega)
  obtain ⟨⟨p', hp', ep'⟩, ⟨q', hq', eq'⟩, _⟩ := p_get xs ys (k := nn ys - 1) (by omega)
  obtain ⟨_, _, _, _, _, _, _, _, v1, v2, _, _, _, b1, b2⟩ := tab_get (j := J0) (by omega) (by omega)
  obtain ⟨_, _, _, _, _, _, _, _, v3, v4, _, _, _, b3, b4⟩ := tab_get (j := J1) (by omega) (by omega)
  obtain ⟨f1, f2, f3, _, _⟩ := ff_get xs 0
  obtain ⟨g1, g2, g3, _, _⟩ := ff_get xs (nn ys - 1)
  have hc := cross_get (i := J0) (j := J1) (by omega) (by omega) (by omega) (by omega)
  unfold cross at hc
  obtain ⟨⟨c, hcv, hcn⟩, h1, h2⟩ := turns_num hp hq hp' hq' v1 v2 v3 v4 b1 b2 b3 b4 (by unfold Ab; constructor <;> grind) (by unfold Ab; constructor <;> grind) ((zX_get xs).2.mono (by decide +kernel)) ((zY_get xs).2.mono (by decide +kernel)) ep eq ep' eq' hc
  refine ⟨?_, h1, h2⟩
  obtain ⟨o1, _, o3⟩ := hcv.order zero_vl'
  rcases (show c < 0 ∨ 0 < c by grind) with h | h
  · rw [o1 h]; rfl
  · rw [o3 h]; rfl
end Go.Proofs.Yticoikchcmmpfaa
