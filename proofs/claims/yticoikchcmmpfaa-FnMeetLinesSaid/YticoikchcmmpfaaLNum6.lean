/-
  The numbers of the law FnMeetLines: small whole numbers, ways, distances.
-/
import Derived.Test.YticoikchcmmpfaaLLong
import Derived.Test.YticoikchcmmpfaaLAcc
namespace Go.Proofs.Yticoikchcmmpfaa
open Go.RowKit

def fi (n : Int) : Option Nat := some (floatOfInt .f32 n)
def inB (X : Option Nat) (l h : Rat) : Bool := isNum .f32 X && decide (l ≤ cv X ∧ cv X ≤ h)
theorem inB_get {X : Option Nat} {l h : Rat} (e : inB X l h = true) : Vl .f32 X (cv X) ∧ l ≤ cv X ∧ cv X ≤ h := by
  unfold inB at e
  simp only [Bool.and_eq_true, decide_eq_true_eq] at e
  exact ⟨cv_vl e.1, e.2⟩
/-- Quarters, whole numbers, halves. -/
def qtr (n : Int) : Option Nat := ab .quo .f32 (fi n) (some 1082130432)
def hlf (n : Int) : Option Nat := ab .quo .f32 (fi n) (some 1073741824)
theorem qtr_all : ((List.range 33).all fun i => inB (qtr ((i : Int) - 16)) (-4) 4) = true := by decide +kernel
theorem fi_all : ((List.range 6).all fun i => inB (fi ((i : Int) + 1)) 1 ((i : Rat) + 1)) = true := by decide +kernel
theorem hlf_all : ((List.range 9).all fun i => inB (hlf ((i : Int) - 4)) (-2) 2) = true := by decide +kernel
theorem qtr_get {n : Int} (h1 : -16 ≤ n) (h2 : n ≤ 16) : Vl .f32 (qtr n) (cv (qtr n)) ∧ Ab (cv (qtr n)) 4 := by
  have := List.all_eq_true.1 qtr_all (n + 16).toNat (List.mem_range.2 (by omega))
  rw [show (((n + 16).toNat : Int) - 16) = n by omega] at this
  exact inB_get this
theorem hlf_get {n : Int} (h1 : -4 ≤ n) (h2 : n ≤ 4) : Vl .f32 (hlf n) (cv (hlf n)) ∧ Ab (cv (hlf n)) 2 := by
  have := List.all_eq_true.1 hlf_all (n + 4).toNat (List.mem_range.2 (by omega))
  rw [show (((n + 4).toNat : Int) - 4) = n by omega] at this
  exact inB_get this
theorem fi_get {n m : Int} (h1 : 1 ≤ n) (h2 : n ≤ m) (hm : m ≤ 6) : Vl .f32 (fi n) (cv (fi n)) ∧ 1 ≤ cv (fi n) ∧ cv (fi n) ≤ (m : Rat) := by
  have := List.all_eq_true.1 fi_all (n - 1).toNat (List.mem_range.2 (by omega))
  rw [show (((n - 1).toNat : Int) + 1) = n by omega] at this
  obtain ⟨a, b, c⟩ := inB_get this
  refine ⟨a, b, Rat.le_trans c ?_⟩
  have e : ((n - 1).toNat : Int) + 1 ≤ m := by omega
  have e2 : (((n - 1).toNat : Int) : Rat) + 1 ≤ (m : Rat) := by exact_mod_cast e
  rw [Rat.intCast_natCast] at e2
  exact e2

theorem zero_vl' : Vl .f32 (some 0) 0 := ⟨0, false, 0, -149, rfl, by decide, by rw [dv_eq]; simp [Rat.zero_mul, Rat.mul_zero]⟩
def cross (i j : Nat) : Rat := wv (uR i) * wv (uI j) - wv (uI i) * wv (uR j)
theorem cross_all : ((List.range 2).all fun i => (List.range 10).all fun j => decide (192 / 1000 ≤ cross (i + 1) (j + 3) ∨ cross (i + 1) (j + 3) ≤ -(192 / 1000))) = true := by decide +kernel
theorem cross_get {i j : Nat} (h1 : 1 ≤ i) (h2 : i ≤ 2) (h3 : 3 ≤ j) (h4 : j ≤ 12) : 192 / 1000 ≤ cross i j ∨ cross i j ≤ -(192 / 1000) := by
  have h := List.all_eq_true.1 (List.all_eq_true.1 cross_all (i - 1) (List.mem_range.2 (by omega))) (j - 3) (List.mem_range.2 (by omega))
  rw [show i - 1 + 1 = i by omega, show j - 3 + 3 = j by omega] at h
  exact of_decide_eq_true h
theorem first_all : ((List.range 2).all fun i => decide ((19 / 100 ≤ wv (uR (i + 1)) ∧ wv (uR (i + 1)) ≤ 39 / 100) ∧ (92 / 100 ≤ wv (uI (i + 1)) ∧ wv (uI (i + 1)) ≤ 985 / 1000) ∧ (-(1 / 100000) ≤ wv (uR (i + 1)) * wv (uR (i + 1)) + wv (uI (i + 1)) * wv (uI (i + 1)) - 1 ∧ wv (uR (i + 1)) * wv (uR (i + 1)) + wv (uI (i + 1)) * wv (uI (i + 1)) - 1 ≤ 1 / 100000))) = true := by decide +kernel
theorem first_get {i : Nat} (h1 : 1 ≤ i) (h2 : i ≤ 2) : (19 / 100 ≤ wv (uR i) ∧ wv (uR i) ≤ 39 / 100) ∧ (92 / 100 ≤ wv (uI i) ∧ wv (uI i) ≤ 985 / 1000) ∧ Ab (wv (uR i) * wv (uR i) + wv (uI i) * wv (uI i) - 1) (1 / 100000) := by
  have h := List.all_eq_true.1 first_all (i - 1) (List.mem_range.2 (by omega))
  rw [show i - 1 + 1 = i by omega] at h
  have h' := of_decide_eq_true h
  exact ⟨h'.1, h'.2.1, h'.2.2⟩

/-- A distance between two points. -/
theorem apart_num {Z1 Z2 P1 P2 : Option Nat} {z1 z2 p1 p2 t1 t2 : Rat} (h1 : Vl .f32 Z1 z1) (h2 : Vl .f32 Z2 z2) (h3 : Vl .f32 P1 p1) (h4 : Vl .f32 P2 p2) (e1 : Ab (z1 - p1 - t1) (40 * uu)) (e2 : Ab (z2 - p2 - t2) (40 * uu)) (b1 : Ab t1 7) (b2 : Ab t2 7) :
    Fits (sqrtF (powX (ab .sub .f32 Z1 P1) (ab .sub .f32 Z2 P2))) ∧ ∃ l, Vl .f32 (longX (ab .sub .f32 Z1 P1) (ab .sub .f32 Z2 P2)) l ∧ 0 ≤ l ∧ Ab (l * l - (t1 * t1 + t2 * t2)) (2 / 1000) := by
  have hu : uu ≤ 1 / 16000000 ∧ 0 < uu := by decide +kernel
  obtain ⟨v1, hv1, f1⟩ := sub32 h1 h3 3 (by omega) (B := 8) (by decide +kernel) (by unfold Ab at *; constructor <;> grind)
  obtain ⟨v2, hv2, f2⟩ := sub32 h2 h4 3 (by omega) (B := 8) (by decide +kernel) (by unfold Ab at *; constructor <;> grind)
  have g1 : Ab (v1 - t1) (48 * uu) := by unfold Ab at e1 f1 ⊢; constructor <;> grind
  have g2 : Ab (v2 - t2) (48 * uu) := by unfold Ab at e2 f2 ⊢; constructor <;> grind
  have s1 := sq_err g1 b1
  have s2 := sq_err g2 b2
  obtain ⟨f, l, hl, l0, el⟩ := long_num hv1 hv2 (by unfold Ab at g1 b1 ⊢; constructor <;> grind) (by unfold Ab at g2 b2 ⊢; constructor <;> grind)
  refine ⟨f, l, hl, l0, ?_⟩
  have hs : 48 * uu * (2 * 7 + 48 * uu) ≤ 1 / 10000 := by decide +kernel
  clear e1 e2 f1 f2 g1 g2 b1 b2
  unfold Ab at *
  constructor <;> grind

/-- A length of a square. -/
theorem len_in {l lo hi q : Rat} (h0 : 0 ≤ l) (hq : Ab (l * l - q) (2 / 1000)) (hlo : lo * lo + 2 / 1000 ≤ q) (hhi : q + 2 / 1000 ≤ hi * hi) (hh : 0 ≤ hi) : lo ≤ l ∧ l ≤ hi := by
  unfold Ab at hq
  exact ⟨le_of_sq h0 (by grind), le_of_sq hh (by grind)⟩

theorem high_num {Y : Option Nat} {y : Rat} (hy : Vl .f32 Y y) (h0 : 0 ≤ y) (h1 : y ≤ 40) (left : Bool) : ∃ h, Vl .f32 (highX left Y) h ∧ Ab (h * h - y) (200 * uu) ∧ Ab h (65 / 10) := by
  obtain ⟨h, hh, n0, e, b⟩ := root_num hy h0 h1
  cases left
  · refine ⟨-h, hh.neg, e.eq (by grind), ?_⟩
    unfold Ab
    constructor <;> grind
  · exact ⟨h, hh, e, by unfold Ab; constructor <;> grind⟩

/-- All of the point at two distances. -/
theorem longs_all {A1 A2 B1 B2 R S : Option Nat} {a1 a2 b1 b2 r s : Rat} (hA1 : Vl .f32 A1 a1) (hA2 : Vl .f32 A2 a2) (hB1 : Vl .f32 B1 b1) (hB2 : Vl .f32 B2 b2) (hR : Vl .f32 R r) (hS : Vl .f32 S s)
    (ba1 : Ab a1 12) (ba2 : Ab a2 12) (g1 : 11 / 10 ≤ b1 - a1) (g2 : b1 - a1 ≤ 8) (g3 : Ab (b2 - a2) 8) (r1 : 9 / 10 ≤ r) (r2 : r ≤ 61 / 10) (s1 : 9 / 10 ≤ s) (s2 : s ≤ 55 / 10) (left : Bool) :
    ∃ yes, LongsOk A1 A2 B1 B2 R S left yes ∧ (yes = true → ∀ P1 P2, P1 = lp1 A1 A2 B1 B2 R S left → P2 = lp2 A1 A2 B1 B2 R S left →
      (∃ l, Vl .f32 (longX (ab .sub .f32 P1 A1) (ab .sub .f32 P2 A2)) l ∧ Fits (sqrtF (powX (ab .sub .f32 P1 A1) (ab .sub .f32 P2 A2))) ∧ Ab (l - r) (4 / 100)) ∧
      (∃ l, Vl .f32 (longX (ab .sub .f32 P1 B1) (ab .sub .f32 P2 B2)) l ∧ Fits (sqrtF (powX (ab .sub .f32 P1 B1) (ab .sub .f32 P2 B2))) ∧ Ab (l - s) (4 / 100))) := by
  have hu : uu ≤ 1 / 16000000 ∧ 0 < uu := by decide +kernel
  obtain ⟨w1, w2, d, x, y, hw1, hw2, hf, hd, hx, hy, e1, e2, dl, du, ed, hxr, hbx, _⟩ := longs1 hA1 hA2 hB1 hB2 hR hS g1 g2 g3 r1 r2 s1 s2
  have hz := zero_vl'
  have rp := (hR.order hz).2.2 (by grind)
  have sp := (hS.order hz).2.2 (by grind)
  have dp := (hd.order hz).2.2 (by grind)
  by_cases y0 : 0 ≤ y
  · have bx := hbx y0
    have br : Ab r (61 / 10) := ⟨by grind, r2⟩
    have x1 := (bx.mul bx).2
    have x0 := sq_nn x
    have rr1 := (br.mul br).2
    have rr0 := sq_nn r
    obtain ⟨m2, hm2, em2⟩ := mul32 hR hR 6 (by omega) (B := 64) (by decide +kernel) ⟨by grind, by grind⟩
    obtain ⟨m5, hm5, em5⟩ := mul32 hx hx 6 (by omega) (B := 64) (by decide +kernel) ⟨by grind, by grind⟩
    obtain ⟨y', hy', ey⟩ := sub32 hm2 hm5 6 (by omega) (B := 64) (by decide +kernel) (by unfold Ab at em2 em5 ⊢; constructor <;> grind)
    have hyy : y = y' := hy.uniq hy'
    subst hyy
    have ey' : Ab (y - (r * r - x * x)) (192 * uu) := by unfold Ab at em2 em5 ey ⊢; constructor <;> grind
    have y40 : y ≤ 40 := by unfold Ab at ey'; grind
    obtain ⟨h, hh, eh, bh⟩ := high_num hy y0 y40 left
    have hxh : Ab (x * x + h * h - r * r) (400 * uu) := by unfold Ab at eh ey' ⊢; constructor <;> grind
    obtain ⟨f1, f2, ⟨p1, p2, hp1, hp2⟩, hd2⟩ := longs2 hA1 hA2 hB1 hB2 hw1 hw2 hd hx hh ba1 ba2 e1 e2 dl du ed hxr bx bh hxh r1 r2 s1 s2
    refine ⟨true, ⟨hR.isNum, hS.isNum, rp, sp, hf, dp, ?_, fun _ => f1, fun _ => f2, fun _ => hp1.isNum, fun _ => hp2.isNum⟩, fun _ => hd2⟩
    obtain ⟨o1, o2, o3⟩ := hy.order hz
    unfold geB
    rcases (show 0 < y ∨ y = 0 by grind) with hp | hp
    · rw [o3 hp]; rfl
    · rw [o2 hp]; rfl
  · refine ⟨false, ⟨hR.isNum, hS.isNum, rp, sp, hf, dp, ?_, (fun h => by cases h), (fun h => by cases h), (fun h => by cases h), (fun h => by cases h)⟩, (fun h => by cases h)⟩
    obtain ⟨o1, o2, o3⟩ := hy.order hz
    unfold geB
    rw [o1 (by grind)]
    rfl
end Go.Proofs.Yticoikchcmmpfaa
