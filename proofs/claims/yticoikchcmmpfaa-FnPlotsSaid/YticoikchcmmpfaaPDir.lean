/-
  The directions of the corners of a plot: their words.
-/
import Derived.Test.YticoikchcmmpfaaLTurn
namespace Go.Proofs.Yticoikchcmmpfaa
open Go.RowKit

def angN (n k : Nat) : Option Nat := ab .quo .f64 (some (floatOfInt .f64 k)) (some (floatOfInt .f64 n))
def pC (n k : Nat) : Nat := (([[1065353216, 3204448256, 3204448256], [1065353216, 0, 3212836864, 0],
  [1065353216, 1050556282, 3209632701, 3209632701, 1050556282],
  [1065353216, 1056964608, 3204448256, 3212836864, 3204448256, 1056964608],
  [1065353216, 1059036423, 3194215559, 3211175397, 3211175397, 3194215559, 1059036423],
  [1065353216, 1060439283, 0, 3207922931, 3212836864, 3207922931, 0, 1060439283],
  [1065353216, 1061428093, 1043452116, 3204448256, 3211825074, 3211825074, 3204448256, 1043452116, 1061428093]] : List (List Nat)).getD (n - 3) []).getD k 0
def pS (n k : Nat) : Nat := (([[0, 1063105495, 3210589143], [0, 1065353216, 0, 3212836864], [0, 1064532081, 1058437400, 3205921048, 3212015729],
  [0, 1063105495, 1063105495, 0, 3210589143, 3210589143],
  [0, 1061692956, 1064932576, 1054746114, 3202229762, 3212416224, 3209176604],
  [0, 1060439283, 1065353216, 1060439283, 0, 3207922931, 3212836864, 3207922931],
  [0, 1059360187, 1065098332, 1063105495, 1051663684, 3199147332, 3210589143, 3212581980, 3206843835]] : List (List Nat)).getD (n - 3) []).getD k 0
def pdirOk (n k : Nat) : Bool :=
  phOk (angN n k) (4 * k / n) && (nar (phX (angN n k) (4 * k / n)).1 == some (pC n k) && (nar (phX (angN n k) (4 * k / n)).2 == some (pS n k) && (isNum .f32 (some (pC n k)) && (isNum .f32 (some (pS n k)) && decide (-1 ≤ wv (pC n k) ∧ wv (pC n k) ≤ 1 ∧ -1 ≤ wv (pS n k) ∧ wv (pS n k) ≤ 1)))))
theorem pdir_all : ((List.range 7).all fun i => (List.range (i + 3)).all fun k => pdirOk (i + 3) k) = true := by decide +kernel
theorem pdir_get {n k : Nat} (h3 : 3 ≤ n) (h9 : n ≤ 9) (hk : k < n) : phOk (angN n k) (4 * k / n) = true ∧ nar (phX (angN n k) (4 * k / n)).1 = some (pC n k) ∧ nar (phX (angN n k) (4 * k / n)).2 = some (pS n k) ∧ Vl .f32 (some (pC n k)) (wv (pC n k)) ∧ Vl .f32 (some (pS n k)) (wv (pS n k)) ∧ Ab (wv (pC n k)) 1 ∧ Ab (wv (pS n k)) 1 := by
  have h1 := List.all_eq_true.1 (List.all_eq_true.1 pdir_all (n - 3) (List.mem_range.2 (by omega))) k (List.mem_range.2 (by omega))
  rw [show n - 3 + 3 = n by omega] at h1
  unfold pdirOk at h1
  simp only [Bool.and_eq_true, beq_iff_eq, decide_eq_true_eq] at h1
  obtain ⟨e1, e2, e3, e4, e5, e6⟩ := h1
  exact ⟨e1, e2, e3, vl_word e4, vl_word e5, ⟨e6.1, e6.2.1⟩, ⟨e6.2.2.1, e6.2.2.2⟩⟩

/-- How far the corner is out: halves from 2 to 4. -/
def rW (r : Nat) : Nat := [1073741824, 1075838976, 1077936128, 1080033280, 1082130432].getD r 0
def rOk (r : Nat) : Bool := (ab .quo .f32 (some (floatOfInt .f32 ((r : Int) + 4))) (some 1073741824) == some (rW r)) && (isNum .f32 (some (rW r)) && decide (wv (rW r) = 2 + (r : Rat) / 2))
theorem r_all : ((List.range 5).all rOk) = true := by decide +kernel
theorem r_get {r : Nat} (h : r < 5) : ab .quo .f32 (some (floatOfInt .f32 ((r : Int) + 4))) (some 1073741824) = some (rW r) ∧ Vl .f32 (some (rW r)) (wv (rW r)) ∧ wv (rW r) = 2 + (r : Rat) / 2 := by
  have h1 := List.all_eq_true.1 r_all r (List.mem_range.2 h)
  unfold rOk at h1
  simp only [Bool.and_eq_true, beq_iff_eq, decide_eq_true_eq] at h1
  exact ⟨h1.1, vl_word h1.2.1, h1.2.2⟩

/-- The words of a corner. -/
def cX (n k r : Nat) : Nat := (ab .mul .f32 (some (pC n k)) (some (rW r))).getD 0
def cY (n k r : Nat) : Nat := (ab .mul .f32 (some (pS n k)) (some (rW r))).getD 0
def cornOk (n k r : Nat) : Bool := (ab .mul .f32 (some (pC n k)) (some (rW r)) == some (cX n k r)) && ((ab .mul .f32 (some (pS n k)) (some (rW r)) == some (cY n k r)) && (isNum .f32 (some (cX n k r)) && (isNum .f32 (some (cY n k r)) && decide (-4 ≤ wv (cX n k r) ∧ wv (cX n k r) ≤ 4 ∧ -4 ≤ wv (cY n k r) ∧ wv (cY n k r) ≤ 4))))
theorem corn_all : ((List.range 7).all fun i => (List.range (i + 3)).all fun k => (List.range 5).all fun r => cornOk (i + 3) k r) = true := by decide +kernel
theorem corn_get {n k r : Nat} (h3 : 3 ≤ n) (h9 : n ≤ 9) (hk : k < n) (hr : r < 5) : ab .mul .f32 (some (pC n k)) (some (rW r)) = some (cX n k r) ∧ ab .mul .f32 (some (pS n k)) (some (rW r)) = some (cY n k r) ∧ Vl .f32 (some (cX n k r)) (wv (cX n k r)) ∧ Vl .f32 (some (cY n k r)) (wv (cY n k r)) ∧ Ab (wv (cX n k r)) 4 ∧ Ab (wv (cY n k r)) 4 := by
  have h1 := List.all_eq_true.1 (List.all_eq_true.1 (List.all_eq_true.1 corn_all (n - 3) (List.mem_range.2 (by omega))) k (List.mem_range.2 (by omega))) r (List.mem_range.2 hr)
  rw [show n - 3 + 3 = n by omega] at h1
  unfold cornOk at h1
  simp only [Bool.and_eq_true, beq_iff_eq, decide_eq_true_eq] at h1
  obtain ⟨e1, e2, e3, e4, e5⟩ := h1
  exact ⟨e1, e2, vl_word e3, vl_word e4, ⟨e5.1, e5.2.1⟩, ⟨e5.2.2.1, e5.2.2.2⟩⟩
def corn (n k r : Nat) : Rat × Rat := (wv (cX n k r), wv (cY n k r))
end Go.Proofs.Yticoikchcmmpfaa
