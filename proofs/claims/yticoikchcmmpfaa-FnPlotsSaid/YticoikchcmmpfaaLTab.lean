/-
  The twelve directions: their words, and what these are worth.
-/
import Derived.Test.YticoikchcmmpfaaLPh2
namespace Go.Proofs.Yticoikchcmmpfaa
open Go.RowKit

/-- The turn j / 32. -/
def turnX (j : Nat) : Option Nat := ab .quo .f32 (some (floatOfInt .f32 j)) (some 1107296256)
def angX (X : Option Nat) : Option Nat := wid (ab .sub .f32 (some 1048576000) X)
def qn (j : Nat) : Nat := if j ≤ 8 then 0 else 3
def tT (j : Nat) : Nat := [0, 1023410176, 1031798784, 1035993088, 1040187392, 1042284544, 1044381696, 1046478848, 1048576000, 1049624576, 1050673152, 1051721728, 1052770304].getD j 0
def uR (j : Nat) : Nat := [0, 1044891074, 1053028117, 1057896922, 1060439283, 1062525745, 1064076126, 1065030846, 1065353216, 1065030846, 1064076126, 1062525745, 1060439283].getD j 0
def uI (j : Nat) : Nat := [1065353216, 1065030846, 1064076126, 1062525745, 1060439283, 1057896922, 1053028117, 1044891074, 0, 3192374722, 3200511765, 3205380570, 3207922931].getD j 0
def nR (j : Nat) : Nat := [3212836864, 3212514494, 3211559774, 3210009393, 3207922931, 3205380570, 3200511765, 3192374722, 0, 1044891074, 1053028117, 1057896922, 1060439283].getD j 0
def nI (j : Nat) : Nat := uR j

/-- What a word is worth. -/
def wv (b : Nat) : Rat := dv (FloatKind.f32.format.read b)
theorem vlW {k : FloatKind} {b : Nat} (h : isNum k (some b) = true) : Vl k (some b) (dv (k.format.read b)) := by
  unfold isNum at h
  cases hd : k.format.read b with
  | number s m p => exact ⟨b, s, m, p, rfl, hd, rfl⟩
  | infinity s => simp [hd] at h
  | nan s t => simp [hd] at h
theorem vl_word {b : Nat} (h : isNum .f32 (some b) = true) : Vl .f32 (some b) (wv b) := vlW h

def tabOk (j : Nat) : Bool :=
  turnX j == some (tT j) && (phOk (angX (some (tT j))) (qn j) && (nar (phX (angX (some (tT j))) (qn j)).1 == some (uR j) && (nar (phX (angX (some (tT j))) (qn j)).2 == some (uI j) &&
  (nar (mulRe (some (uR j)) (some (uI j)) (some 0) (some 1065353216)) == some (nR j) && (nar (mulIm (some (uR j)) (some (uI j)) (some 0) (some 1065353216)) == some (nI j) &&
  (fitsB (mulRe (some (uR j)) (some (uI j)) (some 0) (some 1065353216)) && (fitsB (mulIm (some (uR j)) (some (uI j)) (some 0) (some 1065353216)) &&
  (isNum .f32 (some (uR j)) && (isNum .f32 (some (uI j)) && (isNum .f32 (some (nR j)) && (isNum .f32 (some (tT j)) && (decide (wv (nR j) = -wv (uI j)) &&
  (decide (-1 ≤ wv (uR j) ∧ wv (uR j) ≤ 1 ∧ -1 ≤ wv (uI j) ∧ wv (uI j) ≤ 1))))))))))))))

theorem tab_all : ((List.range 12).all fun i => tabOk (i + 1)) = true := by decide +kernel
theorem tab {j : Nat} (h1 : 1 ≤ j) (h2 : j ≤ 12) : tabOk j = true := by
  have := List.all_eq_true.1 tab_all (j - 1) (List.mem_range.2 (by omega))
  rw [show j - 1 + 1 = j by omega] at this
  exact this
end Go.Proofs.Yticoikchcmmpfaa
