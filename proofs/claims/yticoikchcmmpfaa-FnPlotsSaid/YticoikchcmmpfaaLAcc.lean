/-
  The sums over the normals: every choice of directions, reckoned.
-/
import Derived.Test.YticoikchcmmpfaaLNum4
namespace Go.Proofs.Yticoikchcmmpfaa
open Go.RowKit

abbrev Cl3 := Option Nat × Option Nat × Option Nat
def accS (s : Cl3) (j : Nat) : Cl3 :=
  (ab .add .f32 s.1 (ab .mul .f32 (some (nR j)) (some (nR j))), ab .add .f32 s.2.1 (ab .mul .f32 (some (nR j)) (some (nI j))), ab .add .f32 s.2.2 (ab .mul .f32 (some (nI j)) (some (nI j))))
def accL (l : List Nat) : Cl3 := l.foldl accS (some 0, some 0, some 0)
def detX (s : Cl3) : Option Nat := ab .sub .f32 (ab .mul .f32 s.1 s.2.2) (ab .mul .f32 s.2.1 s.2.1)
def choices : Nat → List (List Nat)
  | 0 => [[]]
  | n + 1 => (choices n).flatMap fun l => [l ++ [2 * n + 1], l ++ [2 * n + 2]]
def cv : Option Nat → Rat
  | some b => wv b
  | none => 0
def bnd (X : Option Nat) (n : Nat) : Bool := isNum .f32 X && decide (-(101 / 100 * (n : Rat)) ≤ cv X ∧ cv X ≤ 101 / 100 * (n : Rat))
def okL (n : Nat) (l : List Nat) : Bool :=
  bnd (accL l).1 n && (bnd (accL l).2.1 n && (bnd (accL l).2.2 n && (decide (n < 2) || (isNum .f32 (detX (accL l)) && decide ((if n = 2 then (38 / 1000 : Rat) else 48 / 100) ≤ cv (detX (accL l)))))))
theorem ok_all : ((List.range 7).all fun n => (choices n).all fun l => okL n l) = true := by decide +kernel

def js (J : Nat → Nat) (k : Nat) : List Nat := (List.range k).map J
theorem js_succ (J : Nat → Nat) (k : Nat) : js J (k + 1) = js J k ++ [J k] := by simp [js, List.range_succ]
theorem js_choice (J : Nat → Nat) : ∀ n, (∀ k, k < n → J k = 2 * k + 1 ∨ J k = 2 * k + 2) → js J n ∈ choices n
  | 0, _ => by simp [js, choices]
  | n + 1, h => by
    rw [js_succ]
    unfold choices
    rw [List.mem_flatMap]
    refine ⟨_, js_choice J n (fun k hk => h k (by omega)), ?_⟩
    rcases h n (by omega) with e | e <;> rw [e] <;> simp
theorem accL_succ (J : Nat → Nat) (k : Nat) : accL (js J (k + 1)) = accS (accL (js J k)) (J k) := by
  rw [js_succ]
  unfold accL
  rw [List.foldl_append]
  rfl

theorem cv_vl {X : Option Nat} (h : isNum .f32 X = true) : Vl .f32 X (cv X) := by
  cases X with
  | none => cases h
  | some b => exact vl_word h
theorem bnd_get {X : Option Nat} {n : Nat} (h : bnd X n = true) : Vl .f32 X (cv X) ∧ Ab (cv X) (101 / 100 * (n : Rat)) := by
  unfold bnd at h
  simp only [Bool.and_eq_true, decide_eq_true_eq] at h
  exact ⟨cv_vl h.1, h.2⟩

theorem acc_get (J : Nat → Nat) {n k : Nat} (hJ : ∀ k, k < n → J k = 2 * k + 1 ∨ J k = 2 * k + 2) (hk : k ≤ n) (hn : n ≤ 6) :
    (Vl .f32 (accL (js J k)).1 (cv (accL (js J k)).1) ∧ Ab (cv (accL (js J k)).1) (101 / 100 * (k : Rat))) ∧ (Vl .f32 (accL (js J k)).2.1 (cv (accL (js J k)).2.1) ∧ Ab (cv (accL (js J k)).2.1) (101 / 100 * (k : Rat))) ∧ (Vl .f32 (accL (js J k)).2.2 (cv (accL (js J k)).2.2) ∧ Ab (cv (accL (js J k)).2.2) (101 / 100 * (k : Rat))) ∧
    (2 ≤ k → Vl .f32 (detX (accL (js J k))) (cv (detX (accL (js J k)))) ∧ (if k = 2 then (38 / 1000 : Rat) else 48 / 100) ≤ cv (detX (accL (js J k)))) := by
  have h1 := List.all_eq_true.1 ok_all k (List.mem_range.2 (by omega))
  have h2 := List.all_eq_true.1 h1 (js J k) (js_choice J k (fun i hi => hJ i (by omega)))
  unfold okL at h2
  simp only [Bool.and_eq_true, Bool.or_eq_true, decide_eq_true_eq] at h2
  refine ⟨bnd_get h2.1, bnd_get h2.2.1, bnd_get h2.2.2.1, fun h => ?_⟩
  rcases h2.2.2.2 with h3 | ⟨h3, h4⟩
  · omega
  · exact ⟨cv_vl h3, h4⟩
end Go.Proofs.Yticoikchcmmpfaa
