import Derived.Test.YtcmdmecmgoabaaaProg
import Derived.Test.YtcmdmecmgoabaaaFlo
namespace Go.Proofs.Ytcmdmecmgoabaaa
open Go.RowKit
attribute [local go_sem] order_cl cl_zero

def RetD (v : Value) (w : World) (e : Ending) (w' : World) : Prop := e = .returned v ∧ ∃ d, w' = dr w d

theorem fin64 (x : Nat) (w : World) : Calls Try.prog 92 #[.float .f64 x] w (RetD (.bool (finB .f64 (cl .f64 x))) w) := by
  go_enter Try.func92, Try.ntmps92
  go_wp2_with (refine wpList_fl rfl rfl rfl rfl rfl ?_; intro r d hr)
  go_ret
  exact ⟨rfl, _, rfl⟩

theorem fin64_wid {x r : Nat} (h : cl .f64 r = wid (cl .f32 x)) (w : World) : Calls Try.prog 92 #[.float .f64 r] w (RetD (.bool (isNum .f32 (cl .f32 x))) w) :=
  (fin64 r w).mono fun e w' he => by rw [h, finB_wid h] at he; exact he

theorem isFin (x : Nat) (w : World) : Calls Try.prog 64 #[.float .f32 x] w (RetD (.bool (isNum .f32 (cl .f32 x))) w) := by
  go_enter Try.func64, Try.ntmps64
  go_wp2_with (first | (go_at_call 92; refine (fin64_wid (by assumption) _).mono ?_; rintro e w' ⟨rfl, d, rfl⟩) | (refine wpList_wid rfl rfl Try.underlying22 Try.underlying26 rfl ?_; intro r d hr))
  go_ret
  exact ⟨rfl, _, rfl⟩

theorem l01Finite (x : Nat) (w : World) : Calls Try.prog 63 #[.float .f32 x] w (RetD (.bool (isNum .f32 (cl .f32 x))) w) := by
  go_enter Try.func63, Try.ntmps63
  go_wp2_with (refine wpList_fl rfl rfl rfl rfl rfl ?_; intro r d hr)
  go_ret
  exact ⟨by rw [← finB_eq]; rfl, _, rfl⟩

/-- The class of a constant of 32 bits. -/
def one : Option Nat := some 1065353216
def two : Option Nat := some 1073741824
theorem cl_one : cl .f32 1065353216 = one := by decide
theorem cl_two : cl .f32 1073741824 = two := by decide

def geB (X Y : Option Nat) : Bool := aord .f32 X Y == some .gt || aord .f32 X Y == some .eq
def leB (X Y : Option Nat) : Bool := aord .f32 X Y == some .lt || aord .f32 X Y == some .eq
def leastB (X : Option Nat) : Bool := isNum .f32 X && geB X (some 0)
def insideB (X L H : Option Nat) : Bool := geB X L && leB X H

attribute [local go_sem] cl_one cl_two

theorem l02Least (x : Nat) (w : World) : Calls Try.prog 46 #[.float .f32 x] w (RetD (.bool (leastB (cl .f32 x))) w) := by
  unfold leastB geB
  go_enter Try.func46, Try.ntmps46
  go_wp2_with (go_at_call 63; refine (l01Finite _ _).mono ?_; rintro e w' ⟨rfl, d, rfl⟩)
  all_goals
    go_ret
    exact ⟨by simp [*], _, rfl⟩
theorem isLimit (x : Nat) (w : World) : Calls Try.prog 51 #[.float .f32 x] w (RetD (.bool (leastB (cl .f32 x))) w) := by
  unfold leastB geB
  go_enter Try.func51, Try.ntmps51
  go_wp2_with (go_at_call 64; refine (isFin _ _).mono ?_; rintro e w' ⟨rfl, d, rfl⟩)
  all_goals
    go_ret
    exact ⟨by simp [*], _, rfl⟩
theorem l02Share (x : Nat) (w : World) : Calls Try.prog 47 #[.float .f32 x] w (RetD (.bool (insideB (cl .f32 x) (some 0) one)) w) := by
  unfold insideB geB leB
  go_enter Try.func47, Try.ntmps47
  go_wp2
  all_goals
    go_ret
    exact ⟨by simp [*], _, rfl⟩
theorem inside (x l h : Nat) (w : World) : Calls Try.prog 52 #[.float .f32 x, .float .f32 l, .float .f32 h] w (RetD (.bool (insideB (cl .f32 x) (cl .f32 l) (cl .f32 h))) w) := by
  unfold insideB geB leB
  go_enter Try.func52, Try.ntmps52
  go_wp2
  all_goals
    go_ret
    exact ⟨by simp [*], _, rfl⟩

def RetF (X : Option Nat) (w : World) (e : Ending) (w' : World) : Prop := ∃ r d, e = .returned (.float .f32 r) ∧ cl .f32 r = X ∧ w' = dr w d
def RetFB (X : Option Nat) (b : Bool) (w : World) (e : Ending) (w' : World) : Prop := ∃ r d c, e = .returned (.tuple #[.float .f32 r, .bool c]) ∧ c = b ∧ cl .f32 r = X ∧ w' = dr w d

/-- A number, if it is finite and b holds. -/
def numIf (X : Option Nat) (b : Bool) : Option Nat := if b && isNum .f32 X then X else some 0

theorem l02Number (x : Nat) (w : World) : Calls Try.prog 48 #[.float .f32 x] w (RetFB (numIf (cl .f32 x) true) (isNum .f32 (cl .f32 x)) w) := by
  cases hx : isNum .f32 (cl .f32 x)
  all_goals
    go_enter Try.func48, Try.ntmps48
    go_wp2_with (go_at_call 63; refine (l01Finite _ _).mono ?_; rintro e w' ⟨rfl, d, rfl⟩)
    go_ret2
    exact ⟨_, _, _, rfl, by simp, by simp [numIf, hx, cl_zero], rfl⟩
theorem finite (x : Nat) (b : Bool) (w : World) : Calls Try.prog 50 #[.float .f32 x, .bool b] w (RetFB (numIf (cl .f32 x) b) (b && isNum .f32 (cl .f32 x)) w) := by
  cases b <;> cases hx : isNum .f32 (cl .f32 x)
  all_goals
    go_enter Try.func50, Try.ntmps50
    go_wp2_with (go_at_call 64; refine (isFin _ _).mono ?_; rintro e w' ⟨rfl, d, rfl⟩)
    go_ret2
    exact ⟨_, _, _, rfl, by simp, by simp [numIf, hx, cl_zero], rfl⟩

def dropF (X Y : Option Nat) : Option Nat := ab .quo .f32 (ab .mul .f32 (ab .mul .f32 X X) (ab .sub .f32 one Y)) two

theorem l06Drop (x y : Nat) (w : World) : Calls Try.prog 49 #[.float .f32 x, .float .f32 y] w (RetF (dropF (cl .f32 x) (cl .f32 y)) w) := by
  go_enter Try.func49, Try.ntmps49
  go_wp2_with (refine wpList_fl rfl rfl rfl rfl rfl ?_; intro r d hr)
  go_ret
  exact ⟨_, _, rfl, by simp [dropF, *, cl_one, cl_two], rfl⟩

def dropOk (X Y : Option Nat) : Bool := leastB X && insideB Y (some 0) one

theorem specDropOf (x y : Nat) (w : World) : Calls Try.prog 14 #[.float .f32 x, .float .f32 y] w (RetFB (numIf (dropF (cl .f32 x) (cl .f32 y)) (dropOk (cl .f32 x) (cl .f32 y))) (dropOk (cl .f32 x) (cl .f32 y) && isNum .f32 (dropF (cl .f32 x) (cl .f32 y))) w) := by
  unfold dropOk
  cases h1 : leastB (cl .f32 x) <;> cases h2 : insideB (cl .f32 y) (some 0) one
  all_goals
    go_enter Try.func14, Try.ntmps14
    go_wp2_with (first | (go_at_call 46; refine (l02Least _ _).mono ?_; rintro e w' ⟨rfl, d, rfl⟩) | (go_at_call 47; refine (l02Share _ _).mono ?_; rintro e w' ⟨rfl, d, rfl⟩) | (go_at_call 49; refine (l06Drop _ _ _).mono ?_; rintro e w' ⟨r, d, rfl, hr, rfl⟩) | (go_at_call 48; refine (l02Number _ _).mono ?_; rintro e w' ⟨r, d, c, rfl, rfl, hr, rfl⟩))
    go_ret2
    exact ⟨_, _, _, rfl, by simp [*], by simp [numIf, *, cl_zero], rfl⟩
theorem implDropOf (x y : Nat) (w : World) : Calls Try.prog 15 #[.float .f32 x, .float .f32 y] w (RetFB (numIf (dropF (cl .f32 x) (cl .f32 y)) (dropOk (cl .f32 x) (cl .f32 y))) (dropOk (cl .f32 x) (cl .f32 y) && isNum .f32 (dropF (cl .f32 x) (cl .f32 y))) w) := by
  unfold dropOk
  cases h1 : leastB (cl .f32 x) <;> cases h2 : insideB (cl .f32 y) (some 0) one
  all_goals
    go_enter Try.func15, Try.ntmps15
    go_wp2_with (first | (refine wpList_fl rfl rfl rfl rfl rfl ?_; intro r d hr) | (go_at_call 51; refine (isLimit _ _).mono ?_; rintro e w' ⟨rfl, d, rfl⟩) | (go_at_call 52; refine (inside _ _ _ _).mono ?_; rintro e w' ⟨rfl, d, rfl⟩) | (go_at_call 50; refine (finite _ _ _).mono ?_; rintro e w' ⟨r, d, c, rfl, rfl, hr, rfl⟩))
    go_ret2
    exact ⟨_, _, _, rfl, by simp [*, dropF], by simp [numIf, *, dropF, cl_one, cl_two], rfl⟩

@[local go_sem] theorem aord_none (k : FloatKind) (Y : Option Nat) : aord k none Y = none := rfl
theorem compare_self (n : Int) : compare n n = .eq := by simp [compare, compareOfLessAndEq]
theorem compare_selfN (n : Nat) : compare n n = .eq := by simp [compare, compareOfLessAndEq]
theorem aord_self {k : FloatKind} {x : Nat} (h : cl k x = some x) : aord k (some x) (some x) = some .eq := by
  show k.format.order x x = _
  unfold Ieee.Format.order
  cases hx : k.format.read x with
  | nan s t =>
    unfold cl at h
    rw [hx] at h
    cases h
  | infinity s => exact congrArg some (compare_selfN _)
  | number s m p => exact congrArg some (compare_self _)

theorem sameFloat (x y : Nat) (h : cl .f64 x = cl .f64 y) (w : World) : Calls Try.prog 16 #[.float .f64 x, .float .f64 y] w (RetD (.bool true) w) := by
  cases hx : cl .f64 x with
  | none =>
    have hy : cl .f64 y = none := by rw [← h, hx]
    clear h
    go_enter Try.func16, Try.ntmps16
    go_wp2
    go_ret
    exact ⟨rfl, _, rfl⟩
  | some x' =>
    obtain rfl := cl_some hx
    rw [hx] at h
    obtain rfl := cl_some h.symm
    clear h
    have hs := aord_self hx
    by_cases hz : aord .f64 (some x') (some 0) = some .eq
    all_goals
      go_enter Try.func16, Try.ntmps16
      go_wp2_with (refine wpList_fl rfl rfl rfl rfl rfl ?_; intro r d hr)
      go_ret
      exact ⟨by simp, _, rfl⟩

theorem lawDropOf (x y : Nat) (w : World) : Calls Try.prog 3 #[.float .f32 x, .float .f32 y] w (RetD (.bool true) w) := by
  cases h1 : dropOk (cl .f32 x) (cl .f32 y) && isNum .f32 (dropF (cl .f32 x) (cl .f32 y))
  all_goals
    go_enter Try.func3, Try.ntmps3
    go_wp2_with (first | (go_at_call 14; refine (specDropOf _ _ _).mono ?_; rintro e w' ⟨r, d, c, rfl, rfl, hr, rfl⟩) | (go_at_call 15; refine (implDropOf _ _ _).mono ?_; rintro e w' ⟨r, d, c, rfl, rfl, hr, rfl⟩) | (refine wpList_wid rfl rfl Try.underlying22 Try.underlying26 rfl ?_; intro r d hr) | (go_at_call 16; refine (sameFloat _ _ (by simp [*]) _).mono ?_; rintro e w' ⟨rfl, d, rfl⟩))
    go_ret
    exact ⟨rfl, _, rfl⟩
end Go.Proofs.Ytcmdmecmgoabaaa
