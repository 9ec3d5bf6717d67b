/-
  laws.b10Long, laws.b10At, laws.b10Gap.
-/
import Derived.Test.YticoikchcmmpfaaBytes
import Derived.Test.YticoikchcmmpfaaLFin2
import Derived.Deep.RegionWith
namespace Go.Proofs.Yticoikchcmmpfaa
open Go.RowKit
attribute [local go_sem] order_cl cl_zero cl_one cl_two aord_none

theorem b10Long (a a' : Option Addr) (la ca lb cb : Nat) (w : World) : Calls Try.prog 5 #[.slice a la ca, .slice a' lb cb] w (RetD (.bool (decide (1048576 < la) || decide (1048576 < lb))) w) := by
  by_cases h1 : 1048576 < la <;> by_cases h2 : 1048576 < lb
  all_goals
    go_enter Try.func5, Try.ntmps5
    go_wp2
    go_ret
    exact ⟨by simp [*] <;> omega, by first | exact Drew.refl _ | assumption⟩

theorem b10At (a : Option Addr) (len cap : Nat) (xs : List Int) (k : Nat) (i n : Int) (hi : i = (k : Int)) (hn : 1 ≤ n ∧ n ≤ 100) (hk : k ≤ 1000) (w : World) (h : ByS w a len xs) :
    Calls Try.prog 6 #[.slice a len cap, .int .i64 i, .int .i64 n] w (RetD (.int .i64 (b10 xs k n)) w) := by
  subst hi
  have hsz := h.1
  by_cases h1 : n ≤ 1
  · have e0 : b10 xs k n = 0 := by unfold b10; rw [if_pos h1]
    rw [e0]
    go_enter Try.func6, Try.ntmps6
    go_wp2
    go_ret
    exact ⟨rfl, by first | exact Drew.refl _ | assumption⟩
  · by_cases h2 : len ≤ k
    · have e0 : b10 xs k n = ((k : Int) * 37 + 11) % n := by unfold b10; rw [if_neg h1, if_neg (by omega)]
      have hr1 := Int.emod_nonneg ((k : Int) * 37 + 11) (show n ≠ 0 by omega)
      have hr2 := Int.emod_lt_of_pos ((k : Int) * 37 + 11) (show 0 < n by omega)
      have et : IntKind.i64.wrap (((k : Int) * 37 + 11) % n) = ((k : Int) * 37 + 11) % n := IntWalk.i64_in _ (by omega)
      have ew : IntKind.i64.wrap ((k : Int) * 37 + 11) = (k : Int) * 37 + 11 := IntWalk.i64_in _ (by omega)
      have ex : ((k : Int) * 37 + 11).tmod n = ((k : Int) * 37 + 11) % n := Int.tmod_eq_emod_of_nonneg (by omega)
      rw [e0]
      go_enter Try.func6, Try.ntmps6
      go_wp2
      go_ret
      exact ⟨by first | rfl | simp [ex, et], by first | exact Drew.refl _ | assumption⟩
    · obtain ⟨b, off, x, rfl, hb, hc, hx, h3, h4⟩ := h.get (k := k) (by omega)
      have e0 : b10 xs k n = x % n := by unfold b10; rw [if_neg h1, if_pos (by omega), hx.out]
      have ew : IntKind.i64.wrap x = x := IntWalk.i64_in _ (by omega)
      have hr1 := Int.emod_nonneg x (show n ≠ 0 by omega)
      have hr2 := Int.emod_lt_of_pos x (show 0 < n by omega)
      have et : IntKind.i64.wrap (x % n) = x % n := IntWalk.i64_in _ (by omega)
      rw [e0]
      go_enter Try.func6, Try.ntmps6
      go_wp2
      go_ret
      exact ⟨rfl, by first | exact Drew.refl _ | assumption⟩

def gapX (A B : Option Nat) : Option Nat := if aord .f64 A B == some .lt then ab .sub .f64 B A else ab .sub .f64 A B
theorem b10Gap {a b : Nat} {A B : Option Nat} (ha : cl .f64 a = A) (hb : cl .f64 b = B) (w : World) : Calls Try.prog 14 #[.float .f64 a, .float .f64 b] w (RetG (gapX A B) w) := by
  unfold gapX
  cases hlt : (aord .f64 A B == some .lt)
  all_goals
    go_enter Try.func14, Try.ntmps14
    go_wp2_with (refine wpList_flc rfl rfl rfl rfl rfl (by assumption) (by assumption) ?_; intro r d hr)
    go_ret
    exact ⟨_, rfl, hr, Drew.n _ _⟩
end Go.Proofs.Yticoikchcmmpfaa
