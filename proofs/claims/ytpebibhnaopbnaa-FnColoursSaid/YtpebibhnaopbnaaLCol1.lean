/-
  laws.r8Long and laws.r8At.
-/
import Derived.Test.YtpebibhnaopbnaaBytes
import Derived.Deep.RegionWith
namespace Go.Proofs.Ytpebibhnaopbnaa
open Go.RowKit

theorem r8Long (a a' : Option Addr) (la ca lb cb : Nat) (w : World) : Calls Try.prog 14 #[.slice a la ca, .slice a' lb cb] w (RetD (.bool (decide (48 < la) || decide (48 < lb))) w) := by
  by_cases h1 : 48 < la <;> by_cases h2 : 48 < lb
  all_goals
    go_enter Try.func14, Try.ntmps14
    go_wp2
    go_ret
    exact ⟨by simp [*] <;> omega, by first | exact Drew.refl _ | assumption⟩

theorem r8At (a : Option Addr) (len cap : Nat) (xs : List Int) (k : Nat) (n : Int) (hn : 1 ≤ n ∧ n ≤ 100) (hk : k ≤ 1000) (w : World) (h : ByS w a len xs) :
    Calls Try.prog 15 #[.slice a len cap, .int .i64 (k : Int), .int .i64 n] w (RetD (.int .i64 (r8 xs k n)) w) := by
  have hsz := h.1
  by_cases h1 : n ≤ 1
  · have e0 : r8 xs k n = 0 := by unfold r8; rw [if_pos (.inl h1)]
    rw [e0]
    go_enter Try.func15, Try.ntmps15
    go_wp2
    go_ret
    exact ⟨rfl, by first | exact Drew.refl _ | assumption⟩
  · by_cases h2 : len ≤ k
    · have e0 : r8 xs k n = 0 := by unfold r8; rw [if_pos (.inr (by omega))]
      rw [e0]
      go_enter Try.func15, Try.ntmps15
      go_wp2
      go_ret
      exact ⟨rfl, by first | exact Drew.refl _ | assumption⟩
    · obtain ⟨b, off, x, rfl, hb, hc, hx, h3, h4⟩ := h.get (k := k) (by omega)
      have e0 : r8 xs k n = x % n := by unfold r8; rw [if_neg (by omega), hx.out]
      have ew : IntKind.i64.wrap x = x := IntWalk.i64_in _ (by omega)
      have hr1 := Int.emod_nonneg x (show n ≠ 0 by omega)
      have hr2 := Int.emod_lt_of_pos x (show 0 < n by omega)
      have et : IntKind.i64.wrap (x % n) = x % n := IntWalk.i64_in _ (by omega)
      rw [e0]
      go_enter Try.func15, Try.ntmps15
      go_wp2
      go_ret
      exact ⟨rfl, by first | exact Drew.refl _ | assumption⟩
end Go.Proofs.Ytpebibhnaopbnaa
