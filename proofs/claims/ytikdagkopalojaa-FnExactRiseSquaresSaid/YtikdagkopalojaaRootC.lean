/-
  The contracts of the functions that take a square root.
-/
import Derived.Test.YtikdagkopalojaaFin
import Derived.Test.YtikdagkopalojaaRoot
namespace Go.Proofs.Ytikdagkopalojaa
open Go.RowKit
attribute [local go_sem] order_cl cl_zero cl_one cl_two aord_none

theorem sqrt_call (args : Array Value) (W : World) : (callFunc 80 args).run Try.prog W = ((Extern.MathSqrt.sqrt args).run Try.prog W).andThen fun v w' => .ok (.value v) w' :=
  run_callFunc_extern Try.func80 (by kernel_rfl) (by kernel_rfl) (by kernel_rfl) (e := Extern.MathSqrt.sqrt) (by kernel_rfl) args W

def RetG (X : Option Nat) (w : World) (e : Ending) (w' : World) : Prop := ∃ r, e = .returned (.float .f64 r) ∧ cl .f64 r = X ∧ Drew w w'

theorem mathSqrt (x : Nat) (w : World) : Calls Try.prog 77 #[.float .f64 x] w (RetG (sqrtF (cl .f64 x)) w) := by
  obtain ⟨r, d, hrun, hr⟩ := run_sqrt (P := Try.prog) w x
  have hs : Sem.run Try.prog (callFunc 80 #[.float .f64 x]) w = .ok (.value (.float .f64 r)) (w.drewN d) := by rw [sqrt_call, hrun]; rfl
  have HR := Lib.hid hr
  clear hr hrun
  go_enter Try.func77, Try.ntmps77
  go_wp2_with fail
  go_wp2
  go_ret
  exact ⟨_, rfl, HR.out, Drew.n _ _⟩

theorem rootNumber (x : Nat) (w : World) : Calls Try.prog 67 #[.float .f32 x] w (RetF (rootF (cl .f32 x)) w) := by
  go_enter Try.func67, Try.ntmps67
  go_wp2_with (refine wpList_wid rfl rfl Try.underlying37 Try.underlying42 rfl ?_; intro r d hr)
  refine (mathSqrt _ _).mono ?_
  rintro e w' ⟨y, rfl, hy, d', rfl⟩
  rw [hr] at hy
  have HY := Lib.hid hy
  clear hy hr
  go_wp2_with (refine wpList_nar rfl rfl Try.underlying42 Try.underlying37 rfl (noOver_root HY.out) ?_; intro q d hq)
  go_ret
  exact ⟨_, rfl, by rw [hq, HY.out]; rfl, Drew.n _ _⟩

theorem l01Narrow (x y : Nat) (h : cl .f64 y = sqrtF (wid (cl .f32 x))) (w : World) : Calls Try.prog 79 #[.float .f64 y] w (RetF (rootF (cl .f32 x)) w) := by
  have H := Lib.hid h
  clear h
  go_enter Try.func79, Try.ntmps79
  go_wp2_with (refine wpList_nar rfl rfl Try.underlying42 Try.underlying37 rfl (noOver_root H.out) ?_; intro q d hq)
  go_ret
  exact ⟨_, rfl, by rw [hq, H.out]; rfl, Drew.n _ _⟩

theorem l01Sqrt (x : Nat) (w : World) : Calls Try.prog 76 #[.float .f32 x] w (RetF (rootF (cl .f32 x)) w) := by
  go_enter Try.func76, Try.ntmps76
  go_wp2_with (refine wpList_wid rfl rfl Try.underlying37 Try.underlying42 rfl ?_; intro r d hr)
  refine (mathSqrt _ _).mono ?_
  rintro e w' ⟨y, rfl, hy, d', rfl⟩
  rw [hr] at hy
  have HY := Lib.hid hy
  clear hy hr
  go_wp2_with fail
  refine (l01Narrow x _ HY.out _).mono ?_
  rintro e w' ⟨q, rfl, hq, d', rfl⟩
  go_wp2
  go_ret
  exact ⟨_, rfl, hq, Drew.n _ _⟩
end Go.Proofs.Ytikdagkopalojaa
