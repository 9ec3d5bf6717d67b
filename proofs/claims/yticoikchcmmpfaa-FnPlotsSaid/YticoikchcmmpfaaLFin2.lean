/-
  The contracts of the functions on complex numbers that narrow, and of those that ask whether numbers are finite.
-/
import Derived.Test.YticoikchcmmpfaaLFin
namespace Go.Proofs.Yticoikchcmmpfaa
open Go.RowKit
attribute [local go_sem] order_cl cl_zero cl_one cl_two aord_none

/-! ### Finite -/
theorem fin64 (x : Nat) (w : World) : Calls Try.prog 65 #[.float .f64 x] w (RetD (.bool (finB .f64 (cl .f64 x))) w) := by
  go_enter Try.func65, Try.ntmps65
  go_wp2_with (refine wpList_fl rfl rfl rfl rfl rfl ?_; intro r d hr)
  go_ret
  exact ⟨rfl, Drew.n _ _⟩

theorem fin64_wid {x r : Nat} (h : cl .f64 r = wid (cl .f32 x)) (w : World) : Calls Try.prog 65 #[.float .f64 r] w (RetD (.bool (isNum .f32 (cl .f32 x))) w) :=
  (fin64 r w).mono fun e w' he => by rw [h, finB_wid h] at he; exact he

theorem isFin (x : Nat) (w : World) : Calls Try.prog 33 #[.float .f32 x] w (RetD (.bool (isNum .f32 (cl .f32 x))) w) := by
  go_enter Try.func33, Try.ntmps33
  go_wp2_with (first | (go_at_call 65; refine (fin64_wid (by assumption) _).mono ?_; rintro e w' ⟨rfl, d, rfl⟩) | (refine wpList_wid rfl rfl Try.underlying25 Try.underlying31 rfl ?_; intro r d hr))
  go_ret
  exact ⟨rfl, Drew.n _ _⟩

theorem l01Finite (x : Nat) (w : World) : Calls Try.prog 44 #[.float .f32 x] w (RetD (.bool (isNum .f32 (cl .f32 x))) w) := by
  go_enter Try.func44, Try.ntmps44
  go_wp2_with (refine wpList_fl rfl rfl rfl rfl rfl ?_; intro r d hr)
  go_ret
  exact ⟨by rw [← finB_eq]; rfl, Drew.n _ _⟩

theorem l01CFinite (x y : Nat) (w : World) : Calls Try.prog 36 #[.complex .f32 x y] w (RetD (.bool (isNum .f32 (cl .f32 x) && isNum .f32 (cl .f32 y))) w) := by
  have cx := fun W => l01Finite x W
  have cy := fun W => l01Finite y W
  generalize isNum .f32 (cl .f32 x) = bx at *
  generalize isNum .f32 (cl .f32 y) = bz at *
  cases bx
  all_goals
    go_enter Try.func36, Try.ntmps36
    go_wp2_with (go_at_call 44; (first | (with_reducible refine (cx _).mono ?_) | (with_reducible refine (cy _).mono ?_)); rintro e w' ⟨rfl, d, rfl⟩)
    go_ret
    exact ⟨by simp, Drew.n _ _⟩
theorem isFinC (x y : Nat) (w : World) : Calls Try.prog 34 #[.complex .f32 x y] w (RetD (.bool (isNum .f32 (cl .f32 x) && isNum .f32 (cl .f32 y))) w) := by
  have cx := fun W => isFin x W
  have cy := fun W => isFin y W
  generalize isNum .f32 (cl .f32 x) = bx at *
  generalize isNum .f32 (cl .f32 y) = bz at *
  cases bx
  all_goals
    go_enter Try.func34, Try.ntmps34
    go_wp2_with (go_at_call 33; (first | (with_reducible refine (cx _).mono ?_) | (with_reducible refine (cy _).mono ?_)); rintro e w' ⟨rfl, d, rfl⟩)
    go_ret
    exact ⟨by simp, Drew.n _ _⟩

/-- A number above zero. -/
theorem l02AboveT {x : Nat} (h1 : isNum .f32 (cl .f32 x) = true) (h2 : aord .f32 (cl .f32 x) (some 0) = some .gt) (w : World) : Calls Try.prog 37 #[.float .f32 x] w (RetD (.bool true) w) := by
  have c := fun W => l01Finite x W
  rw [h1] at c
  go_enter Try.func37, Try.ntmps37
  go_wp2_with (go_at_call 44; refine (c _).mono ?_; rintro e w' ⟨rfl, d, rfl⟩)
  go_ret
  exact ⟨by simp [h2], Drew.n _ _⟩

/-- A complex number and an answer. -/
def RetCO (X Y : Option Nat) (b : Bool) (w : World) (e : Ending) (w' : World) : Prop := ∃ r q, e = .returned (.tuple #[.complex .f32 r q, .bool b]) ∧ cl .f32 r = X ∧ cl .f32 q = Y ∧ Drew w w'

theorem finitePointT {x y : Nat} (hx : isNum .f32 (cl .f32 x) = true) (hy : isNum .f32 (cl .f32 y) = true) (w : World) : Calls Try.prog 23 #[.complex .f32 x y, .bool true] w (RetCO (cl .f32 x) (cl .f32 y) true w) := by
  have c := fun W => isFinC x y W
  rw [hx, hy] at c
  go_enter Try.func23, Try.ntmps23
  go_wp2_with (go_at_call 34; refine (c _).mono ?_; rintro e w' ⟨rfl, d, rfl⟩)
  exact bodyPost_ret (by simp [results, Try.results23, go_sem]) rfl ⟨x, y, rfl, rfl, rfl, Drew.n _ _⟩
theorem finitePointF (x y : Nat) (w : World) : Calls Try.prog 23 #[.complex .f32 x y, .bool false] w (RetCO (some 0) (some 0) false w) := by
  go_enter Try.func23, Try.ntmps23
  go_wp2_with fail
  exact bodyPost_ret (by simp [results, Try.results23, go_sem]) rfl ⟨0, 0, rfl, cl_zero _, cl_zero _, Drew.refl _⟩
theorem l05NumberT {x y : Nat} (hx : isNum .f32 (cl .f32 x) = true) (hy : isNum .f32 (cl .f32 y) = true) (w : World) : Calls Try.prog 39 #[.complex .f32 x y] w (RetCO (cl .f32 x) (cl .f32 y) true w) := by
  have c := fun W => l01CFinite x y W
  rw [hx, hy] at c
  go_enter Try.func39, Try.ntmps39
  go_wp2_with (go_at_call 36; refine (c _).mono ?_; rintro e w' ⟨rfl, d, rfl⟩)
  exact bodyPost_ret (by simp [results, Try.results39, go_sem]) rfl ⟨x, y, rfl, rfl, rfl, Drew.n _ _⟩

/-! ### Narrowing -/
/-- A class whose numbers fit 32 bits. -/
def Fits (X : Option Nat) : Prop := ∀ y, X = some y → NoOver y
theorem Fits.of {X : Option Nat} (h : Fits X) {y : Nat} (hy : cl .f64 y = X) : NoOver y := by
  intro s m p hd
  have : cl .f64 y = some y := by
    unfold cl
    rw [show FloatKind.f64.format.read y = .number s m p from hd]
    rfl
  exact h y (by rw [← hy, this]) s m p hd
theorem Vl.fits {X : Option Nat} {x : Rat} (hx : Vl .f64 X x) (K : Nat) (hK : K ≤ 100) (h : -(2 ^ K : Rat) ≤ x) (h' : x ≤ 2 ^ K) : Fits X := fun y hy => by subst hy; exact hx.noOver K hK h h'

theorem mulComplex (a b c d : Nat) (h1 : Fits (mulRe (cl .f32 a) (cl .f32 b) (cl .f32 c) (cl .f32 d))) (h2 : Fits (mulIm (cl .f32 a) (cl .f32 b) (cl .f32 c) (cl .f32 d))) (w : World) :
    Calls Try.prog 30 #[.complex .f32 a b, .complex .f32 c d] w (RetCD (nar (mulRe (cl .f32 a) (cl .f32 b) (cl .f32 c) (cl .f32 d))) (nar (mulIm (cl .f32 a) (cl .f32 b) (cl .f32 c) (cl .f32 d))) w) := by
  have cp := fun W => product a b c d W
  generalize mulRe (cl .f32 a) (cl .f32 b) (cl .f32 c) (cl .f32 d) = X at *
  generalize mulIm (cl .f32 a) (cl .f32 b) (cl .f32 c) (cl .f32 d) = Y at *
  go_enter Try.func30, Try.ntmps30
  go_wp2_with (first | (go_at_call 63; refine (cp _).mono ?_; rintro e w' ⟨x, y, rfl, hx, hy, d, rfl⟩) | (refine wpList_narc rfl rfl Try.underlying31 Try.underlying25 rfl (h1.of hx) hx ?_; intro r d hr) | (refine wpList_narc rfl rfl Try.underlying31 Try.underlying25 rfl (h2.of hy) hy ?_; intro q d hq))
  go_ret
  exact ⟨_, _, rfl, hr, hq, Drew.n _ _⟩

theorem l01Narrow {X : Option Nat} (h : Fits X) {y : Nat} (hy : cl .f64 y = X) (w : World) : Calls Try.prog 57 #[.float .f64 y] w (RetF (nar X) w) := by
  go_enter Try.func57, Try.ntmps57
  go_wp2_with (refine wpList_narc rfl rfl Try.underlying31 Try.underlying25 rfl (h.of hy) hy ?_; intro q d hq)
  go_ret
  exact ⟨_, rfl, hq, Drew.n _ _⟩

/-- .. a 64-bit complex number of two classes. -/
def RetCG (X Y : Option Nat) (w : World) (e : Ending) (w' : World) : Prop := ∃ r q, e = .returned (.complex .f64 r q) ∧ cl .f64 r = X ∧ cl .f64 q = Y ∧ Drew w w'
theorem l01Wide (x y : Nat) (w : World) : Calls Try.prog 70 #[.complex .f32 x y] w (RetCG (wid (cl .f32 x)) (wid (cl .f32 y)) w) := by
  go_enter Try.func70, Try.ntmps70
  go_wp2_with (refine wpList_widc rfl rfl Try.underlying25 Try.underlying31 rfl (by first | assumption | exact rfl) ?_; intro r d hr)
  go_ret
  exact ⟨_, _, rfl, by assumption, by assumption, Drew.n _ _⟩
theorem l01WideMul {a b c d : Nat} {A B C D : Option Nat} (ha : cl .f64 a = A) (hb : cl .f64 b = B) (hc : cl .f64 c = C) (hd : cl .f64 d = D) (w : World) : Calls Try.prog 69 #[.complex .f64 a b, .complex .f64 c d] w
    (RetCG (ab .sub .f64 (ab .mul .f64 A C) (ab .mul .f64 B D)) (ab .add .f64 (ab .mul .f64 A D) (ab .mul .f64 B C)) w) := by
  go_enter Try.func69, Try.ntmps69
  go_wp2_with (refine wpList_flc rfl rfl rfl rfl rfl (by assumption) (by assumption) ?_; intro r d hr)
  go_ret
  exact ⟨_, _, rfl, by assumption, by assumption, Drew.n _ _⟩
theorem l01CNarrow {X Y : Option Nat} (h1 : Fits X) (h2 : Fits Y) {x y : Nat} (hx : cl .f64 x = X) (hy : cl .f64 y = Y) (w : World) : Calls Try.prog 68 #[.complex .f64 x y] w (RetCD (nar X) (nar Y) w) := by
  have c1 := fun W => l01Narrow h1 hx W
  have c2 := fun W => l01Narrow h2 hy W
  go_enter Try.func68, Try.ntmps68
  go_wp2_with (first | (go_at_call 57; refine (c1 _).mono ?_; rintro e w' ⟨r, rfl, hr, d, rfl⟩) | (go_at_call 57; refine (c2 _).mono ?_; rintro e w' ⟨q, rfl, hq, d, rfl⟩))
  go_ret
  exact ⟨_, _, rfl, hr, hq, Drew.n _ _⟩
theorem l01Mul (a b c d : Nat) (h1 : Fits (mulRe (cl .f32 a) (cl .f32 b) (cl .f32 c) (cl .f32 d))) (h2 : Fits (mulIm (cl .f32 a) (cl .f32 b) (cl .f32 c) (cl .f32 d))) (w : World) :
    Calls Try.prog 40 #[.complex .f32 a b, .complex .f32 c d] w (RetCD (nar (mulRe (cl .f32 a) (cl .f32 b) (cl .f32 c) (cl .f32 d))) (nar (mulIm (cl .f32 a) (cl .f32 b) (cl .f32 c) (cl .f32 d))) w) := by
  have c1 := fun W => l01Wide a b W
  have c2 := fun W => l01Wide c d W
  unfold mulRe mulIm at *
  generalize wid (cl .f32 a) = A at *
  generalize wid (cl .f32 b) = B at *
  generalize wid (cl .f32 c) = C at *
  generalize wid (cl .f32 d) = D at *
  go_enter Try.func40, Try.ntmps40
  go_wp2_with fail
  refine (c1 _).mono ?_
  rintro e w1 ⟨a', b', rfl, ha, hb, d1, rfl⟩
  go_wp2_with fail
  refine (c2 _).mono ?_
  rintro e w1 ⟨c', d', rfl, hc, hd, d2, rfl⟩
  go_wp2_with fail
  refine (l01WideMul ha hb hc hd _).mono ?_
  rintro e w1 ⟨x, y, rfl, hx, hy, d3, rfl⟩
  go_wp2_with fail
  refine (l01CNarrow h1 h2 hx hy _).mono ?_
  rintro e w1 ⟨r, q, rfl, hr, hq, d4, rfl⟩
  go_wp2
  go_ret
  exact ⟨_, _, rfl, hr, hq, Drew.n _ _⟩

/-! ### Roots -/
theorem sqrt_call (args : Array Value) (W : World) : (callFunc 81 args).run Try.prog W = ((Extern.MathSqrt.sqrt args).run Try.prog W).andThen fun v w' => .ok (.value v) w' :=
  run_callFunc_extern Try.func81 (by kernel_rfl) (by kernel_rfl) (by kernel_rfl) (e := Extern.MathSqrt.sqrt) (by kernel_rfl) args W
theorem mathSqrt {x : Nat} {X : Option Nat} (hx : cl .f64 x = X) (w : World) : Calls Try.prog 66 #[.float .f64 x] w (RetG (sqrtF X) w) := by
  obtain ⟨r, d, hrun, hr⟩ := run_sqrt (P := Try.prog) w x
  have hs : Sem.run Try.prog (callFunc 81 #[.float .f64 x]) w = .ok (.value (.float .f64 r)) (w.drewN d) := by rw [sqrt_call, hrun]; rfl
  rw [hx] at hr
  have HR := Lib.hid hr
  clear hr hrun hx
  go_enter Try.func66, Try.ntmps66
  go_wp2_with fail
  go_wp2
  go_ret
  exact ⟨_, rfl, HR.out, Drew.n _ _⟩

def longX (x y : Option Nat) : Option Nat := nar (sqrtF (powX x y))
theorem longOf (x y : Nat) (h : Fits (sqrtF (powX (cl .f32 x) (cl .f32 y)))) (w : World) : Calls Try.prog 41 #[.complex .f32 x y] w (RetF (longX (cl .f32 x) (cl .f32 y)) w) := by
  go_enter Try.func41, Try.ntmps41
  go_wp2_with fail
  refine (power _ _ _).mono ?_
  rintro e w1 ⟨r, rfl, hr, d1, rfl⟩
  go_wp2_with fail
  refine (mathSqrt hr _).mono ?_
  rintro e w1 ⟨q, rfl, hq, d2, rfl⟩
  have hn := h.of hq
  have HQ := Lib.hid hq
  clear hr hq
  go_wp2_with (refine wpList_narc rfl rfl Try.underlying31 Try.underlying25 rfl hn HQ.out ?_; intro z d hz)
  go_ret
  exact ⟨_, rfl, hz, Drew.n _ _⟩
theorem l01Long (x y : Nat) (h : Fits (sqrtF (powX (cl .f32 x) (cl .f32 y)))) (w : World) : Calls Try.prog 35 #[.complex .f32 x y] w (RetF (longX (cl .f32 x) (cl .f32 y)) w) := by
  go_enter Try.func35, Try.ntmps35
  go_wp2_with fail
  refine (l01PowerWide _ _ _).mono ?_
  rintro e w1 ⟨r, rfl, hr, d1, rfl⟩
  go_wp2_with fail
  refine (mathSqrt hr _).mono ?_
  rintro e w1 ⟨q, rfl, hq, d2, rfl⟩
  go_wp2_with fail
  refine (l01Narrow h hq _).mono ?_
  rintro e w1 ⟨z, rfl, hz, d3, rfl⟩
  go_wp2
  go_ret
  exact ⟨_, rfl, hz, Drew.n _ _⟩
theorem specLong (x y : Nat) (h : Fits (sqrtF (powX (cl .f32 x) (cl .f32 y)))) (w : World) : Calls Try.prog 11 #[.complex .f32 x y] w (RetF (longX (cl .f32 x) (cl .f32 y)) w) := by
  go_enter Try.func11, Try.ntmps11
  go_wp2_with fail
  refine (l01Long _ _ h _).mono ?_
  rintro e w1 ⟨z, rfl, hz, d3, rfl⟩
  go_wp2
  go_ret
  exact ⟨_, rfl, hz, Drew.n _ _⟩
theorem cl_of_sqrtF {X : Option Nat} {y : Nat} (h : sqrtF X = some y) : cl .f64 y = some y := by
  cases X with
  | none => cases h
  | some x =>
    have h' : FloatKind.f64.format.sqrt x = some y := h
    unfold Ieee.Format.sqrt at h'
    exact cl_write (fun _ e => root_isNaN e) h'
theorem rootNumber (x : Nat) (w : World) : Calls Try.prog 42 #[.float .f32 x] w (RetF (rootF (cl .f32 x)) w) := by
  go_enter Try.func42, Try.ntmps42
  go_wp2_with (refine wpList_wid rfl rfl Try.underlying25 Try.underlying31 rfl ?_; intro r d hr)
  refine (mathSqrt hr _).mono ?_
  rintro e w' ⟨y, rfl, hy, d', rfl⟩
  have HY := Lib.hid hy
  clear hy hr
  go_wp2_with (refine wpList_nar rfl rfl Try.underlying31 Try.underlying25 rfl (noOver_root HY.out) ?_; intro q d hq)
  go_ret
  exact ⟨_, rfl, by rw [hq, HY.out]; rfl, Drew.n _ _⟩
theorem l01Sqrt (x : Nat) (w : World) : Calls Try.prog 38 #[.float .f32 x] w (RetF (rootF (cl .f32 x)) w) := by
  go_enter Try.func38, Try.ntmps38
  go_wp2_with (refine wpList_wid rfl rfl Try.underlying25 Try.underlying31 rfl ?_; intro r d hr)
  refine (mathSqrt hr _).mono ?_
  rintro e w' ⟨y, rfl, hy, d', rfl⟩
  have hf : Fits (sqrtF (wid (cl .f32 x))) := fun y hy => noOver_root (x := x) (y := y) (by
    obtain hz := cl_of_sqrtF hy
    rw [hz, hy])
  go_wp2_with fail
  refine (l01Narrow hf hy _).mono ?_
  rintro e w' ⟨q, rfl, hq, d', rfl⟩
  go_wp2
  go_ret
  exact ⟨_, rfl, hq, Drew.n _ _⟩
end Go.Proofs.Yticoikchcmmpfaa
