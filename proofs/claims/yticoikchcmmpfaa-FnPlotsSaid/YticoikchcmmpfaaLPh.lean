/-
  Points of the unit circle: the sine of a number of turns, told of classes; its tests are told as one answer that is reckoned for each angle.
-/
import Derived.Test.YticoikchcmmpfaaLFin2
namespace Go.Proofs.Yticoikchcmmpfaa
open Go.RowKit
attribute [local go_sem] order_cl cl_zero cl_one cl_two aord_none

def one64 : Option Nat := some 4607182418800017408
def half64 : Option Nat := some 4602678819172646912
def quarter64 : Option Nat := some 4598175219545276416
def full64 : Option Nat := some 4618760256179416344
theorem cl_one64 : cl .f64 4607182418800017408 = one64 := by decide
theorem cl_half64 : cl .f64 4602678819172646912 = half64 := by decide
theorem cl_quarter64 : cl .f64 4598175219545276416 = quarter64 := by decide
theorem cl_full64 : cl .f64 4618760256179416344 = full64 := by decide
theorem cl_far : cl .f64 4841369599423283200 = some 4841369599423283200 := by decide
theorem cl_nfar : cl .f64 14064741636278059008 = some 14064741636278059008 := by decide
attribute [local go_sem] cl_far cl_nfar cl_one64 cl_half64 cl_quarter64 cl_full64

/-- A number nearer to zero than 1. -/
def smallB : Option Nat → Bool
  | none => false
  | some b => match FloatKind.f64.decode b with
    | .number s m i => Ieee.Toward.zero.cut s (m <<< i.toNat) (-i).toNat == 0
    | _ => false

theorem small_get {x : Nat} {X : Option Nat} (hx : cl .f64 x = X) (h : smallB X = true) : ∃ s m i, FloatKind.f64.decode x = .number s m i ∧ Ieee.Toward.zero.cut s (m <<< i.toNat) (-i).toNat = 0 := by
  subst hx
  cases hx : cl .f64 x with
  | none => rw [hx] at h; cases h
  | some y =>
    obtain rfl := cl_some hx
    rw [hx] at h
    unfold smallB at h
    cases hd : FloatKind.f64.decode y with
    | number s m i => simp only [hd, beq_iff_eq] at h; exact ⟨s, m, i, rfl, h⟩
    | infinity s => simp [hd] at h
    | nan s t => simp [hd] at h

theorem small_int {x : Nat} {X : Option Nat} (hx : cl .f64 x = X) (h : smallB X = true) : floatToIntVal .f64 x .i64 = some 0 := by
  obtain ⟨s, m, i, hd, hz⟩ := small_get hx h
  have : (FloatKind.f64.decode x).toInt .zero = some 0 := by
    rw [hd]
    simp only [Ieee.Datum.toInt, Ieee.Datum.integral, hz]
    cases s <;> rfl
  unfold floatToIntVal
  rw [this]
  rfl

/-- What the whole part of such a number is: a zero of one sign or the other. -/
theorem run_trunc {P : Program} {x : Nat} {X : Option Nat} (hx : cl .f64 x = X) (h : smallB X = true) (w : World) : ∃ s : Bool, (Extern.MathFloor.toIntegral "math.archTrunc" .zero #[.float .f64 x]).run P w = .ok (.float .f64 (FloatKind.f64.format.word s 0)) w := by
  obtain ⟨s, m, i, hd, hz⟩ := small_get hx h
  refine ⟨s, ?_⟩
  have e : (Ieee.Datum.number s m i).integral .zero = .number s 0 0 := by simp only [Ieee.Datum.integral, hz]
  have e2 : FloatKind.f64.encode (.number s 0 0) = FloatKind.f64.format.word s 0 := by
    show Ieee.Format.nearest _ s 0 0 = _
    simp [Ieee.Format.nearest]
  show Sem.run P (Extern.MathFloor.toIntegral.match_1 (fun _ => Sem Value) (FloatKind.f64.decode x) _ _) w = _
  rw [hd]
  show Sem.run P (pure (Value.float .f64 (FloatKind.f64.encode ((Ieee.Datum.number s m i).integral .zero)))) w = _
  rw [e, e2]
  rfl

theorem trunc_call (args : Array Value) (W : World) : (callFunc 83 args).run Try.prog W = ((Extern.MathFloor.toIntegral "math.archTrunc" .zero args).run Try.prog W).andThen fun v w' => .ok (.value v) w' :=
  run_callFunc_extern Try.func83 (by kernel_rfl) (by kernel_rfl) (by kernel_rfl) (e := Extern.MathFloor.toIntegral "math.archTrunc" .zero) (by kernel_rfl) args W

theorem zeros (s : Bool) : cl .f64 (FloatKind.f64.format.word s 0) = some (FloatKind.f64.format.word s 0) ∧ aord .f64 (some (FloatKind.f64.format.word s 0)) (some 0) = some .eq := by
  cases s <;> decide

def RetZ (w : World) (e : Ending) (w' : World) : Prop := ∃ s : Bool, e = .returned (.float .f64 (FloatKind.f64.format.word s 0)) ∧ w = w'
theorem mathTrunc {x : Nat} {X : Option Nat} (hx : cl .f64 x = X) (h : smallB X = true) (w : World) : Calls Try.prog 82 #[.float .f64 x] w (RetZ w) := by
  obtain ⟨s, hrun⟩ := run_trunc (P := Try.prog) hx h w
  have hs : Sem.run Try.prog (callFunc 83 #[.float .f64 x]) w = .ok (.value (.float .f64 (FloatKind.f64.format.word s 0))) w := by rw [trunc_call, hrun]; rfl
  clear hrun hx
  generalize hz : FloatKind.f64.format.word s 0 = z at *
  go_enter Try.func82, Try.ntmps82
  go_wp2
  exact bodyPost_ret (v := .float .f64 z) (by simp [results, Try.results82, go_sem]) rfl ⟨s, by rw [hz], rfl⟩

/-- A number of turns less whole turns. -/
def subZ (X : Option Nat) : Option Nat := ab .sub .f64 X (some 0)
def ltB64 (X Y : Option Nat) : Bool := aord .f64 X Y == some .lt
def geB64 (X Y : Option Nat) : Bool := aord .f64 X Y == some .gt || aord .f64 X Y == some .eq
def gtB64 (X Y : Option Nat) : Bool := aord .f64 X Y == some .gt
def fracX (X : Option Nat) : Option Nat := if ltB64 (subZ X) (some 0) then ab .add .f64 (subZ X) one64 else subZ X

theorem fraction {x : Nat} {X : Option Nat} (hx : cl .f64 x = X) (h : smallB X = true) (w : World) : Calls Try.prog 75 #[.float .f64 x] w (RetG (fracX X) w) := by
  have ct := fun W => mathTrunc hx h W
  have HX := Lib.hid hx
  clear h hx
  unfold fracX ltB64 subZ
  cases hlt : (aord .f64 (ab .sub .f64 X (some 0)) (some 0) == some .lt)
  all_goals
    go_enter Try.func75, Try.ntmps75
    go_wp2_with fail
    refine (ct _).mono ?_
    rintro e w1 ⟨s, rfl, rfl⟩
    obtain ⟨z1, z2⟩ := zeros s
    generalize FloatKind.f64.format.word s 0 = z at *
    go_wp2_with (refine wpList_flc rfl rfl rfl rfl rfl (by first | exact HX.out | assumption) (by first | exact cl_zero _ | exact cl_one64) ?_; intro r d hr)
    go_ret
    exact ⟨_, rfl, hr, Drew.n _ _⟩

/-! ### The sine -/
def polyX (U : Option Nat) : Nat → Option Nat
  | 0 => one64
  | i + 1 => ab .sub .f64 one64 (ab .quo .f64 (ab .mul .f64 U (polyX U i)) (some (floatOfInt .f64 (2 * (8 - (i : Int)) * (2 * (8 - (i : Int)) + 1)))))
def zX (X : Option Nat) : Option Nat := ab .mul .f64 (subZ X) full64
def sineX (X : Option Nat) : Option Nat := ab .mul .f64 (zX X) (polyX (ab .mul .f64 (zX X) (zX X)) 8)
/-- A number from 0 to a quarter. -/
def sineOk (X : Option Nat) : Bool := smallB X && (!ltB64 (subZ X) (some 0) && (!geB64 (subZ X) half64 && !gtB64 (subZ X) quarter64))

theorem cl_intB (k : FloatKind) (n : Int) : cl k (floatOfInt k n) = some (floatOfInt k n) := by
  unfold floatOfInt FloatKind.nearest
  exact cl_encode rfl

theorem prod_in {v : Int} (h1 : 1 ≤ v) (h2 : v ≤ 8) : IntKind.i64.wrap (2 * v * (2 * v + 1)) = 2 * v * (2 * v + 1) := by
  have : v = 1 ∨ v = 2 ∨ v = 3 ∨ v = 4 ∨ v = 5 ∨ v = 6 ∨ v = 7 ∨ v = 8 := by omega
  rcases this with rfl | rfl | rfl | rfl | rfl | rfl | rfl | rfl <;> decide

set_option maxRecDepth 8000 in
theorem sine {x : Nat} {X : Option Nat} (hx : cl .f64 x = X) (h : sineOk X = true) (w : World) : Calls Try.prog 76 #[.float .f64 x] w (RetG (sineX X) w) := by
  unfold sineOk ltB64 geB64 gtB64 at h
  simp only [Bool.and_eq_true, Bool.not_eq_true', Bool.or_eq_false_iff] at h
  obtain ⟨h1, h2, ⟨h3, h3'⟩, h4⟩ := h
  have cf := fun W => fraction hx h1 W
  unfold fracX ltB64 at cf
  rw [h2] at cf
  simp only [Bool.false_eq_true, if_false] at cf
  unfold sineX zX
  clear hx h1 h2
  generalize subZ X = F at *
  go_enter Try.func76, Try.ntmps76
  go_wp2_with fail
  refine (cf _).mono ?_
  rintro e w1 ⟨f, rfl, hf, d1, rfl⟩
  have HF := Lib.hid hf
  go_wp2_with (first | (refine wpList_flc rfl rfl rfl rfl rfl (by first | exact cl_half64 | assumption) (by first | exact cl_full64 | exact cl_half64 | assumption) ?_; intro r d hr))
  generalize hU : ab .mul .f64 (ab .mul .f64 F full64) (ab .mul .f64 F full64) = U at *
  go_loopw [7, 8] (fun p k wr => ∃ (i : Nat) (v : Int) (b : Nat), i ≤ 8 ∧ k = .int .i64 v ∧ Hid (v = 8 - (i : Int)) ∧ p = .float .f64 b ∧ cl .f64 b = polyX U i ∧ Drew w wr) (fun _ k _ => (intOf k).toNat)
  case atStart => exact ⟨0, 8, _, Nat.zero_le _, rfl, Lib.hid rfl, rfl, cl_one64, Drew.n _ _⟩
  case round =>
    obtain ⟨i, v, b, hi, rfl, hv, rfl, hb, d2, rfl⟩ := hrel
    by_cases hlt : 1 ≤ v
    · have hv8 : v ≤ 8 := by have := hv.out; omega
      have hpr : IntKind.i64.wrap (2 * v * (2 * v + 1)) = 2 * v * (2 * v + 1) := prod_in hlt hv8
      have hi2 : Hid (i + 1 ≤ 8 ∧ v - 1 = 8 - ((i + 1 : Nat) : Int)) := Lib.hid (by have := hv.out; omega)
      have hb2 : Hid (ab .sub .f64 one64 (ab .quo .f64 (ab .mul .f64 U (polyX U i)) (some (floatOfInt .f64 (2 * v * (2 * v + 1))))) = polyX U (i + 1)) := Lib.hid (by rw [hv.out]; rfl)
      clear hv
      go_wp2_with (first | (refine wpList_flc rfl rfl rfl rfl rfl (by first | exact cl_one64 | assumption) (by first | exact cl_intB _ _ | assumption) ?_; intro r d hr))
      rw [hb2.out] at hr
      go_roundw
      case rel => exact ⟨i + 1, v - 1, _, hi2.out.1, by go_num, Lib.hid hi2.out.2, rfl, by assumption, Drew.n _ _⟩
      case measure => simp [intOf]; omega
    · obtain rfl : i = 8 := by have := hv.out; omega
      clear hv
      go_wp2_with (first | (refine wpList_flc rfl rfl rfl rfl rfl (by assumption) (by assumption) ?_; intro r d hr))
      go_ret
      exact ⟨_, rfl, by assumption, Drew.n _ _⟩

set_option maxRecDepth 8000 in
theorem l01SineWide {x : Nat} {X : Option Nat} (hx : cl .f64 x = X) (h : sineOk X = true) (hf : finB .f64 X = true) (h5 : geB64 X (some 4841369599423283200) = false) (h6 : (ltB64 X (some 14064741636278059008) || aord .f64 X (some 14064741636278059008) == some .eq) = false) (w : World) : Calls Try.prog 56 #[.float .f64 x] w (RetG (sineX X) w) := by
  unfold sineOk ltB64 geB64 gtB64 at h
  simp only [Bool.and_eq_true, Bool.not_eq_true', Bool.or_eq_false_iff] at h
  obtain ⟨h1, h2, ⟨h3, h3'⟩, h4⟩ := h
  have hI := small_int hx h1
  have cI := fun (W : World) => run_convert_float_int (P := Try.prog) (w := W) 31 2 .f64 .i64 x 0 (by rw [Try.underlying31]; rfl) Try.underlying2 hI
  unfold finB at hf
  have hf' : (aord .f64 (ab .sub .f64 X X) (some 0) != some .eq) = false := by rw [bne, hf]; rfl
  unfold geB64 at h5
  unfold ltB64 at h6
  simp only [Bool.or_eq_false_iff] at h5 h6
  obtain ⟨h5, h5'⟩ := h5
  obtain ⟨h6, h6'⟩ := h6
  unfold sineX zX
  unfold subZ at *
  clear h1 hI
  go_enter Try.func56, Try.ntmps56
  go_wp2_with (first | (refine wpList_flc rfl rfl rfl rfl rfl (by first | exact cl_half64 | assumption) (by first | exact cl_full64 | exact cl_half64 | exact cl_zero _ | assumption) ?_; intro r d hr))
  generalize hZ : ab .mul .f64 (ab .sub .f64 X (some 0)) full64 = Z at *
  generalize hU : ab .mul .f64 Z Z = U at *
  clear hZ h2 h3 h3' h4 h5 h5' h6 h6' hf hf' cI hx
  go_loopw [7, 8] (fun p k wr => ∃ (i : Nat) (v : Int) (b : Nat), i ≤ 8 ∧ k = .int .i64 v ∧ Hid (v = 8 - (i : Int)) ∧ p = .float .f64 b ∧ cl .f64 b = polyX U i ∧ Drew w wr) (fun _ k _ => (intOf k).toNat)
  case atStart => exact ⟨0, 8, _, Nat.zero_le _, rfl, Lib.hid rfl, rfl, cl_one64, Drew.n _ _⟩
  case round =>
    obtain ⟨i, v, b, hi, rfl, hv, rfl, hb, d2, rfl⟩ := hrel
    by_cases hlt : 1 ≤ v
    · have hv8 : v ≤ 8 := by have := hv.out; omega
      have hpr : IntKind.i64.wrap (2 * v * (2 * v + 1)) = 2 * v * (2 * v + 1) := prod_in hlt hv8
      have hi2 : Hid (i + 1 ≤ 8 ∧ v - 1 = 8 - ((i + 1 : Nat) : Int)) := Lib.hid (by have := hv.out; omega)
      have hb2 : Hid (ab .sub .f64 one64 (ab .quo .f64 (ab .mul .f64 U (polyX U i)) (some (floatOfInt .f64 (2 * v * (2 * v + 1))))) = polyX U (i + 1)) := Lib.hid (by rw [hv.out]; rfl)
      clear hv
      go_wp2_with (first | (refine wpList_flc rfl rfl rfl rfl rfl (by first | exact cl_one64 | assumption) (by first | exact cl_intB _ _ | assumption) ?_; intro r d hr))
      rw [hb2.out] at hr
      go_roundw
      case rel => exact ⟨i + 1, v - 1, _, hi2.out.1, by go_num, Lib.hid hi2.out.2, rfl, by assumption, Drew.n _ _⟩
      case measure => simp [intOf]; omega
    · obtain rfl : i = 8 := by have := hv.out; omega
      clear hv
      go_wp2_with (first | (refine wpList_flc rfl rfl rfl rfl rfl (by assumption) (by assumption) ?_; intro r d hr))
      go_ret
      exact ⟨_, rfl, by assumption, Drew.n _ _⟩
end Go.Proofs.Yticoikchcmmpfaa
