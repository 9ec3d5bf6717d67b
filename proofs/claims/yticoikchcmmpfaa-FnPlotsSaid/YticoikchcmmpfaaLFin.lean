/-
  The contracts of the small functions on complex numbers, told of classes.
-/
import Derived.Test.YticoikchcmmpfaaProg
import Derived.Test.YticoikchcmmpfaaMem
import Derived.Test.YticoikchcmmpfaaVal2
namespace Go.Proofs.Yticoikchcmmpfaa
open Go.RowKit
attribute [local go_sem] order_cl cl_zero cl_one cl_two aord_none

/-! ### Operations whose operands' classes are known -/
theorem wpList_flc {P : Program} {w : World} {ops : Array Oper} {rest : List Oper} {o : Oper} {a : Act} {Q : Exit → Act → World → Prop} (hg : Region.wanted o (yielded ops a.tmps) = true) {op : BinOp} {t t' : TypeId} {x y : Operand} (hop : o.op = Op.binOp op t x y t') {k : FloatKind} {p q : Nat} (hx : a.eval x = .float k p) (hy : a.eval y = .float k q)
    (h5 : isAr op = true) {X Y : Option Nat} (hX : cl k p = X) (hY : cl k q = Y) (hK : ∀ r d, cl k r = ab op k X Y → wpList P ops Q rest (a.put o.dst (.float k r)) (w.drewN d)) : wpList P ops Q (o :: rest) a w :=
  wpList_fl hg hop hx hy h5 fun r d h => hK r d (by rw [h, hX, hY])
theorem wpList_widc {P : Program} {w : World} {ops : Array Oper} {rest : List Oper} {o : Oper} {a : Act} {Q : Exit → Act → World → Prop} (hg : Region.wanted o (yielded ops a.tmps) = true) {src dst : TypeId} {x : Operand} (hop : o.op = Op.convert src dst x) (hs : P.underlying src = some (.float .f32)) (hd : P.underlying dst = some (.float .f64)) {p : Nat} (hx : a.eval x = .float .f32 p)
    {X : Option Nat} (hX : cl .f32 p = X) (hK : ∀ r d, cl .f64 r = wid X → wpList P ops Q rest (a.put o.dst (.float .f64 r)) (w.drewN d)) : wpList P ops Q (o :: rest) a w :=
  wpList_wid hg hop hs hd hx fun r d h => hK r d (by rw [h, hX])
theorem wpList_narc {P : Program} {w : World} {ops : Array Oper} {rest : List Oper} {o : Oper} {a : Act} {Q : Exit → Act → World → Prop} (hg : Region.wanted o (yielded ops a.tmps) = true) {src dst : TypeId} {x : Operand} (hop : o.op = Op.convert src dst x) (hs : P.underlying src = some (.float .f64)) (hd : P.underlying dst = some (.float .f32)) {p : Nat} (hx : a.eval x = .float .f64 p) (hn : NoOver p)
    {X : Option Nat} (hX : cl .f64 p = X) (hK : ∀ r d, cl .f32 r = nar X → wpList P ops Q rest (a.put o.dst (.float .f32 r)) (w.drewN d)) : wpList P ops Q (o :: rest) a w :=
  wpList_nar hg hop hs hd hx hn fun r d h => hK r d (by rw [h, hX])

/-- A call that hands back a complex number of two classes, and only draws. -/
def RetCD (X Y : Option Nat) (w : World) (e : Ending) (w' : World) : Prop := ∃ r q, e = .returned (.complex .f32 r q) ∧ cl .f32 r = X ∧ cl .f32 q = Y ∧ Drew w w'
/-- .. a 64-bit number of a class. -/
def RetG (X : Option Nat) (w : World) (e : Ending) (w' : World) : Prop := ∃ r, e = .returned (.float .f64 r) ∧ cl .f64 r = X ∧ Drew w w'
/-- .. two of them. -/
def RetGG (X Y : Option Nat) (w : World) (e : Ending) (w' : World) : Prop := ∃ r q, e = .returned (.tuple #[.float .f64 r, .float .f64 q]) ∧ cl .f64 r = X ∧ cl .f64 q = Y ∧ Drew w w'

def crossX (a b c d : Option Nat) : Option Nat := ab .sub .f32 (ab .mul .f32 a d) (ab .mul .f32 b c)
def innerX (a b c d : Option Nat) : Option Nat := ab .add .f32 (ab .mul .f32 a c) (ab .mul .f32 b d)

theorem crossOf (a b c d : Nat) (w : World) : Calls Try.prog 22 #[.complex .f32 a b, .complex .f32 c d] w (RetF (crossX (cl .f32 a) (cl .f32 b) (cl .f32 c) (cl .f32 d)) w) := by
  go_enter Try.func22, Try.ntmps22
  go_wp2_with (refine wpList_flc rfl rfl rfl rfl rfl (by first | assumption | exact rfl) (by first | assumption | exact rfl) ?_; intro r d hr)
  go_ret
  exact ⟨_, rfl, hr, Drew.n _ _⟩
theorem l05Cross (a b c d : Nat) (w : World) : Calls Try.prog 46 #[.complex .f32 a b, .complex .f32 c d] w (RetF (crossX (cl .f32 a) (cl .f32 b) (cl .f32 c) (cl .f32 d)) w) := by
  go_enter Try.func46, Try.ntmps46
  go_wp2_with (refine wpList_flc rfl rfl rfl rfl rfl (by first | assumption | exact rfl) (by first | assumption | exact rfl) ?_; intro r d hr)
  go_ret
  exact ⟨_, rfl, hr, Drew.n _ _⟩
theorem innerOf (a b c d : Nat) (w : World) : Calls Try.prog 31 #[.complex .f32 a b, .complex .f32 c d] w (RetF (innerX (cl .f32 a) (cl .f32 b) (cl .f32 c) (cl .f32 d)) w) := by
  go_enter Try.func31, Try.ntmps31
  go_wp2_with (refine wpList_flc rfl rfl rfl rfl rfl (by first | assumption | exact rfl) (by first | assumption | exact rfl) ?_; intro r d hr)
  go_ret
  exact ⟨_, rfl, hr, Drew.n _ _⟩
theorem plus (a b c d : Nat) (w : World) : Calls Try.prog 24 #[.complex .f32 a b, .complex .f32 c d] w (RetCD (ab .add .f32 (cl .f32 a) (cl .f32 c)) (ab .add .f32 (cl .f32 b) (cl .f32 d)) w) := by
  go_enter Try.func24, Try.ntmps24
  go_wp2_with (refine wpList_flc rfl rfl rfl rfl rfl (by first | assumption | exact rfl) (by first | assumption | exact rfl) ?_; intro r d hr)
  go_ret
  exact ⟨_, _, rfl, by assumption, by assumption, Drew.n _ _⟩
theorem less (a b c d : Nat) (w : World) : Calls Try.prog 26 #[.complex .f32 a b, .complex .f32 c d] w (RetCD (ab .sub .f32 (cl .f32 a) (cl .f32 c)) (ab .sub .f32 (cl .f32 b) (cl .f32 d)) w) := by
  go_enter Try.func26, Try.ntmps26
  go_wp2_with (refine wpList_flc rfl rfl rfl rfl rfl (by first | assumption | exact rfl) (by first | assumption | exact rfl) ?_; intro r d hr)
  go_ret
  exact ⟨_, _, rfl, by assumption, by assumption, Drew.n _ _⟩
theorem scaleC (a b c : Nat) (w : World) : Calls Try.prog 25 #[.complex .f32 a b, .float .f32 c] w (RetCD (ab .mul .f32 (cl .f32 a) (cl .f32 c)) (ab .mul .f32 (cl .f32 b) (cl .f32 c)) w) := by
  go_enter Try.func25, Try.ntmps25
  go_wp2_with (refine wpList_flc rfl rfl rfl rfl rfl (by first | assumption | exact rfl) (by first | assumption | exact rfl) ?_; intro r d hr)
  go_ret
  exact ⟨_, _, rfl, by assumption, by assumption, Drew.n _ _⟩
theorem l01Scale (a b c : Nat) (w : World) : Calls Try.prog 19 #[.complex .f32 a b, .float .f32 c] w (RetCD (ab .mul .f32 (cl .f32 a) (cl .f32 c)) (ab .mul .f32 (cl .f32 b) (cl .f32 c)) w) := by
  go_enter Try.func19, Try.ntmps19
  go_wp2_with (refine wpList_flc rfl rfl rfl rfl rfl (by first | assumption | exact rfl) (by first | assumption | exact rfl) ?_; intro r d hr)
  go_ret
  exact ⟨_, _, rfl, by assumption, by assumption, Drew.n _ _⟩
theorem specScale (a b c : Nat) (w : World) : Calls Try.prog 7 #[.complex .f32 a b, .float .f32 c] w (RetCD (ab .mul .f32 (cl .f32 a) (cl .f32 c)) (ab .mul .f32 (cl .f32 b) (cl .f32 c)) w) := by
  go_enter Try.func7, Try.ntmps7
  go_wp2_with (go_at_call 19; refine (l01Scale _ _ _ _).mono ?_; rintro e w' ⟨r, q, rfl, hr, hq, d, rfl⟩)
  go_ret
  exact ⟨_, _, rfl, by assumption, by assumption, Drew.n _ _⟩
theorem over (a b c : Nat) (w : World) : Calls Try.prog 43 #[.complex .f32 a b, .float .f32 c] w (RetCD (ab .quo .f32 (cl .f32 a) (cl .f32 c)) (ab .quo .f32 (cl .f32 b) (cl .f32 c)) w) := by
  go_enter Try.func43, Try.ntmps43
  go_wp2_with (refine wpList_flc rfl rfl rfl rfl rfl (by first | assumption | exact rfl) (by first | assumption | exact rfl) ?_; intro r d hr)
  go_ret
  exact ⟨_, _, rfl, by assumption, by assumption, Drew.n _ _⟩

def powX (x y : Option Nat) : Option Nat := ab .add .f64 (ab .mul .f64 (wid x) (wid x)) (ab .mul .f64 (wid y) (wid y))
theorem partsC (x y : Nat) (w : World) : Calls Try.prog 78 #[.complex .f32 x y] w (RetGG (wid (cl .f32 x)) (wid (cl .f32 y)) w) := by
  go_enter Try.func78, Try.ntmps78
  go_wp2_with (refine wpList_widc rfl rfl Try.underlying25 Try.underlying31 rfl (by first | assumption | exact rfl) ?_; intro r d hr)
  refine bodyPost_ret (v := .tuple #[.float .f64 _, .float .f64 _]) ?_ rfl ⟨_, _, rfl, by assumption, by assumption, Drew.n _ _⟩
  simp [results, Try.results78, go_sem]
theorem l01PowerWide (x y : Nat) (w : World) : Calls Try.prog 67 #[.complex .f32 x y] w (RetG (powX (cl .f32 x) (cl .f32 y)) w) := by
  go_enter Try.func67, Try.ntmps67
  go_wp2_with (first | (refine wpList_widc rfl rfl Try.underlying25 Try.underlying31 rfl (by first | assumption | exact rfl) ?_; intro r d hr) | (refine wpList_flc rfl rfl rfl rfl rfl (by first | assumption | exact rfl) (by first | assumption | exact rfl) ?_; intro r d hr))
  go_ret
  exact ⟨_, rfl, by assumption, Drew.n _ _⟩
theorem power (x y : Nat) (w : World) : Calls Try.prog 71 #[.complex .f32 x y] w (RetG (powX (cl .f32 x) (cl .f32 y)) w) := by
  go_enter Try.func71, Try.ntmps71
  go_wp2_with (first | (go_at_call 78; refine (partsC _ _ _).mono ?_; rintro e w' ⟨r, q, rfl, hr, hq, d, rfl⟩) | (refine wpList_flc rfl rfl rfl rfl rfl (by first | assumption | exact rfl) (by first | assumption | exact rfl) ?_; intro r d hr))
  go_ret
  exact ⟨_, rfl, by assumption, Drew.n _ _⟩

def mulRe (a b c d : Option Nat) : Option Nat := ab .sub .f64 (ab .mul .f64 (wid a) (wid c)) (ab .mul .f64 (wid b) (wid d))
def mulIm (a b c d : Option Nat) : Option Nat := ab .add .f64 (ab .mul .f64 (wid a) (wid d)) (ab .mul .f64 (wid b) (wid c))
theorem product (a b c d : Nat) (w : World) : Calls Try.prog 63 #[.complex .f32 a b, .complex .f32 c d] w (RetGG (mulRe (cl .f32 a) (cl .f32 b) (cl .f32 c) (cl .f32 d)) (mulIm (cl .f32 a) (cl .f32 b) (cl .f32 c) (cl .f32 d)) w) := by
  go_enter Try.func63, Try.ntmps63
  go_wp2_with (first | (go_at_call 78; refine (partsC _ _ _).mono ?_; rintro e w' ⟨r, q, rfl, hr, hq, d, rfl⟩) | (refine wpList_flc rfl rfl rfl rfl rfl (by first | assumption | exact rfl) (by first | assumption | exact rfl) ?_; intro r d hr))
  refine bodyPost_ret (v := .tuple #[.float .f64 _, .float .f64 _]) ?_ rfl ⟨_, _, rfl, by assumption, by assumption, Drew.n _ _⟩
  simp [results, Try.results63, go_sem]
end Go.Proofs.Yticoikchcmmpfaa
