/-
  Floats of the walk, told without the bits of a NaN: 'cl k b' is none for a NaN, the bits otherwise; an operation whose result is a NaN draws its bits.
-/
import Derived.WalkKit
import Derived.WalkLawsBesides
import Derived.KernelRfl
import Derived.Laws.FloatArith
import Derived.Deep.Draws
namespace Go.Proofs.Yticoikchcmmpfaa
open Go.RowKit

section
variable (w : World) (n : Nat) (a : Addr)
@[simp, go_sem] theorem alloc_drewN (o : Obj) : (w.drewN n).alloc o = (w.alloc o).drewN n := rfl
@[simp, go_sem] theorem setCell_drewN (u : Value) : (w.drewN n).setCell a u = (w.setCell a u).drewN n := rfl
end
theorem below_drewN {B : Nat} {w w' : World} (h : Below B w w') (d : Nat) : Below B w (w'.drewN d) := ⟨h.os, h.tape, h.output, h.size, h.block⟩
theorem below_of_drewN {B : Nat} {w w' : World} {d : Nat} (h : Below B (w.drewN d) w') : Below B w w' := ⟨h.os, h.tape, h.output, h.size, h.block⟩

/-- Nothing but draws. -/
def Drew (w w' : World) : Prop := ∃ d, w' = w.drewN d
theorem Drew.refl (w : World) : Drew w w := ⟨0, rfl⟩
theorem Drew.n (w : World) (d : Nat) : Drew w (w.drewN d) := ⟨d, rfl⟩
theorem Drew.one (w : World) : Drew w w.drew := ⟨1, rfl⟩
theorem Drew.below {w w' : World} (h : Drew w w') (B : Nat) : Below B w w' := by
  obtain ⟨d, rfl⟩ := h
  exact below_drewN (Below.refl _ _) d

@[go_sem] theorem run_store_float {P : Program} {w : World} (a : Addr) (k : FloatKind) (b : Nat) (m : Mode) : (store a (.float k b) m).run P w = stored P w a (.float k b) m := run_store P w a _ m rfl
@[go_sem] theorem run_store_complex {P : Program} {w : World} (a : Addr) (k : FloatKind) (b c : Nat) (m : Mode) : (store a (.complex k b c) m).run P w = stored P w a (.complex k b c) m := run_store P w a _ m rfl

/-- A float's class: none for a NaN. -/
def cl (k : FloatKind) (b : Nat) : Option Nat := if (k.format.read b).isNaN then none else some b

/-- An operation on classes. -/
def ab (op : BinOp) (k : FloatKind) : Option Nat → Option Nat → Option Nat
  | some x, some y => floatBits op k x y
  | _, _ => none

def aord (k : FloatKind) : Option Nat → Option Nat → Option Ordering
  | some x, some y => k.format.order x y
  | _, _ => none

theorem word_mod (f : Ieee.Format) (s : Bool) {r : Nat} (h : r ≤ f.infRung) : f.word s r % f.signWeight = r := by
  have h1 := f.infRung_lt
  unfold Ieee.Format.word
  split
  · rw [Nat.add_mod, Nat.mod_self, Nat.zero_add, Nat.mod_mod, Nat.mod_eq_of_lt (by omega)]
  · exact Nat.mod_eq_of_lt (by omega)

theorem read_word (f : Ieee.Format) (s : Bool) {r : Nat} (h : r ≤ f.infRung) : (f.read (f.word s r)).isNaN = false := by
  unfold Ieee.Format.read
  rw [word_mod f s h]
  dsimp only
  split
  · rfl
  · split
    · rfl
    · split
      · rfl
      · omega

theorem read_nearest (f : Ieee.Format) (s : Bool) (m : Nat) (p : Int) : (f.read (f.nearest s m p)).isNaN = false := by
  unfold Ieee.Format.nearest
  split
  · exact read_word f s (Nat.zero_le _)
  · exact read_word f s (Nat.min_le_right _ _)

theorem read_write (f : Ieee.Format) (d : Ieee.Datum) (h : d.isNaN = false) : (f.read (f.write d)).isNaN = false := by
  cases d with
  | number s m p => exact read_nearest f s m p
  | infinity s => exact read_word f s (Nat.le_refl _)
  | nan s t => cases h

theorem sum_isNaN {x y d : Ieee.Datum} (h : x.sum y = some d) : d.isNaN = false := by
  cases x <;> cases y <;> simp only [Ieee.Datum.sum] at h <;> first | cases h; done | skip
  all_goals first
    | (cases h; rfl)
    | (split at h <;> first | (cases h; rfl) | cases h)

theorem product_isNaN {x y d : Ieee.Datum} (h : x.product y = some d) : d.isNaN = false := by
  cases x <;> cases y <;> simp only [Ieee.Datum.product] at h <;> first | cases h; done | skip
  all_goals first
    | (cases h; rfl)
    | (split at h <;> first | (cases h; rfl) | cases h)

theorem quotient_isNaN {n : Nat} {x y d : Ieee.Datum} (h : Ieee.Datum.quotient n x y = some d) : d.isNaN = false := by
  cases x <;> cases y <;> simp only [Ieee.Datum.quotient] at h <;> first | cases h; done | skip
  all_goals first
    | (cases h; rfl)
    | (split at h <;> first | (cases h; rfl) | cases h | (split at h <;> first | (cases h; rfl) | cases h))

theorem root_isNaN {n : Nat} {x d : Ieee.Datum} (h : Ieee.Datum.root n x = some d) : d.isNaN = false := by
  cases x <;> simp only [Ieee.Datum.root] at h <;> first | cases h; done | skip
  all_goals first
    | (cases h; rfl)
    | (split at h <;> first | (cases h; rfl) | cases h | (split at h <;> first | (cases h; rfl) | cases h))

theorem cl_write {k : FloatKind} {d : Option Ieee.Datum} (hd : ∀ x, d = some x → x.isNaN = false) {r : Nat} (h : d.map k.format.write = some r) : cl k r = some r := by
  cases d with
  | none => cases h
  | some d => cases h; unfold cl; rw [read_write _ _ (hd d rfl)]; rfl

theorem cl_floatBits {op : BinOp} {k : FloatKind} {x y r : Nat} (h : floatBits op k x y = some r) : cl k r = some r := by
  unfold floatBits at h
  split at h
  · exact cl_write (fun _ e => sum_isNaN e) h
  · exact cl_write (fun _ e => sum_isNaN e) h
  · exact cl_write (fun _ e => product_isNaN e) h
  · exact cl_write (fun _ e => quotient_isNaN e) h
  · cases h

theorem read_nan {k : FloatKind} {x : Nat} (h : cl k x = none) : ∃ s t, k.format.read x = .nan s t := by
  unfold cl at h
  split at h
  · rename_i h'
    cases hx : k.format.read x with
    | nan s t => exact ⟨s, t, rfl⟩
    | number s m p => rw [hx] at h'; cases h'
    | infinity s => rw [hx] at h'; cases h'
  · cases h

theorem cl_some {k : FloatKind} {x y : Nat} (h : cl k x = some y) : y = x := by
  unfold cl at h
  split at h
  · cases h
  · cases h; rfl

theorem floatBits_cl (op : BinOp) (k : FloatKind) (x y : Nat) : floatBits op k x y = ab op k (cl k x) (cl k y) := by
  have hl : cl k x = none → floatBits op k x y = none := fun h => by
    obtain ⟨s, t, e⟩ := read_nan h
    cases op <;> simp [floatBits, Ieee.Format.add, Ieee.Format.sub, Ieee.Format.mul, Ieee.Format.div, e, Ieee.Datum.sum, Ieee.Datum.product, Ieee.Datum.quotient]
  have hr : cl k y = none → floatBits op k x y = none := fun h => by
    obtain ⟨s, t, e⟩ := read_nan h
    cases op <;> simp only [floatBits, Ieee.Format.add, Ieee.Format.sub, Ieee.Format.mul, Ieee.Format.div, e, Ieee.Datum.opposite] <;> cases k.format.read x <;> rfl
  cases hx : cl k x with
  | none => rw [hl hx]; rfl
  | some x' =>
    cases hy : cl k y with
    | none => rw [hr hy]; rfl
    | some y' => rw [cl_some hx, cl_some hy]; rfl

theorem order_cl (k : FloatKind) (x y : Nat) : k.format.order x y = aord k (cl k x) (cl k y) := by
  cases hx : cl k x with
  | none =>
    obtain ⟨s, t, e⟩ := read_nan hx
    simp [Ieee.Format.order, e, Ieee.Datum.order, aord]
  | some x' =>
    cases hy : cl k y with
    | none =>
      obtain ⟨s, t, e⟩ := read_nan hy
      unfold Ieee.Format.order aord
      rw [e]
      cases k.format.read x <;> rfl
    | some y' => rw [cl_some hx, cl_some hy]; rfl

theorem cl_of_rung {k : FloatKind} {x : Nat} (h : k.format.infRung < x % k.format.signWeight) : cl k x = none := by
  have hb : k.format.binade ≤ k.format.infRung := by cases k <;> decide
  have : (k.format.read x).isNaN = true := by
    unfold Ieee.Format.read
    dsimp only
    rw [if_neg (by omega), if_neg (by omega), if_neg (by omega)]
    rfl
  unfold cl
  rw [if_pos this]

/-- What the tape gives for a NaN is a NaN. -/
theorem nan32 (t : Nat) : cl .f32 ((t % 2) * 2 ^ 31 + 0x7f800000 + 1 + (t / 2) % (2 ^ 23 - 1)) = none := by
  apply cl_of_rung
  have hs : (FloatKind.format .f32).signWeight = 2147483648 := rfl
  have hi : (FloatKind.format .f32).infRung = 2139095040 := rfl
  rw [hs, hi]
  have h1 : t % 2 < 2 := Nat.mod_lt _ (by omega)
  have h2 : (t / 2) % (2 ^ 23 - 1) < 2 ^ 23 - 1 := Nat.mod_lt _ (by omega)
  generalize t % 2 = u at *
  generalize (t / 2) % (2 ^ 23 - 1) = v at *
  omega

theorem nan64 (t : Nat) : cl .f64 ((t % 2) * 2 ^ 63 + 0x7ff0000000000000 + 1 + (t / 2) % (2 ^ 52 - 1)) = none := by
  apply cl_of_rung
  have hs : (FloatKind.format .f64).signWeight = 9223372036854775808 := rfl
  have hi : (FloatKind.format .f64).infRung = 9218868437227405312 := rfl
  rw [hs, hi]
  have h1 : t % 2 < 2 := Nat.mod_lt _ (by omega)
  have h2 : (t / 2) % (2 ^ 52 - 1) < 2 ^ 52 - 1 := Nat.mod_lt _ (by omega)
  generalize t % 2 = u at *
  generalize (t / 2) % (2 ^ 52 - 1) = v at *
  omega

theorem cl_nanCut (k : FloatKind) (x y t : Nat) : cl k ((Question.nanBits k x y).cut t) = none := by
  cases k
  · exact nan32 t
  · exact nan64 t

theorem cl_convCut (k : FloatKind) (x t : Nat) : cl k ((Question.nanConv k x).cut t) = none := by
  cases k
  · exact nan32 t
  · exact nan64 t

/-- '+', '-', '*', '/' on floats, whatever they are: a word of the class, in the world after some draws. -/
theorem run_fl {P : Program} (w : World) (op : BinOp) (t : TypeId) (k : FloatKind) (x y : Nat) (hop : op = .add ∨ op = .sub ∨ op = .mul ∨ op = .quo) :
    ∃ r d, (binOp op t (.float k x) (.float k y)).run P w = .ok (.float k r) (w.drewN d) ∧ cl k r = ab op k (cl k x) (cl k y) := by
  cases h : floatBits op k x y with
  | some r => exact ⟨r, 0, run_float_arith (P := P) w op t k x y r h, by rw [cl_floatBits h, ← floatBits_cl, h]⟩
  | none =>
    refine ⟨(Question.nanBits k x y).cut (w.tape w.drawn (.nanBits k x y)), 1, ?_, by rw [cl_nanCut, ← floatBits_cl, h]⟩
    rcases hop with rfl | rfl | rfl | rfl <;> (simp only [floatBits] at h; simp [binOp, Op.floatArith, h, choose, Sem.run, Question.forced, World.drewN])

def isAr : BinOp → Bool
  | .add | .sub | .mul | .quo => true
  | _ => false

theorem wpList_fl {P : Program} {w : World} {ops : Array Oper} {rest : List Oper} {o : Oper} {a : Act} {Q : Exit → Act → World → Prop} (hg : Region.wanted o (yielded ops a.tmps) = true) {op : BinOp} {t t' : TypeId} {x y : Operand} (hop : o.op = Op.binOp op t x y t') {k : FloatKind} {p q : Nat} (hx : a.eval x = .float k p) (hy : a.eval y = .float k q)
    (h5 : isAr op = true) (hK : ∀ r d, cl k r = ab op k (cl k p) (cl k q) → wpList P ops Q rest (a.put o.dst (.float k r)) (w.drewN d)) : wpList P ops Q (o :: rest) a w := by
  refine wpList_step fun K hK' => ?_
  rw [if_pos hg]
  have h4 : op = .add ∨ op = .sub ∨ op = .mul ∨ op = .quo := by cases op <;> simp_all [isAr]
  obtain ⟨r, d, hrun, hr⟩ := run_fl (P := P) w op t k p q h4
  unfold Oper.wp
  have e : (execOp a.eval o).run P w = .ok (.value (.float k r)) (w.drewN d) := by
    have eg : eqGuard op t x y (.float k p) (.float k q) = pure () := by rcases h4 with rfl | rfl | rfl | rfl <;> rfl
    simp only [execOp, hop, hx, hy, eg]
    simp [hrun, Result.andThen]
  rw [e]
  exact hK' _ _ (hK r d hr)

theorem word_sign (f : Ieee.Format) (s : Bool) {r : Nat} (h : r ≤ f.infRung) : (f.word s r / f.signWeight % 2 == 1) = s := by
  have h1 := f.infRung_lt
  have h0 : 0 < f.signWeight := by omega
  unfold Ieee.Format.word
  cases s
  · simp only [Bool.false_eq_true, if_false]
    rw [Nat.div_eq_of_lt (by omega)]
    rfl
  · simp only [if_true]
    rw [Nat.add_div_left _ h0, Nat.div_eq_of_lt (by omega)]
    rfl

theorem read_word_num (f : Ieee.Format) (s : Bool) {r : Nat} (h : r < f.infRung) : ∃ m p, f.read (f.word s r) = .number s m p := by
  unfold Ieee.Format.read
  rw [word_mod f s (Nat.le_of_lt h), word_sign f s (Nat.le_of_lt h)]
  dsimp only
  split
  · exact ⟨_, _, rfl⟩
  · exact ⟨_, _, rfl⟩

theorem read_word_inf (f : Ieee.Format) (s : Bool) (hb : f.binade ≤ f.infRung) : f.read (f.word s f.infRung) = .infinity s := by
  unfold Ieee.Format.read
  rw [word_mod f s (Nat.le_refl _), word_sign f s (Nat.le_refl _)]
  dsimp only
  rw [if_neg (by omega), if_neg (by omega), if_pos rfl]

theorem cut_zero (s : Bool) (n : Nat) : Ieee.Toward.even.cut s n 0 = n := by
  unfold Ieee.Toward.cut
  simp [Nat.mod_one]

/-- The parts of a number of 32 bits. -/
theorem single_parts {b : Nat} {s : Bool} {m : Nat} {p : Int} (h : Ieee.single.read b = .number s m p) : m < 2 ^ 24 ∧ -149 ≤ p ∧ p ≤ 104 := by
  unfold Ieee.Format.read at h
  have hb : Ieee.single.binade = 8388608 := rfl
  have hi : Ieee.single.infRung = 2139095040 := rfl
  have hs : Ieee.single.signWeight = 2147483648 := rfl
  have hl : Ieee.single.leastPlace = -149 := by decide
  rw [hb, hi, hs, hl] at h
  dsimp only at h
  split at h
  · cases h; refine ⟨by omega, by omega, by omega⟩
  · split at h
    · cases h; refine ⟨by omega, by omega, by omega⟩
    · split at h <;> cases h

theorem double_infRung : Ieee.double.infRung = 2047 * Ieee.double.binade := rfl
theorem double_binade : Ieee.double.binade = 2 ^ 52 := rfl
theorem double_least : Ieee.double.leastPlace = -1074 := by decide

theorem widen_rung {s : Bool} {m : Nat} {p : Int} (h0 : m ≠ 0) (hm : m < 2 ^ 24) (hp1 : -149 ≤ p) (hp2 : p ≤ 104) :
    ((max (p + (m.log2 : Int) - (52 : Nat)) (-1074)) - -1074).toNat * 2 ^ 52 + Ieee.Toward.even.cut s (m <<< (p - max (p + (m.log2 : Int) - (52 : Nat)) (-1074)).toNat) (max (p + (m.log2 : Int) - (52 : Nat)) (-1074) - p).toNat < 1151 * 2 ^ 52 := by
  have h1 : m.log2 < 24 := (Nat.log2_lt h0).2 hm
  have h2 : m < 2 ^ (m.log2 + 1) := Nat.lt_log2_self
  generalize m.log2 = g at *
  have e1 : max (p + (g : Int) - (52 : Nat)) (-1074) = p + g - 52 := by omega
  rw [e1]
  have e2 : (p + (g : Int) - 52 - p).toNat = 0 := by omega
  have e3 : (p - (p + (g : Int) - 52)).toNat = 52 - g := by omega
  rw [e2, e3, cut_zero]
  have h3 : m <<< (52 - g) < 2 ^ 53 := by
    rw [Nat.shiftLeft_eq]
    have h31 : m * 2 ^ (52 - g) < 2 ^ (g + 1) * 2 ^ (52 - g) := Nat.mul_lt_mul_of_pos_right h2 (Nat.two_pow_pos _)
    have h32 : 2 ^ (g + 1) * 2 ^ (52 - g) = 2 ^ 53 := by rw [← Nat.pow_add]; congr 1; omega
    omega
  have h4 : (p + (g : Int) - 52 - -1074).toNat ≤ 1149 := by omega
  generalize (p + (g : Int) - 52 - -1074).toNat = u at *
  generalize m <<< (52 - g) = v at *
  clear h2
  omega

theorem widen_num {b : Nat} {s : Bool} {m : Nat} {p : Int} (h : Ieee.single.read b = .number s m p) : ∃ m' p', Ieee.double.read (Ieee.double.write (.number s m p)) = .number s m' p' := by
  obtain ⟨hm, hp1, hp2⟩ := single_parts h
  unfold Ieee.Format.write Ieee.Format.nearest
  dsimp only
  by_cases h0 : m = 0
  · rw [if_pos h0]; exact read_word_num _ _ (by rw [double_infRung, double_binade]; omega)
  rw [if_neg h0]
  refine read_word_num _ _ ?_
  have h1 := widen_rung (s := s) h0 hm hp1 hp2
  rw [double_infRung, double_binade, double_least]
  refine Nat.lt_of_le_of_lt (Nat.min_le_left _ _) (Nat.lt_trans h1 ?_)
  omega

/-- 'float64(x)' of a float32, told of classes. -/
def wid : Option Nat → Option Nat
  | none => none
  | some b => some (FloatKind.f64.encode (FloatKind.f32.decode b))

theorem cl_encode {k : FloatKind} {d : Ieee.Datum} (h : d.isNaN = false) : cl k (k.encode d) = some (k.encode d) := by
  unfold cl FloatKind.encode
  rw [read_write _ _ h]
  rfl

theorem run_wid {P : Program} (w : World) {src dst : TypeId} (hs : P.underlying src = some (.float .f32)) (hd : P.underlying dst = some (.float .f64)) (x : Nat) :
    ∃ r d, (convert src dst (.float .f32 x)).run P w = .ok (.float .f64 r) (w.drewN d) ∧ cl .f64 r = wid (cl .f32 x) := by
  have hne : ¬ (FloatKind.f32 = FloatKind.f64) := by decide
  cases h : FloatKind.f32.decode x with
  | nan s t =>
    refine ⟨(Question.nanConv .f64 x).cut (w.tape w.drawn (.nanConv .f64 x)), 1, ?_, ?_⟩
    · simp [convert, run_underlying hs, run_underlying hd, Conv.floatToFloat, h, choose, Sem.run, Question.forced, World.drewN]
    · rw [cl_convCut]
      have : cl .f32 x = none := by
        unfold cl
        rw [show FloatKind.f32.format.read x = .nan s t from h]
        rfl
      rw [this]; rfl
  | infinity s =>
    refine ⟨FloatKind.f64.encode (.infinity s), 0, ?_, ?_⟩
    · simp [convert, run_underlying hs, run_underlying hd, Conv.floatToFloat, h, World.drewN]
    · rw [cl_encode rfl]
      have : cl .f32 x = some x := by
        unfold cl
        rw [show FloatKind.f32.format.read x = .infinity s from h]
        rfl
      rw [this]
      show _ = some (FloatKind.f64.encode (FloatKind.f32.decode x))
      rw [h]
  | number s m p =>
    refine ⟨FloatKind.f64.encode (.number s m p), 0, ?_, ?_⟩
    · obtain ⟨m', p', e⟩ := widen_num (b := x) h
      have e' : FloatKind.f64.decode (FloatKind.f64.encode (.number s m p)) = .number s m' p' := e
      simp [convert, run_underlying hs, run_underlying hd, Conv.floatToFloat, h, e', Ieee.Datum.isInfinity, World.drewN]
    · rw [cl_encode rfl]
      have : cl .f32 x = some x := by
        unfold cl
        rw [show FloatKind.f32.format.read x = .number s m p from h]
        rfl
      rw [this]
      show _ = some (FloatKind.f64.encode (FloatKind.f32.decode x))
      rw [h]

theorem wpList_wid {P : Program} {w : World} {ops : Array Oper} {rest : List Oper} {o : Oper} {a : Act} {Q : Exit → Act → World → Prop} (hg : Region.wanted o (yielded ops a.tmps) = true) {src dst : TypeId} {x : Operand} (hop : o.op = Op.convert src dst x) (hs : P.underlying src = some (.float .f32)) (hd : P.underlying dst = some (.float .f64)) {p : Nat} (hx : a.eval x = .float .f32 p)
    (hK : ∀ r d, cl .f64 r = wid (cl .f32 p) → wpList P ops Q rest (a.put o.dst (.float .f64 r)) (w.drewN d)) : wpList P ops Q (o :: rest) a w := by
  refine wpList_step fun K hK' => ?_
  rw [if_pos hg]
  obtain ⟨r, d, hrun, hr⟩ := run_wid (P := P) w hs hd p
  unfold Oper.wp
  have e : (execOp a.eval o).run P w = .ok (.value (.float .f64 r)) (w.drewN d) := by
    simp only [execOp, hop, hx]
    simp [hrun, Result.andThen]
  rw [e]
  exact hK' _ _ (hK r d hr)

/-! ### What is finite -/
/-- A class of a number. -/
def isNum (k : FloatKind) : Option Nat → Bool
  | none => false
  | some b => match k.format.read b with | .number .. => true | _ => false

/-- 'x - x == 0'. -/
def finB (k : FloatKind) (X : Option Nat) : Bool := aord k (ab .sub k X X) (some 0) == some .eq

theorem finB_eq (k : FloatKind) (x : Nat) : finB k (cl k x) = isNum k (cl k x) := by
  cases hx : cl k x with
  | none => rfl
  | some y =>
    obtain rfl := cl_some hx
    cases h : k.format.read y with
    | nan s t =>
      unfold cl at hx
      rw [h] at hx
      cases hx
    | infinity s =>
      simp [finB, ab, floatBits, isNum, h, Ieee.Format.sub, Ieee.Datum.opposite, Ieee.Datum.sum, aord]
    | number s m p =>
      have e : floatBits .sub k y y = some (k.format.word false 0) := by
        simp only [floatBits, Ieee.Format.sub, h, Ieee.Datum.opposite, Ieee.Datum.sum]
        have : Ieee.signed s m (p - min p p).toNat + Ieee.signed (!s) m (p - min p p).toNat = 0 := by
          cases s <;> simp [Ieee.signed] <;> omega
        simp only [this]
        simp [Ieee.Format.write, Ieee.Format.nearest]
      simp only [finB, ab, isNum, h, e, aord]
      have hz : k.format.word false 0 = 0 := rfl
      rw [hz]
      cases k <;> decide

theorem isNum_wid (x : Nat) : isNum .f64 (wid (cl .f32 x)) = isNum .f32 (cl .f32 x) := by
  cases hx : cl .f32 x with
  | none => rfl
  | some y =>
    obtain rfl := cl_some hx
    show isNum .f64 (some (FloatKind.f64.encode (FloatKind.f32.decode y))) = _
    cases h : FloatKind.f32.decode y with
    | nan s t =>
      unfold cl at hx
      rw [show FloatKind.f32.format.read y = .nan s t from h] at hx
      cases hx
    | infinity s =>
      have e : FloatKind.f64.format.read (FloatKind.f64.encode (.infinity s)) = .infinity s := read_word_inf _ s (by decide)
      have h' : FloatKind.f32.format.read y = .infinity s := h
      simp [isNum, e, h']
    | number s m p =>
      obtain ⟨m', p', e⟩ := widen_num (b := y) h
      have e' : FloatKind.f64.format.read (FloatKind.f64.encode (.number s m p)) = .number s m' p' := e
      have h' : FloatKind.f32.format.read y = .number s m p := h
      simp [isNum, e', h']

theorem finB_wid {x y : Nat} (h : cl .f64 y = wid (cl .f32 x)) : finB .f64 (wid (cl .f32 x)) = isNum .f32 (cl .f32 x) := by
  rw [← h, finB_eq, h, isNum_wid]

theorem cl_zero (k : FloatKind) : cl k 0 = some 0 := by cases k <;> decide

/-! ### What a call hands back that only reads -/
def RetD (v : Value) (w : World) (e : Ending) (w' : World) : Prop := e = .returned v ∧ Drew w w'
def RetF (X : Option Nat) (w : World) (e : Ending) (w' : World) : Prop := ∃ r, e = .returned (.float .f32 r) ∧ cl .f32 r = X ∧ Drew w w'
def RetFB (X : Option Nat) (b : Bool) (w : World) (e : Ending) (w' : World) : Prop := ∃ r c, e = .returned (.tuple #[.float .f32 r, .bool c]) ∧ c = b ∧ cl .f32 r = X ∧ Drew w w'

theorem aord_none (k : FloatKind) (Y : Option Nat) : aord k none Y = none := rfl
theorem compare_self (n : Int) : compare n n = .eq := by simp [compare, compareOfLessAndEq]
theorem compare_selfN (n : Nat) : compare n n = .eq := by simp [compare, compareOfLessAndEq]
theorem aord_self {k : FloatKind} {x : Nat} (h : cl k x = some x) : aord k (some x) (some x) = some .eq := by
  show k.format.order x x = _
  unfold Ieee.Format.order
  cases hx : k.format.read x with
  | nan s t =>
    unfold cl at h
    rw [hx] at h
    cases h
  | infinity s => exact congrArg some (compare_selfN _)
  | number s m p => exact congrArg some (compare_self _)

/-- The classes of some constants of 32 bits. -/
def one : Option Nat := some 1065353216
def two : Option Nat := some 1073741824
theorem cl_one : cl .f32 1065353216 = one := by decide
theorem cl_two : cl .f32 1073741824 = two := by decide

def geB (X Y : Option Nat) : Bool := aord .f32 X Y == some .gt || aord .f32 X Y == some .eq
def leB (X Y : Option Nat) : Bool := aord .f32 X Y == some .lt || aord .f32 X Y == some .eq
def gtB (X Y : Option Nat) : Bool := aord .f32 X Y == some .gt
def ltB (X Y : Option Nat) : Bool := aord .f32 X Y == some .lt
def leastB (X : Option Nat) : Bool := isNum .f32 X && geB X (some 0)
def insideB (X L H : Option Nat) : Bool := geB X L && leB X H
/-- A number, if it is finite and b holds. -/
def numIf (X : Option Nat) (b : Bool) : Option Nat := if b && isNum .f32 X then X else some 0

#print axioms finB_wid
#print axioms wpList_wid
end Go.Proofs.Yticoikchcmmpfaa
