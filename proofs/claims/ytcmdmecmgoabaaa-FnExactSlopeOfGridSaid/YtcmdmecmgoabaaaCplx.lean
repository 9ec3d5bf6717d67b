/-
  'complex128(z)' of a complex64: both parts, told without the bits of a NaN.
-/
import Derived.Test.YtcmdmecmgoabaaaQS
namespace Go.Proofs.Ytcmdmecmgoabaaa
open Go.RowKit

theorem run_f2f {P : Program} (w : World) (x : Nat) : ∃ r d, (Conv.floatToFloat .f32 x .f64).run P w = .ok (.float .f64 r) (w.drewN d) ∧ cl .f64 r = wid (cl .f32 x) := by
  cases h : FloatKind.f32.decode x with
  | nan s t =>
    refine ⟨(Question.nanConv .f64 x).cut (w.tape w.drawn (.nanConv .f64 x)), 1, ?_, ?_⟩
    · simp [Conv.floatToFloat, h, choose, Sem.run, Question.forced, World.drewN]
    · rw [cl_convCut]
      have : cl .f32 x = none := by
        unfold cl
        rw [show FloatKind.f32.format.read x = .nan s t from h]
        rfl
      rw [this]; rfl
  | infinity s =>
    refine ⟨FloatKind.f64.encode (.infinity s), 0, ?_, ?_⟩
    · simp [Conv.floatToFloat, h, World.drewN]
    · rw [cl_encode rfl]
      have : cl .f32 x = some x := by
        unfold cl
        rw [show FloatKind.f32.format.read x = .infinity s from h]
        rfl
      rw [this]
      show _ = some (FloatKind.f64.encode (FloatKind.f32.decode x))
      rw [h]
  | number s m p =>
    refine ⟨FloatKind.f64.encode (.number s m p), 0, ?_, ?_⟩
    · obtain ⟨m', p', e⟩ := widen_num (b := x) h
      have e' : FloatKind.f64.decode (FloatKind.f64.encode (.number s m p)) = .number s m' p' := e
      simp [Conv.floatToFloat, h, e', Ieee.Datum.isInfinity, World.drewN]
    · rw [cl_encode rfl]
      have : cl .f32 x = some x := by
        unfold cl
        rw [show FloatKind.f32.format.read x = .number s m p from h]
        rfl
      rw [this]
      show _ = some (FloatKind.f64.encode (FloatKind.f32.decode x))
      rw [h]

theorem run_widC {P : Program} (w : World) {src dst : TypeId} (hs : P.underlying src = some (.complex .f32)) (hd : P.underlying dst = some (.complex .f64)) (x y : Nat) :
    ∃ r q d, (convert src dst (.complex .f32 x y)).run P w = .ok (.complex .f64 r q) (w.drewN d) ∧ cl .f64 r = wid (cl .f32 x) ∧ cl .f64 q = wid (cl .f32 y) := by
  obtain ⟨r, d, h1, e1⟩ := run_f2f (P := P) w x
  obtain ⟨q, d', h2, e2⟩ := run_f2f (P := P) (w.drewN d) y
  refine ⟨r, q, d + d', ?_, e1, e2⟩
  simp [convert, run_underlying hs, run_underlying hd, Conv.complexToComplex, h1, h2]

namespace QS
section
variable {P : Program} {ops : Array Oper} {cv : Value}
/-- 'complex128(z)' of a complex64. -/
theorem wideC {w : World} {Q : Act → Prop} {a : Act} {o : Oper} {rest : List Oper} (hg : Region.wanted o (yielded ops a.tmps) = true) {src dst : TypeId} {x : Operand} (hop : o.op = Op.convert src dst x) (hs : P.underlying src = some (.complex .f32)) (hd : P.underlying dst = some (.complex .f64)) {p p' : Nat} (hx : a.eval x = .complex .f32 p p')
    (hK : ∀ r q, cl .f64 r = wid (cl .f32 p) → cl .f64 q = wid (cl .f32 p') → wpQS P ops (fun w' => ∃ n, w' = w.drewN n) cv Q rest (a.put o.dst (.complex .f64 r q))) : wpQS P ops (fun w' => ∃ n, w' = w.drewN n) cv Q (o :: rest) a := by
  unfold wpQS
  rw [if_pos hg]
  refine ⟨fun v => ∃ r q, v = .complex .f64 r q ∧ cl .f64 r = wid (cl .f32 p) ∧ cl .f64 q = wid (cl .f32 p'), fun w1 hw1 => ?_, fun v hv => ?_⟩
  · obtain ⟨n, rfl⟩ := hw1
    obtain ⟨r, q, d, hrun, hr, hq⟩ := run_widC (P := P) (w.drewN n) hs hd p p'
    have e : (execOp a.eval o).run P (w.drewN n) = .ok (.value (.complex .f64 r q)) ((w.drewN n).drewN d) := by
      simp only [execOp, hop, hx]
      simp [hrun, Result.andThen]
    rw [e]
    exact ⟨⟨n + d, by simp⟩, r, q, rfl, hr, hq⟩
  · obtain ⟨r, q, rfl, hr, hq⟩ := hv
    exact hK r q hr hq
end
end QS
theorem wpList_widC {P : Program} {w : World} {ops : Array Oper} {rest : List Oper} {o : Oper} {a : Act} {Q : Exit → Act → World → Prop} (hg : Region.wanted o (yielded ops a.tmps) = true) {src dst : TypeId} {x : Operand} (hop : o.op = Op.convert src dst x) (hs : P.underlying src = some (.complex .f32)) (hd : P.underlying dst = some (.complex .f64)) {p p' : Nat} (hx : a.eval x = .complex .f32 p p')
    (hK : ∀ r q d, cl .f64 r = wid (cl .f32 p) → cl .f64 q = wid (cl .f32 p') → wpList P ops Q rest (a.put o.dst (.complex .f64 r q)) (w.drewN d)) : wpList P ops Q (o :: rest) a w := by
  refine wpList_step fun K hK' => ?_
  rw [if_pos hg]
  obtain ⟨r, q, d, hrun, hr, hq⟩ := run_widC (P := P) w hs hd p p'
  unfold Oper.wp
  have e : (execOp a.eval o).run P w = .ok (.value (.complex .f64 r q)) (w.drewN d) := by
    simp only [execOp, hop, hx]
    simp [hrun, Result.andThen]
  rw [e]
  exact hK' _ _ (hK r q d hr hq)
end Go.Proofs.Ytcmdmecmgoabaaa
