/- The law FnExactSameGrid answers true at every two grids: impl.SameGrid and spec.SameGrid answer the same, and both grids are left as they were. No condition. -/
import Derived.Test.YtcmdmecmgoabaaaRd
import Derived.Test.YtcmdmecmgoabaaaLSameGrid
namespace Go.Proofs.Ytcmdmecmgoabaaa
open Go.ChangeShapes Go.WideShapes Go.ChangeAt Go.RowKit

set_option maxRecDepth 100000 in
theorem fnExactSameGrid_lifted (os : Os) (started : os.Started) (H : Type) (enc : TypeId × Value → H) :
    ReturnsInHanded {} Try.checked os 5 .any (Rows.fnExactSameGridSpec.pre6 enc Try.prog Try.f5 Rows.fnExactSameGridRow.domain false) (Rows.fnExactSameGridSpec.post enc Try.prog Try.f5 false true false false) := by
  refine returnsInHanded_of_change (C := Try.checked) own started (by kernel_rfl) Try.func5
    (ChangeSpec.witness6 (enc := enc) (C := Try.checked) false ⟨#[], #[.agg #[.int .i64 0, .int .i64 0, .slice none 0 0], .agg #[.int .i64 0, .int .i64 0, .slice none 0 0]], []⟩ 8 (by kernel_rfl) (by kernel_rfl) (by kernel_rfl) (by kernel_rfl)) ?_
  intro W base args ds gs before hval0 hW hcnd _
  have hval : ∀ (j : Nat) t v, Try.f5.params[j]? = some t → args[j]? = some v → Value.okWide Try.prog W .any base t v := hval0
  have hW' := hW
  obtain ⟨p, q, hA0, hV, rfl, hfz, hnd⟩ := hW
  have hA : DataW.TrodAll enc Try.prog W 0 (fun _ => true) true Try.f5.params.toList args.toList ds p := hA0
  rw [Try.params5] at hA hval
  obtain ⟨v0, vs0, d0, ds0, p0, q0, hargs, rfl, rfl, h0, r0⟩ := trodAll_cons hA
  obtain ⟨v1, vs1, d1, ds1, p1, q1, rfl, rfl, rfl, h1, r1⟩ := trodAll_cons r0
  obtain ⟨rfl, rfl, rfl⟩ := trodAll_nil r1
  obtain rfl : args = #[v0, v1] := by cases args; simp_all
  obtain ⟨rfl, rfl⟩ := trodVars_none hV
  have k0 := h0
  have lt0 : ∀ x ∈ p0, x.block < W.heap.size := by obtain ⟨m, hm⟩ := k0; exact DataW.trod_lt m _ _ _ hm
  obtain ⟨c00, c01, c02, y00, y01, y02, n0, rfl, hd0, hp0, t00, t01, t02⟩ := Joins.open_agg3 Try.underlying30 (by kernel_rfl) (by kernel_rfl) (hval 0 30 v0 rfl rfl) h0
  obtain ⟨wide0, e00, _, _⟩ := DataW.trod_int Try.underlying2 t00
  obtain ⟨high0, e01, _, _⟩ := DataW.trod_int Try.underlying2 t01
  simp only [List.cons.injEq, and_true] at e00 e01
  subst e00 e01
  obtain ⟨a0, len0, cap0, zs0, rfl, hm0, hF0⟩ := read_floats Try.underlying28 Try.underlying22 (by kernel_rfl) t02
  have k1 := h1
  have lt1 : ∀ x ∈ p1, x.block < W.heap.size := by obtain ⟨m, hm⟩ := k1; exact DataW.trod_lt m _ _ _ hm
  obtain ⟨c10, c11, c12, y10, y11, y12, n1, rfl, hd1, hp1, t10, t11, t12⟩ := Joins.open_agg3 Try.underlying30 (by kernel_rfl) (by kernel_rfl) (hval 1 30 v1 rfl rfl) h1
  obtain ⟨wide1, e10, _, _⟩ := DataW.trod_int Try.underlying2 t10
  obtain ⟨high1, e11, _, _⟩ := DataW.trod_int Try.underlying2 t11
  simp only [List.cons.injEq, and_true] at e10 e11
  subst e10 e11
  obtain ⟨a1, len1, cap1, zs1, rfl, hm1, hF1⟩ := read_floats Try.underlying28 Try.underlying22 (by kernel_rfl) t12
  clear hA0 hval0
  refine (lawSameGrid wide0 high0 a0 len0 cap0 zs0 wide1 high1 a1 len1 cap1 zs1 W hm0 hF0 hm1 hF1).mono fun e W' he => ?_
  obtain ⟨rfl, bel⟩ := he
  exact ⟨_, rfl, _, _, _, [], _, [], hW', trodAll_mk1 (shut_bool Try.underlying4 _), (trodAll_cons_mk (Below.trod laidOut (by kernel_rfl) (of_decide_eq_true (by kernel_rfl)) k0 bel lt0) (trodAll_cons_mk (Below.trod laidOut (by kernel_rfl) (of_decide_eq_true (by kernel_rfl)) k1 bel lt1) trodAll_mk0)), rfl, bel.frame _, fun h => by cases h⟩

theorem fnExactSameGrid_holds : Rows.FnExactSameGridSaid :=
  OpenClaim.holds_of_wide 5 Try.f5 rfl rfl rfl rfl rfl rfl rfl ⟨rfl, rfl, rfl, rfl, rfl⟩ rfl rfl rfl rfl rfl (by kernel_rfl) Try.func5 (by kernel_rfl)
    (of_decide_eq_true (by kernel_rfl)) (by unfold Func.isWrapper; first | (rw [if_pos (by decide +kernel)]; kernel_rfl) | (rw [if_neg (by decide +kernel)]; exact ⟨rfl, rfl⟩))
    (fun os started H enc _ => fnExactSameGrid_lifted os started H enc)
#print axioms fnExactSameGrid_holds
end Go.Proofs.Ytcmdmecmgoabaaa
