/-
  How the arguments of a law read: slices of numbers.
-/
import Derived.Test.YtpebibhnaopbnaaRows
import Derived.Test.YtpebibhnaopbnaaInts
import Derived.ProofKit
import Derived.OpenShut
import Derived.Laws.Cover2
import Derived.Lib.SmallJoins
import Derived.Deep.Slices
namespace Go.Proofs.Ytpebibhnaopbnaa
open Go.ChangeShapes Go.WideShapes Go.ChangeAt Go.RowKit

theorem own : ownKnob Try.prog.godebug = none := by kernel_rfl
theorem laidOut : laidOutB Try.prog = true := by kernel_rfl
section
variable {H : Type} {enc : TypeId × Value → H} {w : World} {base : Nat} {spare : Nat → Bool} {held : Bool}
theorem read_ints {fuel : Nat} {v : Value} {x : DataW H × List MemPlace}
    (h : DataW.trod enc Try.prog w base spare held fuel 22 [v] = some x) : ∃ a len cap zs, v = .slice a len cap ∧ len ≤ 9223372036854775807 ∧ (len ≤ 1048576 → InS w a len zs) := by
  rcases DataW.trod_slice Try.underlying22 h with ⟨h0, _⟩ | ⟨a, len, cap, elems, rest, n, _, h0, _, _, hl, hm, hlen, hel, _, _⟩
  · simp only [List.cons.injEq, and_true] at h0
    subst h0
    exact ⟨none, 0, 0, [], rfl, by omega, fun _ => ⟨rfl, by omega, .inl rfl⟩⟩
  · simp only [List.cons.injEq, and_true] at h0
    subst h0
    have hc : Try.prog.cellsOf 2 = 1 := by kernel_rfl
    have each : ∀ i, i < len → ∃ z : Int, w.cell? (a.add i) = some (.int .i64 z) := fun i hi => by
      have h1 := hel i hi
      have h2 : i < elems.length := by omega
      rw [List.getElem?_eq_getElem h2, hc, Nat.mul_one, Option.bind_eq_some_iff] at h1
      obtain ⟨cs, hcs, hy⟩ := h1
      obtain ⟨z, rfl, _⟩ := DataW.trod_int Try.underlying2 hy
      exact ⟨z, cell_of_cells?_one hcs⟩
    have ch : ∃ f : Nat → Int, ∀ i, i < len → w.cell? (a.add i) = some (.int .i64 (f i)) := by
      refine ⟨fun i => if hi : i < len then Classical.choose (each i hi) else 0, fun i hi => ?_⟩
      simp only [hi, dite_true]
      exact Classical.choose_spec (each i hi)
    obtain ⟨f, hf⟩ := ch
    refine ⟨some a, len, cap, (List.range len).map f, rfl, Nat.le_trans hl hm, fun hb => ⟨by simp, hb, ?_⟩⟩
    by_cases h3 : len = 0
    · exact .inl h3
    · have h4 := hf 0 (by omega)
      obtain ⟨b, off, spot⟩ := a
      have hspot : spot = none := by simpa [Addr.add] using World.cell?_spot h4
      subst hspot
      refine .inr ⟨b, off, rfl, World.block_lt_of_cell? w ⟨b, off, none⟩ (u := .int .i64 (f 0)) (by simpa [Addr.add] using h4), fun i hi => ?_⟩
      have h5 := hf i hi
      have e1 : ((List.range len).map f).getD i 0 = f i := by simp [List.getD_eq_getElem?_getD, hi]
      rw [e1, ← h5]
      congr 1
      unfold Addr.add
      split
      · subst_vars; rfl
      · rfl
end
end Go.Proofs.Ytpebibhnaopbnaa
