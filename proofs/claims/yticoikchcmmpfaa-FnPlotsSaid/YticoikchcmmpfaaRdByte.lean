/-
  How the arguments of a law read: slices of bytes.
-/
import Derived.Test.YticoikchcmmpfaaRd
import Derived.Test.YticoikchcmmpfaaBytes
namespace Go.Proofs.Yticoikchcmmpfaa
open Go.ChangeShapes Go.WideShapes Go.ChangeAt Go.RowKit

theorem byte_range {z : Int} (h : (Lit.int .u8 z).wf = true) : 0 ≤ z ∧ z ≤ 255 := by
  have e1 : IntKind.u8.min = 0 := by decide +kernel
  have e2 : IntKind.u8.max = 255 := by decide +kernel
  simp only [Lit.wf, e1, e2, Bool.and_eq_true, decide_eq_true_eq] at h
  exact h
section
variable {H : Type} {enc : TypeId × Value → H} {w : World} {base : Nat} {spare : Nat → Bool} {held : Bool}
theorem read_bytes {fuel : Nat} {v : Value} {x : DataW H × List MemPlace}
    (h : DataW.trod enc Try.prog w base spare held fuel 22 [v] = some x) : ∃ a len cap zs, v = .slice a len cap ∧ len ≤ 9223372036854775807 ∧ ByS w a len zs := by
  rcases DataW.trod_slice Try.underlying22 h with ⟨h0, _⟩ | ⟨a, len, cap, elems, rest, n, _, h0, _, _, hl, hm, hlen, hel, _, _⟩
  · simp only [List.cons.injEq, and_true] at h0
    subst h0
    exact ⟨none, 0, 0, [], rfl, by omega, rfl, fun i hi => by omega, .inl rfl⟩
  · simp only [List.cons.injEq, and_true] at h0
    subst h0
    have hc : Try.prog.cellsOf 5 = 1 := by kernel_rfl
    have each : ∀ i, i < len → ∃ z : Int, w.cell? (a.add i) = some (.int .u8 z) ∧ 0 ≤ z ∧ z ≤ 255 := fun i hi => by
      have h1 := hel i hi
      have h2 : i < elems.length := by omega
      rw [List.getElem?_eq_getElem h2, hc, Nat.mul_one, Option.bind_eq_some_iff] at h1
      obtain ⟨cs, hcs, hy⟩ := h1
      obtain ⟨z, rfl, _, hw⟩ := DataW.trod_int Try.underlying5 hy
      exact ⟨z, cell_of_cells?_one hcs, byte_range hw⟩
    have ch : ∃ f : Nat → Int, ∀ i, i < len → w.cell? (a.add i) = some (.int .u8 (f i)) ∧ 0 ≤ f i ∧ f i ≤ 255 := by
      refine ⟨fun i => if hi : i < len then Classical.choose (each i hi) else 0, fun i hi => ?_⟩
      simp only [hi, dite_true]
      exact Classical.choose_spec (each i hi)
    obtain ⟨f, hf⟩ := ch
    refine ⟨some a, len, cap, (List.range len).map f, rfl, Nat.le_trans hl hm, by simp, fun i hi => ?_, ?_⟩
    · have e1 : ((List.range len).map f).getD i 0 = f i := by simp [List.getD_eq_getElem?_getD, hi]
      rw [e1]; exact (hf i hi).2
    · by_cases h3 : len = 0
      · exact .inl h3
      · have h4 := (hf 0 (by omega)).1
        obtain ⟨b, off, spot⟩ := a
        have hspot : spot = none := by simpa [Addr.add] using World.cell?_spot h4
        subst hspot
        refine .inr ⟨b, off, rfl, World.block_lt_of_cell? w ⟨b, off, none⟩ (u := .int .u8 (f 0)) (by simpa [Addr.add] using h4), fun i hi => ?_⟩
        have h5 := (hf i hi).1
        have e1 : ((List.range len).map f).getD i 0 = f i := by simp [List.getD_eq_getElem?_getD, hi]
        rw [e1, ← h5]
        congr 1
        unfold Addr.add
        split
        · subst_vars; rfl
        · rfl
end
end Go.Proofs.Yticoikchcmmpfaa
