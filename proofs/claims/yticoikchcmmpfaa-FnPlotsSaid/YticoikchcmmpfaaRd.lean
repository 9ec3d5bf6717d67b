/-
  How the arguments of a law read: slices of floats.
-/
import Derived.Test.YticoikchcmmpfaaRows
import Derived.Test.YticoikchcmmpfaaMem
import Derived.ProofKit
import Derived.OpenShut
import Derived.Laws.Cover2
import Derived.Lib.SmallJoins
namespace Go.Proofs.Yticoikchcmmpfaa
open Go.ChangeShapes Go.WideShapes Go.ChangeAt Go.RowKit

section
variable {H : Type} {enc : TypeId × Value → H} {P : Program} {w : World} {base : Nat} {spare : Nat → Bool} {held : Bool}

theorem trod_float {t : TypeId} {k : FloatKind} {fuel : Nat} {cs : List Value} {x : DataW H × List MemPlace} (ht : P.underlying t = some (.float k)) (h : DataW.trod enc P w base spare held fuel t cs = some x) : ∃ b, cs = [.float k b] := by
  cases fuel with
  | zero => simp [DataW.trod] at h
  | succ n =>
    unfold DataW.trod at h
    rw [ht] at h
    split at h <;> simp_all

theorem read_floats {t e : TypeId} {fuel : Nat} {v : Value} {x : DataW H × List MemPlace} (ht : P.underlying t = some (.slice e)) (he : P.underlying e = some (.float .f32)) (hc : P.cellsOf e = 1)
    (h : DataW.trod enc P w base spare held fuel t [v] = some x) : ∃ a len cap zs, v = .slice a len cap ∧ len ≤ 9223372036854775807 ∧ (len ≤ 1048576 → FlS w a len zs) := by
  rcases DataW.trod_slice ht h with ⟨h0, _⟩ | ⟨a, len, cap, elems, rest, n, _, h0, _, _, hl, hm, hlen, hel, _, _⟩
  · simp only [List.cons.injEq, and_true] at h0
    subst h0
    exact ⟨none, 0, 0, [], rfl, by omega, fun _ => ⟨rfl, by omega, .inl rfl⟩⟩
  · simp only [List.cons.injEq, and_true] at h0
    subst h0
    have each : ∀ i, i < len → ∃ z, w.cell? (a.add i) = some (.float .f32 z) := fun i hi => by
      have h1 := hel i hi
      have h2 : i < elems.length := by omega
      rw [List.getElem?_eq_getElem h2, hc, Nat.mul_one, Option.bind_eq_some_iff] at h1
      obtain ⟨cs, hcs, hy⟩ := h1
      obtain ⟨z, rfl⟩ := trod_float he hy
      exact ⟨z, cell_of_cells?_one hcs⟩
    have ch : ∃ f : Nat → Nat, ∀ i, i < len → w.cell? (a.add i) = some (.float .f32 (f i)) := by
      refine ⟨fun i => if hi : i < len then Classical.choose (each i hi) else 0, fun i hi => ?_⟩
      simp only [hi, dite_true]
      exact Classical.choose_spec (each i hi)
    obtain ⟨f, hf⟩ := ch
    refine ⟨some a, len, cap, (List.range len).map f, rfl, Nat.le_trans hl hm, fun hb => ⟨by simp, hb, ?_⟩⟩
    by_cases h3 : len = 0
    · exact .inl h3
    · have h4 := hf 0 (by omega)
      obtain ⟨b, off, spot⟩ := a
      have hspot : spot = none := by simpa [Addr.add] using World.cell?_spot h4
      subst hspot
      refine .inr ⟨b, off, rfl, World.block_lt_of_cell? w ⟨b, off, none⟩ (u := .float .f32 (f 0)) (by simpa [Addr.add] using h4), fun i hi => ?_⟩
      have h5 := hf i hi
      have e1 : ((List.range len).map f).getD i 0 = f i := by simp [List.getD_eq_getElem?_getD, hi]
      rw [e1, ← h5]
      congr 1
      unfold Addr.add
      split
      · subst_vars; rfl
      · rfl
end
theorem own : ownKnob Try.prog.godebug = none := by kernel_rfl
theorem laidOut : laidOutB Try.prog = true := by kernel_rfl
end Go.Proofs.Yticoikchcmmpfaa
