/-
  How a law's legs read.
-/
import Derived.Test.YtikdagkopalojaaRd
import Derived.Test.YtikdagkopalojaaLegs
import Derived.Deep.Slices
import Derived.Deep.Fields
namespace Go.Proofs.Ytikdagkopalojaa
open Go.ChangeShapes Go.WideShapes Go.ChangeAt Go.RowKit

section
variable {H : Type} {enc : TypeId × Value → H} {w : World} {base : Nat} {spare : Nat → Bool} {held : Bool}

theorem read_leg {fuel : Nat} {a : Addr} {cs : List Value} {y : DataW H × List MemPlace} (hc : w.cells? base a 2 = some cs) (h : DataW.trod enc Try.prog w base spare held fuel 69 cs = some y) :
    ∃ r : Leg, w.cell? (a.add 0) = some (.float .f32 r.x) ∧ w.cell? (a.add 1) = some (.float .f32 r.y) := by
  obtain ⟨y0, y1, n, _, hl, h0, h1⟩ := ChangeShapes.trod_struct2 Try.underlying69 h
  obtain ⟨_, hcl, hat⟩ := World.cells?_some hc
  obtain ⟨n0, e0⟩ := trod_float Try.underlying37 h0
  obtain ⟨n1, e1⟩ := trod_float Try.underlying37 h1
  have hone : Try.prog.cellsOf 37 = 1 := by kernel_rfl
  match cs, hcl with
  | [v0, v1], _ =>
    rw [hone] at e0 e1
    simp at e0 e1
    subst e0 e1
    exact ⟨⟨n0, n1⟩, hat 0 (by omega), hat 1 (by omega)⟩

theorem read_legs {fuel : Nat} {v : Value} {x : DataW H × List MemPlace}
    (h : DataW.trod enc Try.prog w base spare held fuel 29 [v] = some x) : ∃ a len cap rs, v = .slice a len cap ∧ len ≤ 9223372036854775807 ∧ (len ≤ 1048576 → LeS w a len rs) := by
  rcases DataW.trod_slice Try.underlying29 h with ⟨h0, _⟩ | ⟨a, len, cap, elems, rest, n, _, h0, _, _, hl, hm, hlen, hel, _, _⟩
  · simp only [List.cons.injEq, and_true] at h0
    subst h0
    exact ⟨none, 0, 0, [], rfl, by omega, fun _ => ⟨rfl, by omega, .inl rfl⟩⟩
  · simp only [List.cons.injEq, and_true] at h0
    subst h0
    have h4 : Try.prog.cellsOf 69 = 2 := by kernel_rfl
    have each : ∀ i, i < len → ∃ r : Leg, w.cell? ((a.add (i * 2)).add 0) = some (.float .f32 r.x) ∧ w.cell? ((a.add (i * 2)).add 1) = some (.float .f32 r.y) := fun i hi => by
      have h1 := hel i hi
      have h2 : i < elems.length := by omega
      rw [List.getElem?_eq_getElem h2, h4, Option.bind_eq_some_iff] at h1
      obtain ⟨cs, hcs, hy⟩ := h1
      exact read_leg hcs hy
    have ch : ∃ f : Nat → Leg, ∀ i, i < len → w.cell? ((a.add (i * 2)).add 0) = some (.float .f32 (f i).x) ∧ w.cell? ((a.add (i * 2)).add 1) = some (.float .f32 (f i).y) := by
      refine ⟨fun i => if hi : i < len then Classical.choose (each i hi) else default, fun i hi => ?_⟩
      simp only [hi, dite_true]
      exact Classical.choose_spec (each i hi)
    obtain ⟨f, hf⟩ := ch
    refine ⟨some a, len, cap, (List.range len).map f, rfl, Nat.le_trans hl hm, fun hb => ⟨by simp, hb, ?_⟩⟩
    by_cases h3 : len = 0
    · exact .inl h3
    · have h4 := (hf 0 (by omega)).1
      obtain ⟨b, off, spot⟩ := a
      have hspot : spot = none := by simpa [Addr.add] using World.cell?_spot h4
      subst hspot
      have ea : ∀ i j, ((⟨b, off, none⟩ : Addr).add i).add j = ⟨b, off + i + j, none⟩ := fun i j => by
        unfold Addr.add
        by_cases hi : i = 0 <;> by_cases hj : j = 0 <;> simp [hi, hj]
      simp only [ea] at hf
      rw [ea] at h4
      refine .inr ⟨b, off, rfl, World.block_lt_of_cell? w ⟨b, off + 0 * 2 + 0, none⟩ h4, fun i hi => ?_⟩
      have e1 : ((List.range len).map f).getD i default = f i := by simp [List.getD_eq_getElem?_getD, hi]
      rw [e1]
      obtain ⟨g0, g1⟩ := hf i hi
      exact ⟨g0, g1⟩
end
end Go.Proofs.Ytikdagkopalojaa
