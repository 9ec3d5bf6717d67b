/-
  How a law's rises read.
-/
import Derived.Test.YtikdagkopalojaaRd
import Derived.Test.YtikdagkopalojaaRises
import Derived.Deep.Slices
import Derived.Deep.Fields
namespace Go.Proofs.Ytikdagkopalojaa
open Go.ChangeShapes Go.WideShapes Go.ChangeAt Go.RowKit

section
variable {H : Type} {enc : TypeId × Value → H} {w : World} {base : Nat} {spare : Nat → Bool} {held : Bool}

theorem trod_i64 {fuel : Nat} {cs : List Value} {x : DataW H × List MemPlace} (h : DataW.trod enc Try.prog w base spare held fuel 2 cs = some x) : ∃ n, cs = [.int .i64 n] := by
  obtain ⟨n, h, _⟩ := DataW.trod_int Try.underlying2 h
  exact ⟨n, h⟩

/-- A rise's four cells. -/
theorem read_rise {fuel : Nat} {a : Addr} {cs : List Value} {y : DataW H × List MemPlace} (hc : w.cells? base a 4 = some cs) (h : DataW.trod enc Try.prog w base spare held fuel 61 cs = some y) :
    ∃ r : Rise, w.cell? (a.add 0) = some (.int .i64 r.f) ∧ w.cell? (a.add 1) = some (.int .i64 r.t) ∧ w.cell? (a.add 2) = some (.int .i64 r.s) ∧ w.cell? (a.add 3) = some (.int .i64 r.l) := by
  obtain ⟨y0, y1, y2, y3, n, _, hl, h0, h1, h2, h3⟩ := Joins.trod_struct4 Try.underlying61 h
  obtain ⟨_, hcl, hat⟩ := World.cells?_some hc
  obtain ⟨n0, e0⟩ := trod_i64 h0
  obtain ⟨n1, e1⟩ := trod_i64 h1
  obtain ⟨n2, e2⟩ := trod_i64 h2
  obtain ⟨n3, e3⟩ := trod_i64 h3
  have hone : Try.prog.cellsOf 2 = 1 := by kernel_rfl
  match cs, hcl with
  | [v0, v1, v2, v3], _ =>
    rw [hone] at e0 e1 e2 e3
    simp at e0 e1 e2 e3
    subst e0 e1 e2 e3
    exact ⟨⟨n0, n1, n2, n3⟩, hat 0 (by omega), hat 1 (by omega), hat 2 (by omega), hat 3 (by omega)⟩

theorem read_rises {fuel : Nat} {v : Value} {x : DataW H × List MemPlace}
    (h : DataW.trod enc Try.prog w base spare held fuel 22 [v] = some x) : ∃ a len cap rs, v = .slice a len cap ∧ len ≤ 9223372036854775807 ∧ (len ≤ 1048576 → RiS w a len rs) := by
  rcases DataW.trod_slice Try.underlying22 h with ⟨h0, _⟩ | ⟨a, len, cap, elems, rest, n, _, h0, _, _, hl, hm, hlen, hel, _, _⟩
  · simp only [List.cons.injEq, and_true] at h0
    subst h0
    exact ⟨none, 0, 0, [], rfl, by omega, fun _ => ⟨rfl, by omega, .inl rfl⟩⟩
  · simp only [List.cons.injEq, and_true] at h0
    subst h0
    have h4 : Try.prog.cellsOf 61 = 4 := by kernel_rfl
    have each : ∀ i, i < len → ∃ r : Rise, w.cell? ((a.add (i * 4)).add 0) = some (.int .i64 r.f) ∧ w.cell? ((a.add (i * 4)).add 1) = some (.int .i64 r.t) ∧ w.cell? ((a.add (i * 4)).add 2) = some (.int .i64 r.s) ∧ w.cell? ((a.add (i * 4)).add 3) = some (.int .i64 r.l) := fun i hi => by
      have h1 := hel i hi
      have h2 : i < elems.length := by omega
      rw [List.getElem?_eq_getElem h2, h4, Option.bind_eq_some_iff] at h1
      obtain ⟨cs, hcs, hy⟩ := h1
      exact read_rise hcs hy
    have ch : ∃ f : Nat → Rise, ∀ i, i < len → w.cell? ((a.add (i * 4)).add 0) = some (.int .i64 (f i).f) ∧ w.cell? ((a.add (i * 4)).add 1) = some (.int .i64 (f i).t) ∧ w.cell? ((a.add (i * 4)).add 2) = some (.int .i64 (f i).s) ∧ w.cell? ((a.add (i * 4)).add 3) = some (.int .i64 (f i).l) := by
      refine ⟨fun i => if hi : i < len then Classical.choose (each i hi) else default, fun i hi => ?_⟩
      simp only [hi, dite_true]
      exact Classical.choose_spec (each i hi)
    obtain ⟨f, hf⟩ := ch
    refine ⟨some a, len, cap, (List.range len).map f, rfl, Nat.le_trans hl hm, fun hb => ⟨by simp, hb, ?_⟩⟩
    by_cases h3 : len = 0
    · exact .inl h3
    · have h4 := (hf 0 (by omega)).1
      obtain ⟨b, off, spot⟩ := a
      have hspot : spot = none := by simpa [Addr.add] using World.cell?_spot h4
      subst hspot
      have ea : ∀ i j, ((⟨b, off, none⟩ : Addr).add i).add j = ⟨b, off + i + j, none⟩ := fun i j => by
        unfold Addr.add
        by_cases hi : i = 0 <;> by_cases hj : j = 0 <;> simp [hi, hj]
      simp only [ea] at hf
      rw [ea] at h4
      refine .inr ⟨b, off, rfl, World.block_lt_of_cell? w ⟨b, off + 0 * 4 + 0, none⟩ h4, fun i hi => ?_⟩
      have e1 : ((List.range len).map f).getD i default = f i := by simp [List.getD_eq_getElem?_getD, hi]
      rw [e1]
      obtain ⟨g0, g1, g2, g3⟩ := hf i hi
      exact ⟨g0, g1, g2, g3⟩
end
end Go.Proofs.Ytikdagkopalojaa
