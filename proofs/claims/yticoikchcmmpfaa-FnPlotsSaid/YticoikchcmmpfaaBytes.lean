/-
  Rows of bytes: what laws.b10At answers.
-/
import Derived.Test.YticoikchcmmpfaaMem
namespace Go.Proofs.Yticoikchcmmpfaa
open Go.RowKit

/-- A slice that reads as bytes. -/
def ByS (w : World) (a : Option Addr) (len : Nat) (xs : List Int) : Prop :=
  xs.length = len ∧ (∀ i, i < len → 0 ≤ xs.getD i 0 ∧ xs.getD i 0 ≤ 255) ∧ (len = 0 ∨ ∃ b off, a = some ⟨b, off, none⟩ ∧ b < w.heap.size ∧ ∀ i, i < len → w.cell? ⟨b, off + i, none⟩ = some (.int .u8 (xs.getD i 0)))
theorem ByS.get {w : World} {a : Option Addr} {len : Nat} {xs : List Int} (h : ByS w a len xs) {k : Nat} (hk : k < len) : ∃ b off x, a = some ⟨b, off, none⟩ ∧ b < w.heap.size ∧ w.cell? ⟨b, off + k, none⟩ = some (.int .u8 x) ∧ Hid (xs.getD k 0 = x) ∧ 0 ≤ x ∧ x ≤ 255 := by
  rcases h.2.2 with h3 | ⟨b, off, ha, hlt, hc⟩
  · omega
  · exact ⟨b, off, _, ha, hlt, hc k hk, rfl, h.2.1 k hk⟩
theorem ByS.below {w w' : World} {a : Option Addr} {len : Nat} {xs : List Int} (h : ByS w a len xs) (hb : Below w.heap.size w w') : ByS w' a len xs := by
  obtain ⟨h1, h2, h3⟩ := h
  refine ⟨h1, h2, ?_⟩
  rcases h3 with h3 | ⟨b, off, ha, hlt, hc⟩
  · exact .inl h3
  · exact .inr ⟨b, off, ha, Nat.lt_of_lt_of_le hlt hb.size, fun i hi => (hb.cell (p := ⟨b, off + i, none⟩) hlt).trans (hc i hi)⟩
/-- What b10At answers. -/
def b10 (xs : List Int) (k : Nat) (n : Int) : Int := if n ≤ 1 then 0 else if k < xs.length then xs.getD k 0 % n else ((k : Int) * 37 + 11) % n
theorem b10_range {xs : List Int} (k : Nat) {n : Int} (hn : 1 ≤ n) : 0 ≤ b10 xs k n ∧ b10 xs k n ≤ n - 1 := by
  unfold b10
  split
  · omega
  · split
    · have h2 := Int.emod_nonneg (xs.getD k 0) (show n ≠ 0 by omega)
      have h3 := Int.emod_lt_of_pos (xs.getD k 0) (show 0 < n by omega)
      omega
    · have h2 := Int.emod_nonneg ((k : Int) * 37 + 11) (show n ≠ 0 by omega)
      have h3 := Int.emod_lt_of_pos ((k : Int) * 37 + 11) (show 0 < n by omega)
      omega
end Go.Proofs.Yticoikchcmmpfaa
