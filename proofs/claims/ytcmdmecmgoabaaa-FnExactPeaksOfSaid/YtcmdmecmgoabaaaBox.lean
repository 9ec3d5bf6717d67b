/-
  Boxes that hold a grid, through calls and through markings.
-/
import Derived.Test.YtcmdmecmgoabaaaFlat3
namespace Go.Proofs.Ytcmdmecmgoabaaa
open Go.RowKit

/-- A box at p that holds a grid. -/
structure Box (wk : World) (p : Nat) (wide high : Int) (a : Option Addr) (len cap : Nat) : Prop where
  lt : p < wk.heap.size
  at' : At wk p wide high a len cap
section
variable {wk w' : World} {p : Nat} {wide high : Int} {a a' : Option Addr} {len len' cap : Nat}
theorem Box.next (h : Box wk p wide high a len cap) (hb : Below wk.heap.size wk w') : Box w' p wide high a len cap := ⟨Nat.lt_of_lt_of_le h.lt hb.size, h.at'.below h.lt hb⟩
theorem Box.new (E : TypeId) (wk : World) (wide high : Int) (a : Option Addr) (len cap : Nat) : Box (wk.alloc (.cells #[.int .i64 wide, .int .i64 high, .slice a len cap] E)) wk.heap.size wide high a len cap := ⟨by simp, at_new _ _ _ _ _ _ _⟩
theorem Box.only (h : Box wk p wide high a len cap) (ho : OnlyAt a' len' wk w') (hp : len' ≠ 0 → ∀ g, a' = some ⟨g, 0, none⟩ → p ≠ g) : Box w' p wide high a len cap := by
  have hb : w'.heap[p]? = wk.heap[p]? := ho.2.2.2.2 p hp
  have hc : ∀ k, w'.cell? ⟨p, k, none⟩ = wk.cell? ⟨p, k, none⟩ := fun k => World.cell?_of_block hb
  obtain ⟨h1, h2, h3, h4⟩ := h
  exact ⟨by rw [ho.2.2.2.1]; exact h1, (hc 0).trans h2, (hc 1).trans h3, (hc 2).trans h4⟩
theorem FlS.only {zs : List Nat} (h : FlS wk a len zs) (ho : OnlyAt a' len' wk w') (hp : len ≠ 0 → len' ≠ 0 → ∀ b o g, a = some ⟨b, o, none⟩ → a' = some ⟨g, 0, none⟩ → b ≠ g) : FlS w' a len zs := by
  obtain ⟨h1, h2, h3⟩ := h
  refine ⟨h1, h2, ?_⟩
  rcases h3 with h3 | ⟨b, off, ha, hlt, hc⟩
  · exact .inl h3
  · by_cases hl : len = 0
    · exact .inl hl
    · have hb : w'.heap[b]? = wk.heap[b]? := ho.2.2.2.2 b fun hl' g hg => hp hl hl' b off g ha hg
      exact .inr ⟨b, off, ha, by rw [ho.2.2.2.1]; exact hlt, fun i hi => (World.cell?_of_block hb).trans (hc i hi)⟩
end
/-- A box that is older than a slice's block, or younger, lies elsewhere. -/
theorem older {E : TypeId} {B p : Nat} {w : World} {a : Option Addr} {len : Nat} {vs : List Value} (h : MineV E B w a len vs) (hp : p < B) : len ≠ 0 → ∀ g, a = some ⟨g, 0, none⟩ → p ≠ g := fun hl g hg => by
  have := h.base hl g hg
  omega
theorem younger {E : TypeId} {B p : Nat} {w : World} {a : Option Addr} {len : Nat} {vs : List Value} (h : MineV E B w a len vs) (hp : w.heap.size ≤ p) : len ≠ 0 → ∀ g, a = some ⟨g, 0, none⟩ → p ≠ g := fun hl g hg => by
  have := h.old hl g hg
  omega
end Go.Proofs.Ytcmdmecmgoabaaa
