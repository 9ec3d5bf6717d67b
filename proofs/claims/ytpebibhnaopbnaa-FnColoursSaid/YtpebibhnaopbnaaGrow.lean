/-
  Rows of the call's own that grow.
-/
import Derived.Test.YtpebibhnaopbnaaFill
import Derived.Deep.AppendLies
namespace Go.Proofs.Ytpebibhnaopbnaa
open Go.RowKit

theorem MineV.of_row {E : TypeId} {B n : Nat} {w : World} {a : Option Addr} {len cap : Nat} {vs : List Value} (h : w.ownsRow B E 1 (.slice a len cap) n vs) (hm : n ≤ 1048576) : n = len ∧ MineV E B w a len vs := by
  obtain ⟨h1, ⟨h2, h3⟩ | ⟨g, c, cur, hv, hB, hg, _, _, hs, ht⟩⟩ := h
  · simp only [Value.slice.injEq] at h2
    obtain ⟨rfl, rfl, rfl⟩ := h2
    subst h3
    exact ⟨rfl, by simpa using h1, by omega, .inl rfl⟩
  · simp only [Value.slice.injEq] at hv
    obtain ⟨rfl, rfl, rfl⟩ := hv
    refine ⟨rfl, by simpa using h1, hm, .inr ⟨g, cur.toList.drop (len * 1), rfl, hB, ?_⟩⟩
    unfold Own
    rw [← ht, List.take_append_drop, hg]
theorem ints_one (x : Int) : ∀ u ∈ [Value.int .i64 x], u.oneCell' = true := by simp [Value.oneCell']
theorem ints_ones (xs : List Int) : ∀ u ∈ ints xs, u.oneCell' = true := by
  intro u hu
  simp only [ints, List.mem_map] at hu
  obtain ⟨x, _, rfl⟩ := hu
  rfl
theorem row_emptyI (w : World) (B : Nat) (E : TypeId) (hB : B ≤ w.heap.size) : (w.alloc (.cells #[] E)).ownsRow B E 1 (.slice (some ⟨w.heap.size, 0, none⟩) 0 0) 0 [] :=
  ⟨rfl, .inr ⟨w.heap.size, 0, #[], rfl, hB, heap_alloc_new w _, Nat.le_refl _, by unfold maxLen; omega, rfl, rfl⟩⟩
/-- A row that the call has built reads as its own. -/
theorem row_mineI {B n : Nat} {w : World} {v : Value} {us : List Int} (h : w.ownsRow B 2 1 v n (ints us)) (hm : n ≤ 1048576) : ∃ a cap, v = .slice a us.length cap ∧ MineV 2 B w a us.length (ints us) := by
  have hl : us.length = n := by have := h.1; rw [ints_len] at this; omega
  obtain ⟨a, c, rfl⟩ : ∃ a c, v = .slice a n c := by
    rcases h.2 with ⟨rfl, rfl⟩ | ⟨g, c, cur, rfl, _⟩
    · exact ⟨_, _, rfl⟩
    · exact ⟨_, _, rfl⟩
  subst hl
  exact ⟨a, c, rfl, (MineV.of_row h hm).2⟩
theorem row_ownI {w : World} {B n : Nat} {v : Value} {vs : List Value} {E : TypeId} (h : w.ownsRow B E 1 v n vs) (h0 : 0 < n) :
    ∃ g cap rest, v = .slice (some ⟨g, 0, none⟩) n cap ∧ B ≤ g ∧ Own E w g (vs ++ rest) := by
  obtain ⟨h1, h2 | ⟨g, cap, cur, rfl, hB, hg, _, _, hs, ht⟩⟩ := h
  · omega
  · refine ⟨g, cap, cur.toList.drop (n * 1), rfl, hB, ?_⟩
    unfold Own
    rw [← ht, List.take_append_drop, hg]
theorem grown_of_below' {w w' : World} (h : Below w.heap.size w w') : w.grownBy w' none := ⟨h.os, h.tape, h.output, h.size, fun k hk _ => h.block k hk⟩
theorem InS.away {w : World} {a : Option Addr} {len g : Nat} {xs : List Int} (h : InS w a len xs) (hg : w.heap.size ≤ g) : len ≠ 0 → Away g a := by
  intro hl b off e
  rcases h.2.2 with h0 | ⟨b', off', e', hb, _⟩
  · exact absurd h0 hl
  · rw [e] at e'
    simp at e'
    omega

/-- A new list (nil, if the answer is no) with an answer. -/
def NewL (o : Option (List Int)) (w : World) (e : Ending) (w' : World) : Prop :=
  ∃ a cap, e = .returned (.tuple #[.slice a (o.getD []).length cap, .bool o.isSome]) ∧ MineV 2 w.heap.size w' a (o.getD []).length (ints (o.getD [])) ∧ Below w.heap.size w w'
theorem NewL.no {w w' : World} (hb : Below w.heap.size w w') : NewL none w (.returned (.tuple #[.slice none 0 0, .bool false])) w' := ⟨none, 0, rfl, MineV.nil _ _ _, hb⟩
def bare (n : Nat) : List Int := List.replicate n (-1)
theorem bare_len (n : Nat) : (bare n).length = n := by simp [bare]
theorem bare_succ (n : Nat) : bare (n + 1) = bare n ++ [-1] := by simp [bare, List.replicate_succ']
theorem bare_bare (n : Nat) : Bare 0 (bare n) := by
  intro i hi
  rw [bare_len] at hi
  refine ⟨fun _ => ?_, fun h => by omega⟩
  rw [G_nat, getD_at (by rw [bare_len]; exact hi)]
  simp [bare]
theorem first_len {ps : List Int} {most : Nat} (d : Nat) : ∀ {t : Nat} {cs c : List Int}, first ps most d t cs = some c → c.length = cs.length := by
  induction d with
  | zero => intro t cs c h; simp [first] at h; rw [h]
  | succ d ih =>
    intro t cs c h
    simp only [first] at h
    split at h
    · cases h
    · rw [ih h]; simp
/-- The first list of few colours, where there is one. -/
noncomputable def few (n : Int) (ps : List Int) (most : Int) : Option (List Int) :=
  if (inB n 1 16 && inB most 1 4 && pairsB n ps) = true then first ps most.toNat n.toNat 0 (bare n.toNat) else none
theorem few_no {n : Int} {ps : List Int} {most : Int} (h : inB n 1 16 = false ∨ inB most 1 4 = false ∨ pairsB n ps = false) : few n ps most = none := by
  unfold few
  rw [if_neg]
  rcases h with h | h | h <;> simp [h]
end Go.Proofs.Ytpebibhnaopbnaa
