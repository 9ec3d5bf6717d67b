/-
  What the law FnColours looks at, in plain words.
-/
import Derived.Test.YtpebibhnaopbnaaColF
import Derived.Test.YtpebibhnaopbnaaColI
namespace Go.Proofs.Ytpebibhnaopbnaa
open Go.RowKit

/-- What the answers of ColoursOf and FewColours are like: c, f (four colours), f1 (one). -/
structure Ans (n : Nat) (ps : List Int) (c : List Int) (f f1 : Option (List Int)) : Prop where
  clen : c.length = n
  cpos : ∀ i : Nat, i < n → 0 ≤ G c i
  capart : ∀ j, j < ps.length / 2 → G c (pA ps j) ≠ G c (pB ps j)
  one : f1.isSome = decide (ps.length = 0)
  onelen : ∀ z, f1 = some z → z.length = n ∧ G z ((n : Int) - 1) = 0
  four : (∀ i : Nat, i < n → G c i < 4) → f.isSome = true
  flen : ∀ z, f = some z → z.length = n ∧ G z 0 = 0
  fapart : ∀ z, f = some z → ∀ j, j < ps.length / 2 → G z (pA ps j) ≠ G z (pB ps j)

theorem pair_nb {ps : List Int} {j : Nat} (hj : j < ps.length / 2) : pB ps j ∈ nb ps (pA ps j) := mem_nb.2 ⟨j, hj, by unfold hitOf; rw [if_pos rfl]; simp⟩
theorem good_range {n : Nat} {ps : List Int} {most : Nat} {c : List Int} (h : Good ps most (bare n) c) {i : Int} (hi : 0 ≤ i ∧ i ≤ (n : Int) - 1) : 0 ≤ G c i ∧ G c i < most ∧ ∀ j ∈ nb ps i, G c j ≠ G c i := by
  have := (h.2 i.toNat (by rw [bare_len]; omega)).2 (by rw [Int.toNat_of_nonneg hi.1, bare_G hi]; omega)
  rw [Int.toNat_of_nonneg hi.1] at this
  exact this
theorem few_eq {n : Nat} (hn : 1 ≤ n ∧ n ≤ 8) {ps : List Int} (hp : pairsB (n : Int) ps = true) {k : Nat} (hk : 1 ≤ k ∧ k ≤ 4) : few (n : Int) ps (k : Int) = first ps k n 0 (bare n) := by
  have a1 : inB (n : Int) 1 16 = true := decide_eq_true (by omega)
  have a2 : inB (k : Int) 1 4 = true := decide_eq_true (by omega)
  unfold few
  rw [if_pos (by rw [a1, a2, hp]; rfl)]
  simp
theorem few_good {n : Nat} (hn : 1 ≤ n ∧ n ≤ 8) {ps : List Int} (hp : pairsB (n : Int) ps = true) {k : Nat} (hk : 1 ≤ k ∧ k ≤ 4) {z : List Int} (h : few (n : Int) ps (k : Int) = some z) : Good ps k (bare n) z ∧ G z 0 = 0 := by
  rw [few_eq hn hp hk] at h
  exact ⟨first_good hp n (t := 0) (bare_len n) (by rw [bare_len]; omega) (bare_bare n) h, first_head hp (by omega) (by omega) h⟩
theorem ans {n : Nat} (hn : 1 ≤ n ∧ n ≤ 8) {ps : List Int} (hp : pairsB (n : Int) ps = true) : ∃ c, colOf (n : Int) ps = some c ∧ Ans n ps c (few (n : Int) ps 4) (few (n : Int) ps 1) := by
  have hD := sortD_inj n (dgr ps)
  refine ⟨paint n ps (sortD n (dgr ps)) n, ?_, ?_⟩
  · have a1 : inB (n : Int) 1 32 = true := decide_eq_true (by omega)
    unfold colOf
    rw [if_pos (by rw [a1, hp]; rfl)]
    simp
  · have e4 := few_eq hn hp (k := 4) (by omega)
    have e1 := few_eq hn hp (k := 1) (by omega)
    have g4 := fun z => few_good hn hp (k := 4) (z := z) (by omega)
    have g1 := fun z => few_good hn hp (k := 1) (z := z) (by omega)
    have s4 := first_sat (d := n) (t := 0) (most := 4) hp (bare_len n) (by rw [bare_len]; omega) (bare_bare n)
    have s1 := first_sat (d := n) (t := 0) (most := 1) hp (bare_len n) (by rw [bare_len]; omega) (bare_bare n)
    rw [← e4] at s4
    rw [← e1, sat_one hp] at s1
    have hl := (pairs_len hp).2
    refine ⟨paint_len _ _ _ _, fun i hi => paint_nonneg hD hi, fun j hj => (paint_proper (by omega) hp hD (pair_nb hj)).symm, ?_, fun z h => ?_, fun h => ?_, fun z h => ?_, fun z h j hj => ?_⟩
    · rw [Bool.eq_iff_iff]
      refine s1.trans ?_
      simp only [decide_eq_true_eq]
      omega
    · obtain ⟨h1, _⟩ := g1 z h
      have := good_range h1 (i := (n : Int) - 1) (by omega)
      exact ⟨by rw [h1.1, bare_len], by omega⟩
    · exact s4.2 (paint_sat (by omega) hp hD h)
    · obtain ⟨h1, h2⟩ := g4 z h
      exact ⟨by rw [h1.1, bare_len], h2⟩
    · obtain ⟨h1, _⟩ := g4 z h
      obtain ⟨ha, _, _⟩ := pairs_at hp hj
      exact ((good_range h1 ha).2.2 _ (pair_nb hj)).symm
end Go.Proofs.Ytpebibhnaopbnaa
