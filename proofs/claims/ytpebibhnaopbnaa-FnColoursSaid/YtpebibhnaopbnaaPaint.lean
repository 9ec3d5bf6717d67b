/-
  Colours one after the other, in plain words: the order, the least free colour.
-/
import Derived.Test.YtpebibhnaopbnaaSort1
import Derived.Test.YtpebibhnaopbnaaGrow
namespace Go.Proofs.Ytpebibhnaopbnaa

/-! ### The order -/
def leB (dg : Nat → Nat) (x y : Nat) : Bool := decide (dg y < dg x ∨ (dg x = dg y ∧ x ≤ y))
def sortL (n : Nat) (dg : Nat → Nat) : List Nat := (List.range n).mergeSort (leB dg)
def sortD (n : Nat) (dg : Nat → Nat) : Nat → Nat := fun p => (sortL n dg).getD p 0
theorem sortL_len (n : Nat) (dg : Nat → Nat) : (sortL n dg).length = n := by simp [sortL]
theorem sortL_mem {n : Nat} {dg : Nat → Nat} {x : Nat} : x ∈ sortL n dg ↔ x < n := by simp [sortL, List.mem_mergeSort]
theorem sortL_nodup (n : Nat) (dg : Nat → Nat) : (sortL n dg).Nodup := by
  unfold sortL
  exact (List.mergeSort_perm _ _).nodup_iff.2 List.nodup_range
theorem sortL_pairs (n : Nat) (dg : Nat → Nat) : (sortL n dg).Pairwise fun x y => leB dg x y = true := by
  refine List.pairwise_mergeSort (fun x y z h1 h2 => ?_) (fun x y => ?_) _
  · simp only [leB, decide_eq_true_eq] at *; omega
  · simp only [leB, Bool.or_eq_true, decide_eq_true_eq]; omega
theorem sortD_at {n : Nat} {dg : Nat → Nat} {p : Nat} (h : p < n) : sortD n dg p = (sortL n dg)[p]'(by rw [sortL_len]; exact h) := by
  unfold sortD; exact getD_at (by rw [sortL_len]; exact h)
theorem sortD_inj (n : Nat) (dg : Nat → Nat) : InjB n (sortD n dg) := by
  refine ⟨fun i hi => ?_, fun i j hi hj e => ?_⟩
  · rw [sortD_at hi]; exact sortL_mem.1 (List.getElem_mem _)
  · rw [sortD_at hi, sortD_at hj] at e
    exact (List.getElem_inj (sortL_nodup n dg)).1 e
theorem sortD_sorted (n : Nat) (dg : Nat → Nat) : SortedOn dg (sortD n dg) 0 n := by
  intro p r _ h2 h3
  have h1 := List.pairwise_iff_getElem.1 (sortL_pairs n dg) p r (by rw [sortL_len]; omega) (by rw [sortL_len]; exact h3) h2
  rw [← sortD_at (by omega), ← sortD_at h3] at h1
  have hne : sortD n dg p ≠ sortD n dg r := fun e => by have := (sortD_inj n dg).2 p r (by omega) h3 e; omega
  simp only [leB, decide_eq_true_eq] at h1
  unfold lt'
  omega
theorem lt'_irrefl {dg : Nat → Nat} {x : Nat} : ¬ lt' dg x x := by unfold lt'; omega
theorem nodup_len {n : Nat} : ∀ {L : List Nat}, L.Nodup → (∀ x ∈ L, x < n) → L.length ≤ n := by
  induction n with
  | zero =>
    intro L _ h
    cases L with
    | nil => simp
    | cons a r => exact absurd (h a (by simp)) (Nat.not_lt_zero _)
  | succ n ih =>
    intro L hn h
    by_cases hm : n ∈ L
    · have h1 := ih (hn.erase n) fun x hx => by
        rw [hn.mem_erase_iff] at hx
        have := h x hx.2
        have := hx.1
        omega
      rw [List.length_erase_of_mem hm] at h1
      omega
    · have := ih hn fun x hx => by
        have h1 := h x hx
        have : x ≠ n := fun e => hm (e ▸ hx)
        omega
      omega
/-- Where is x? (A row that holds each number once holds every number.) -/
theorem inj_onto {n : Nat} {D : Nat → Nat} (h : InjB n D) {x : Nat} (hx : x < n) : ∃ p, p < n ∧ D p = x := by
  refine Classical.byContradiction fun hno => ?_
  have hno' : ∀ p, p < n → D p ≠ x := fun p hp e => hno ⟨p, hp, e⟩
  have hnd : ((List.range n).map D).Nodup := by
    rw [List.Nodup, List.pairwise_map]
    refine List.Pairwise.imp_of_mem ?_ (List.nodup_range (n := n))
    intro a b ha hb hab e
    exact hab (h.2 a b (List.mem_range.1 ha) (List.mem_range.1 hb) e)
  have hsub : ∀ y ∈ x :: (List.range n).map D, y < n := by
    intro y hy
    rw [List.mem_cons] at hy
    rcases hy with rfl | hy
    · exact hx
    · obtain ⟨p, hp, rfl⟩ := List.mem_map.1 hy
      exact h.1 p (List.mem_range.1 hp)
  have hnd2 : (x :: (List.range n).map D).Nodup := by
    rw [List.nodup_cons]
    refine ⟨fun hm => ?_, hnd⟩
    obtain ⟨p, hp, e⟩ := List.mem_map.1 hm
    exact hno' p (List.mem_range.1 hp) e
  have := nodup_len hnd2 hsub
  simp at this
  omega
/-- There is one such order. -/
theorem sorted_unique {n : Nat} {dg D E : Nat → Nat} (hD : InjB n D) (hE : InjB n E) (sD : SortedOn dg D 0 n) (sE : SortedOn dg E 0 n) : ∀ p, p < n → D p = E p := by
  intro p
  induction p using Nat.strongRecOn with
  | _ p ih =>
  intro hp
  obtain ⟨r, hr, e⟩ := inj_onto hE (hD.1 p hp)
  obtain ⟨s, hs, e2⟩ := inj_onto hD (hE.1 p hp)
  have hrp : p ≤ r := by
    rcases Nat.lt_or_ge r p with h | h
    · have e3 := ih r h hr
      have := hD.2 r p hr hp (by rw [e3, e])
      omega
    · exact h
  have hsp : p ≤ s := by
    rcases Nat.lt_or_ge s p with h | h
    · have e3 := ih s h hs
      have := hE.2 s p hs hp (by rw [← e3, e2])
      omega
    · exact h
  by_cases h1 : r = p
  · rw [← e, h1]
  · by_cases h2 : s = p
    · rw [← e2, h2]
    · have a1 := sE p r (Nat.zero_le _) (by omega) hr
      have a2 := sD p s (Nat.zero_le _) (by omega) hs
      rw [e] at a1
      rw [e2] at a2
      exact absurd (lt'_trans a1 a2) lt'_irrefl

/-! ### The least free colour -/
def leastF (own cs : List Int) : Nat := ((List.range 64).find? fun c : Nat => freeB own cs (c : Int)).getD 64
theorem leastF_eq {own cs : List Int} {c : Nat} (hc : c < 64) (hf : freeB own cs (c : Int) = true) (hno : ∀ c' : Nat, c' < c → freeB own cs (c' : Int) = false) : leastF own cs = c := by
  unfold leastF
  have : (List.range 64).find? (fun c : Nat => freeB own cs (c : Int)) = some c := by
    rw [List.find?_eq_some_iff_getElem]
    refine ⟨hf, c, by simpa using hc, by simp, fun j hj => ?_⟩
    simp [hno j hj]
  rw [this]
  rfl
/-- The colours behind the first k things of the order. -/
def paint (n : Nat) (ps : List Int) (D : Nat → Nat) : Nat → List Int
  | 0 => bare n
  | k + 1 => (paint n ps D k).set (D k) (leastF (nb ps (D k)) (paint n ps D k) : Int)
theorem paint_len (n : Nat) (ps : List Int) (D : Nat → Nat) (k : Nat) : (paint n ps D k).length = n := by
  induction k with
  | zero => exact bare_len n
  | succ k ih => simp [paint, ih]
theorem paint_eq {n : Nat} {ps : List Int} {D E : Nat → Nat} {k : Nat} (h : ∀ p, p < k → D p = E p) : paint n ps D k = paint n ps E k := by
  induction k with
  | zero => rfl
  | succ k ih =>
    simp only [paint]
    rw [ih fun p hp => h p (by omega), h k (by omega)]
theorem leastF_spec {own cs : List Int} {k : Nat} (hk : k < 64) (hf : freeB own cs (k : Int) = true) :
    leastF own cs ≤ k ∧ freeB own cs (leastF own cs : Int) = true ∧ ∀ c : Nat, c < leastF own cs → freeB own cs (c : Int) = false := by
  have ex : ∀ m : Nat, freeB own cs (m : Int) = true → ∃ c, c ≤ m ∧ freeB own cs (c : Int) = true ∧ ∀ c' : Nat, c' < c → freeB own cs (c' : Int) = false := by
    intro m
    induction m using Nat.strongRecOn with
    | _ m ih =>
    intro hm
    by_cases h : ∃ c, c < m ∧ freeB own cs (c : Int) = true
    · obtain ⟨c, h1, h2⟩ := h
      obtain ⟨c', h3, h4, h5⟩ := ih c h1 h2
      exact ⟨c', by omega, h4, h5⟩
    · exact ⟨m, Nat.le_refl _, hm, fun c' hc' => Bool.eq_false_iff.2 fun e => h ⟨c', hc', e⟩⟩
  obtain ⟨c, h1, h2, h3⟩ := ex k hf
  rw [leastF_eq (show c < 64 by omega) h2 h3]
  exact ⟨h1, h2, h3⟩
/-- Behind k things no colour is as great as k: so k is free. -/
theorem paint_free {n : Nat} {ps : List Int} (hp : pairsB (n : Int) ps = true) {D : Nat → Nat} {k : Nat} (h : ∀ i : Nat, i < n → G (paint n ps D k) i < k) (x : Nat) : freeB (nb ps x) (paint n ps D k) (k : Int) = true := by
  refine freeB_iff.2 fun y hy => ?_
  have hr := nb_range hp hy
  have := h y.toNat (by omega)
  rw [Int.toNat_of_nonneg hr.1] at this
  omega
theorem paint_lt {n : Nat} {ps : List Int} (hp : pairsB (n : Int) ps = true) {D : Nat → Nat} {k : Nat} (hk : k ≤ 32) : ∀ i : Nat, i < n → G (paint n ps D k) i < k := by
  induction k with
  | zero =>
    intro i hi
    have := ((bare_bare n) i (by rw [bare_len]; exact hi)).1 (Nat.zero_le _)
    show G (bare n) i < 0
    omega
  | succ k ih =>
    intro i hi
    have ih := ih (by omega)
    have hl := (leastF_spec (show k < 64 by omega) (paint_free hp ih (D k))).1
    simp only [paint]
    by_cases e : i = D k
    · rw [← e, G_set_same (by rw [paint_len]; exact hi), e]
      omega
    · rw [G_set_other (by simpa using e)]
      have := ih i hi
      omega
/-- The least free colour of the next thing. -/
theorem paint_next {n : Nat} {ps : List Int} (hp : pairsB (n : Int) ps = true) {D : Nat → Nat} {k : Nat} (hk : k < 32) :
    leastF (nb ps (D k)) (paint n ps D k) ≤ k ∧ freeB (nb ps (D k)) (paint n ps D k) (leastF (nb ps (D k)) (paint n ps D k) : Int) = true ∧ ∀ c : Nat, c < leastF (nb ps (D k)) (paint n ps D k) → freeB (nb ps (D k)) (paint n ps D k) (c : Int) = false :=
  leastF_spec (by omega) (paint_free hp (paint_lt hp (by omega)) (D k))
/-- Who has a colour yet. -/
theorem paint_at {n : Nat} {ps : List Int} {D : Nat → Nat} (hD : InjB n D) {k : Nat} (hk : k ≤ n) : ∀ p, p < n → (p < k → 0 ≤ G (paint n ps D k) (D p)) ∧ (k ≤ p → G (paint n ps D k) (D p) = -1) := by
  induction k with
  | zero =>
    intro p hp
    refine ⟨fun h => by omega, fun _ => ?_⟩
    exact ((bare_bare n) (D p) (by rw [bare_len]; exact hD.1 p hp)).1 (Nat.zero_le _)
  | succ k ih =>
    intro p hp
    have ih := ih (by omega) p hp
    simp only [paint]
    by_cases e : D p = D k
    · have : p = k := hD.2 p k hp (by omega) e
      subst this
      rw [G_set_same (by rw [paint_len]; exact hD.1 p hp)]
      exact ⟨fun _ => by omega, fun h => by omega⟩
    · have hpk : p ≠ k := fun h => e (by rw [h])
      rw [G_set_other (by simpa using e)]
      exact ⟨fun h => ih.1 (by omega), fun h => ih.2 (by omega)⟩
end Go.Proofs.Ytpebibhnaopbnaa
