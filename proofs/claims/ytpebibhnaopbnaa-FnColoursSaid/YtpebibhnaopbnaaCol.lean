/-
  Colours for pairs, in plain words: partners, what is free, what can still be coloured, the first list.
-/
import Derived.Test.YtpebibhnaopbnaaInts
namespace Go.Proofs.Ytpebibhnaopbnaa
open Go.RowKit

/-! ### Pairs -/
def pA (ps : List Int) (j : Nat) : Int := ps.getD (2 * j) 0
def pB (ps : List Int) (j : Nat) : Int := ps.getD (2 * j + 1) 0
def okPair (n : Int) (ps : List Int) (j : Nat) : Bool := inB (pA ps j) 0 (n - 1) && inB (pB ps j) 0 (n - 1) && pA ps j != pB ps j
def pairsB (n : Int) (ps : List Int) : Bool := decide (ps.length % 2 = 0) && decide (ps.length ≤ 2000) && (List.range (ps.length / 2)).all (okPair n ps)

/-- With whom i has a pair, of the j-th pair. -/
def hitOf (ps : List Int) (j : Nat) (i : Int) : List Int := if pA ps j = i then [pB ps j] else if pB ps j = i then [pA ps j] else []
def nbTo (ps : List Int) (k : Nat) (i : Int) : List Int := (List.range k).flatMap fun j => hitOf ps j i
def nb (ps : List Int) (i : Int) : List Int := nbTo ps (ps.length / 2) i
theorem nbTo_zero (ps : List Int) (i : Int) : nbTo ps 0 i = [] := rfl
theorem nbTo_succ (ps : List Int) (k : Nat) (i : Int) : nbTo ps (k + 1) i = nbTo ps k i ++ hitOf ps k i := by
  simp [nbTo, List.range_succ]
theorem nbTo_len (ps : List Int) (k : Nat) (i : Int) : (nbTo ps k i).length ≤ k := by
  induction k with
  | zero => simp [nbTo_zero]
  | succ k ih =>
    rw [nbTo_succ, List.length_append]
    have : (hitOf ps k i).length ≤ 1 := by unfold hitOf; split <;> (try split) <;> simp
    omega

theorem pairs_at {n : Int} {ps : List Int} (h : pairsB n ps = true) {j : Nat} (hj : j < ps.length / 2) : (0 ≤ pA ps j ∧ pA ps j ≤ n - 1) ∧ (0 ≤ pB ps j ∧ pB ps j ≤ n - 1) ∧ pA ps j ≠ pB ps j := by
  unfold pairsB at h
  simp only [Bool.and_eq_true, List.all_eq_true] at h
  have := h.2 j (by simpa using hj)
  unfold okPair at this
  simp only [Bool.and_eq_true, inB, decide_eq_true_eq, bne_iff_ne] at this
  exact ⟨this.1.1, this.1.2, this.2⟩
theorem pairs_len {n : Int} {ps : List Int} (h : pairsB n ps = true) : ps.length ≤ 2000 ∧ ps.length % 2 = 0 := by
  unfold pairsB at h
  simp only [Bool.and_eq_true, decide_eq_true_eq] at h
  exact ⟨h.1.2, h.1.1⟩

theorem mem_nb {ps : List Int} {i x : Int} : x ∈ nb ps i ↔ ∃ j, j < ps.length / 2 ∧ x ∈ hitOf ps j i := by
  simp [nb, nbTo, List.mem_flatMap]
theorem nb_range {n : Int} {ps : List Int} (h : pairsB n ps = true) {i x : Int} (hx : x ∈ nb ps i) : 0 ≤ x ∧ x ≤ n - 1 := by
  obtain ⟨j, hj, hx⟩ := mem_nb.1 hx
  obtain ⟨h1, h2, _⟩ := pairs_at h hj
  unfold hitOf at hx
  split at hx
  · simp at hx; omega
  · split at hx
    · simp at hx; omega
    · simp at hx
theorem nb_symm {n : Int} {ps : List Int} (h : pairsB n ps = true) {i x : Int} (hx : x ∈ nb ps i) : i ∈ nb ps x := by
  obtain ⟨j, hj, hx⟩ := mem_nb.1 hx
  obtain ⟨_, _, h3⟩ := pairs_at h hj
  refine mem_nb.2 ⟨j, hj, ?_⟩
  unfold hitOf at hx ⊢
  split at hx
  · rename_i e
    simp at hx
    rw [if_neg (by omega), if_pos hx.symm, e]
    simp
  · split at hx
    · rename_i e
      simp at hx
      rw [if_pos hx.symm, e]
      simp
    · simp at hx
theorem nb_irrefl {n : Int} {ps : List Int} (h : pairsB n ps = true) (i : Int) : i ∉ nb ps i := by
  intro hx
  obtain ⟨j, hj, hx⟩ := mem_nb.1 hx
  obtain ⟨_, _, h3⟩ := pairs_at h hj
  unfold hitOf at hx
  split at hx
  · simp at hx; omega
  · split at hx
    · simp at hx; omega
    · simp at hx

/-! ### Free colours -/
/-- The colour of i. -/
def G (cs : List Int) (i : Int) : Int := cs.getD i.toNat 0
theorem G_nat (cs : List Int) (k : Nat) : G cs (k : Int) = cs.getD k 0 := by simp [G]
theorem G_set_same {cs : List Int} {k : Nat} (h : k < cs.length) (v : Int) : G (cs.set k v) (k : Int) = v := by simp [G, List.getD_eq_getElem?_getD, h]
theorem G_set_other {cs : List Int} {k : Nat} {i : Int} (h : i.toNat ≠ k) (v : Int) : G (cs.set k v) i = G cs i := by
  simp only [G, List.getD_eq_getElem?_getD]
  rw [List.getElem?_set_ne (Ne.symm h)]
def freeB (own cs : List Int) (col : Int) : Bool := own.all fun k => G cs k != col
theorem freeB_iff {own cs : List Int} {col : Int} : freeB own cs col = true ↔ ∀ k ∈ own, G cs k ≠ col := by simp [freeB]
def upTo (k : Nat) : List Int := (List.range k).map fun i : Nat => (i : Int)
theorem upTo_succ (k : Nat) : upTo (k + 1) = upTo k ++ [(k : Int)] := by simp [upTo, List.range_succ]
theorem mem_upTo {k : Nat} {x : Int} : x ∈ upTo k ↔ 0 ≤ x ∧ x < k := by
  simp only [upTo, List.mem_map, List.mem_range]
  constructor
  · rintro ⟨a, h, rfl⟩; omega
  · intro h; exact ⟨x.toNat, by omega, by omega⟩
/-- The colours that are free. -/
def chs (own cs : List Int) (k : Nat) : List Int := (upTo k).filter (freeB own cs)
theorem chs_zero (own cs : List Int) : chs own cs 0 = [] := rfl
theorem chs_succ (own cs : List Int) (k : Nat) : chs own cs (k + 1) = chs own cs k ++ (if freeB own cs k = true then [(k : Int)] else []) := by
  unfold chs
  rw [upTo_succ, List.filter_append]
  congr 1
  simp only [List.filter]
  split <;> simp_all
theorem mem_chs {own cs : List Int} {k : Nat} {x : Int} : x ∈ chs own cs k ↔ (0 ≤ x ∧ x < k) ∧ freeB own cs x = true := by simp [chs, mem_upTo]
theorem chs_len (own cs : List Int) (k : Nat) : (chs own cs k).length ≤ k := by
  unfold chs
  refine Nat.le_trans (List.length_filter_le _ _) ?_
  simp [upTo]

/-! ### Whether all can still be coloured -/
def Good (ps : List Int) (most : Nat) (cs c : List Int) : Prop :=
  c.length = cs.length ∧ ∀ i : Nat, i < cs.length → (0 ≤ G cs i → G c i = G cs i) ∧ (G cs i < 0 → 0 ≤ G c i ∧ G c i < most ∧ ∀ j ∈ nb ps i, G c j ≠ G c i)
def Sat (ps : List Int) (most : Nat) (cs : List Int) : Prop := ∃ c, Good ps most cs c
/-- How many have no colour. -/
def unc (cs : List Int) : Nat := (cs.filter fun c => decide (c < 0)).length

theorem unc_set {cs : List Int} {t : Nat} (ht : t < cs.length) (hn : G cs t < 0) {v : Int} (hv : 0 ≤ v) : unc (cs.set t v) + 1 = unc cs := by
  induction cs generalizing t with
  | nil => simp at ht
  | cons a r ih =>
    cases t with
    | zero =>
      simp [G] at hn
      simp [unc, List.filter, hn]
      rw [show decide (v < 0) = false by simp; omega]
    | succ t =>
      have h1 := ih (t := t) (by simpa using ht) (by simpa [G] using hn)
      unfold unc at h1 ⊢
      rw [List.set_cons_succ, List.filter_cons, List.filter_cons]
      split
      · simp only [List.length_cons]; omega
      · exact h1

theorem sat_done {ps : List Int} {most : Nat} {cs : List Int} (h : ∀ i : Nat, i < cs.length → 0 ≤ G cs i) : Sat ps most cs :=
  ⟨cs, rfl, fun i hi => ⟨fun _ => rfl, fun hn => by have := h i hi; omega⟩⟩

theorem sat_step {n : Nat} {ps : List Int} (hp : pairsB (n : Int) ps = true) {most : Nat} {cs : List Int} (hn : cs.length = n) {t : Nat} (ht : t < cs.length) (hc : G cs t < 0) :
    Sat ps most cs ↔ ∃ col ∈ chs (nb ps t) cs most, Sat ps most (cs.set t col) := by
  constructor
  · rintro ⟨c, hl, hg⟩
    obtain ⟨g1, g2, g3⟩ := (hg t ht).2 hc
    refine ⟨G c t, mem_chs.2 ⟨⟨g1, g2⟩, freeB_iff.2 fun k hk => ?_⟩, c, by simpa using hl, fun i hi => ?_⟩
    · have hr := nb_range hp hk
      by_cases h0 : 0 ≤ G cs k
      · have := (hg k.toNat (by omega)).1 (by rw [Int.toNat_of_nonneg hr.1]; exact h0)
        rw [Int.toNat_of_nonneg hr.1] at this
        rw [← this]
        exact g3 k hk
      · omega
    · simp only [List.length_set] at hi
      by_cases e : i = t
      · subst e
        rw [G_set_same ht]
        exact ⟨fun _ => rfl, fun h => by omega⟩
      · rw [G_set_other (by simpa using e)]
        exact hg i hi
  · rintro ⟨col, hcol, c, hl, hg⟩
    obtain ⟨⟨c1, c2⟩, c3⟩ := mem_chs.1 hcol
    rw [freeB_iff] at c3
    simp only [List.length_set] at hl hg
    have ct : G c t = col := by
      have := (hg t ht).1 (by rw [G_set_same ht]; exact c1)
      rw [this, G_set_same ht]
    refine ⟨c, hl, fun i hi => ?_⟩
    by_cases e : i = t
    · subst e
      refine ⟨fun h => by omega, fun _ => ⟨by omega, by omega, fun j hj => ?_⟩⟩
      rw [ct]
      have hr := nb_range hp hj
      have hjt : j.toNat ≠ i := fun e => nb_irrefl hp (i : Int) (by have : j = (i : Int) := (by omega); subst this; exact hj)
      have hh := hg j.toNat (by omega)
      rw [Int.toNat_of_nonneg hr.1] at hh
      rw [G_set_other hjt] at hh
      by_cases h0 : 0 ≤ G cs j
      · rw [hh.1 h0]; exact c3 j hj
      · have := (hh.2 (by omega)).2.2 i (nb_symm hp hj)
        rw [ct] at this
        exact fun e => this e.symm
    · have hh := hg i hi
      rw [G_set_other (by simpa using e)] at hh
      exact hh

/-! ### The first list -/
open Classical in
/-- The first colour with which all can still be coloured. -/
noncomputable def pick (ps : List Int) (most : Nat) (cs : List Int) (t : Nat) : Option Int := (chs (nb ps t) cs most).find? fun col => decide (Sat ps most (cs.set t col))
/-- From t on, d things. -/
noncomputable def first (ps : List Int) (most : Nat) : Nat → Nat → List Int → Option (List Int)
  | 0, _, cs => some cs
  | d + 1, t, cs => match pick ps most cs t with
    | none => none
    | some col => first ps most d (t + 1) (cs.set t col)

theorem pick_none {n : Nat} {ps : List Int} (hp : pairsB (n : Int) ps = true) {most : Nat} {cs : List Int} (hn : cs.length = n) {t : Nat} (ht : t < cs.length) (hc : G cs t < 0) :
    pick ps most cs t = none ↔ ¬ Sat ps most cs := by
  unfold pick
  rw [List.find?_eq_none, sat_step hp hn ht hc]
  simp
theorem pick_some {ps : List Int} {most : Nat} {cs : List Int} {t : Nat} {col : Int} (h : pick ps most cs t = some col) : col ∈ chs (nb ps t) cs most ∧ Sat ps most (cs.set t col) := by
  unfold pick at h
  exact ⟨List.mem_of_find?_eq_some h, by have := List.find?_some h; simpa using this⟩
open Classical in
theorem find_chs {own cs : List Int} {S : Int → Bool} {c : Nat} (hf : freeB own cs c = true) (hs : S c = true) (hno : ∀ c' : Nat, c' < c → freeB own cs c' = true → S c' = false) (k : Nat) :
    (chs own cs k).find? S = if c < k then some (c : Int) else none := by
  induction k with
  | zero => simp [chs_zero]
  | succ k ih =>
    rw [chs_succ, List.find?_append, ih]
    by_cases h1 : c < k
    · rw [if_pos h1, if_pos (show c < k + 1 by omega)]; rfl
    · rw [if_neg h1]
      by_cases h2 : c = k
      · subst h2
        rw [if_pos hf, if_pos (Nat.lt_succ_self c)]
        simp [hs]
      · rw [if_neg (show ¬ c < k + 1 by omega)]
        by_cases hfk : freeB own cs (k : Int) = true
        · rw [if_pos hfk]
          simp [hno k (by omega) hfk]
        · rw [if_neg hfk]; rfl
theorem pick_eq {ps : List Int} {most : Nat} {cs : List Int} {t c : Nat} (hc : c < most) (hf : freeB (nb ps t) cs c = true) (hs : Sat ps most (cs.set t c))
    (hno : ∀ c' : Nat, c' < c → freeB (nb ps t) cs c' = true → ¬ Sat ps most (cs.set t c')) : pick ps most cs t = some (c : Int) := by
  unfold pick
  rw [find_chs hf (by simpa using hs) (fun c' h1 h2 => by simpa using hno c' h1 h2), if_pos hc]
theorem pick_no {ps : List Int} {most : Nat} {cs : List Int} {t : Nat} (hno : ∀ c' : Nat, c' < most → freeB (nb ps t) cs c' = true → ¬ Sat ps most (cs.set t c')) : pick ps most cs t = none := by
  unfold pick
  rw [List.find?_eq_none]
  intro x hx
  obtain ⟨⟨h1, h2⟩, h3⟩ := mem_chs.1 hx
  obtain ⟨xn, rfl⟩ : ∃ xn : Nat, x = (xn : Int) := ⟨x.toNat, by omega⟩
  simpa using hno xn (by omega) h3
/-- All from t on have no colour. -/
def Bare (t : Nat) (cs : List Int) : Prop := (∀ i : Nat, i < cs.length → (t ≤ i → G cs i = -1) ∧ (i < t → 0 ≤ G cs i))
theorem Bare.step {t : Nat} {cs : List Int} (h : Bare t cs) (ht : t < cs.length) {col : Int} (hc : 0 ≤ col) : Bare (t + 1) (cs.set t col) := by
  intro i hi
  simp only [List.length_set] at hi
  by_cases e : i = t
  · subst e
    rw [G_set_same ht]
    exact ⟨fun h => by omega, fun _ => hc⟩
  · rw [G_set_other (by simpa using e)]
    exact ⟨fun h1 => (h i hi).1 (by omega), fun h1 => (h i hi).2 (by omega)⟩
theorem first_some {n : Nat} {ps : List Int} (hp : pairsB (n : Int) ps = true) {most : Nat} (d : Nat) : ∀ {t : Nat} {cs : List Int}, cs.length = n → t + d = cs.length → Bare t cs → Sat ps most cs → ∃ c, first ps most d t cs = some c := by
  induction d with
  | zero => intro t cs _ _ _ _; exact ⟨cs, rfl⟩
  | succ d ih =>
    intro t cs hn hd hb hs
    have ht : t < cs.length := by omega
    have hc : G cs t < 0 := by have := (hb t ht).1 (Nat.le_refl _); omega
    cases hpk : pick ps most cs t with
    | none => exact absurd hs ((pick_none hp hn ht hc).1 hpk)
    | some col =>
      obtain ⟨h1, h2⟩ := pick_some hpk
      have h3 := mem_chs.1 h1
      simp only [first, hpk]
      exact ih (by simpa using hn) (by simp; omega) (hb.step ht h3.1.1) h2
theorem first_none {n : Nat} {ps : List Int} (hp : pairsB (n : Int) ps = true) {most : Nat} {d t : Nat} {cs : List Int} (hn : cs.length = n) (ht : t < cs.length) (hc : G cs t < 0) (hs : ¬ Sat ps most cs) : first ps most (d + 1) t cs = none := by
  simp only [first, (pick_none hp hn ht hc).2 hs]
theorem first_sat {n : Nat} {ps : List Int} (hp : pairsB (n : Int) ps = true) {most : Nat} {d t : Nat} {cs : List Int} (hn : cs.length = n) (hd : t + d = cs.length) (hb : Bare t cs) : (first ps most d t cs).isSome = true ↔ Sat ps most cs := by
  constructor
  · intro h
    cases d with
    | zero => exact sat_done fun i hi => (hb i hi).2 (by omega)
    | succ d =>
      refine Classical.byContradiction fun hs => ?_
      have ht : t < cs.length := by omega
      have hc : G cs t < 0 := by have := (hb t ht).1 (Nat.le_refl _); omega
      rw [first_none hp hn ht hc hs] at h
      simp at h
  · intro hs
    obtain ⟨c, e⟩ := first_some hp d hn hd hb hs
    rw [e]; rfl
end Go.Proofs.Ytpebibhnaopbnaa
