/-
  What colours are like, in plain words: for the law FnColours.
-/
import Derived.Test.YtpebibhnaopbnaaPaint
namespace Go.Proofs.Ytpebibhnaopbnaa

theorem paint_keep {n : Nat} {ps : List Int} {D : Nat → Nat} (hD : InjB n D) {p k : Nat} (hp : p < k) (d : Nat) : k + d ≤ n → G (paint n ps D (k + d)) (D p) = G (paint n ps D k) (D p) := by
  induction d with
  | zero => intro _; rfl
  | succ d ih =>
    intro h
    rw [show k + (d + 1) = (k + d) + 1 by omega]
    simp only [paint]
    have hne : D p ≠ D (k + d) := fun e => by have := hD.2 p (k + d) (by omega) (by omega) e; omega
    rw [G_set_other (by simpa using hne)]
    exact ih (by omega)
theorem paint_apart {n : Nat} (hn : n ≤ 32) {ps : List Int} (hp : pairsB (n : Int) ps = true) {D : Nat → Nat} (hD : InjB n D) {p r : Nat} (hpr : p < r) (hr : r < n) (hnb : (D p : Int) ∈ nb ps (D r : Int)) :
    G (paint n ps D n) (D p) ≠ G (paint n ps D n) (D r) := by
  obtain ⟨_, hf, _⟩ := paint_next hp (D := D) (k := r) (by omega)
  have h1 := freeB_iff.1 hf (D p : Int) hnb
  have e1 := paint_keep (ps := ps) hD hpr (n - r) (by omega)
  have e2 := paint_keep (ps := ps) hD (Nat.lt_succ_self r) (n - (r + 1)) (by omega)
  rw [show r + (n - r) = n by omega] at e1
  rw [show r + 1 + (n - (r + 1)) = n by omega] at e2
  rw [e1, e2]
  simp only [paint]
  rw [G_set_same (by rw [paint_len]; exact hD.1 r hr)]
  exact h1
theorem paint_nonneg {n : Nat} {ps : List Int} {D : Nat → Nat} (hD : InjB n D) {i : Nat} (hi : i < n) : 0 ≤ G (paint n ps D n) i := by
  obtain ⟨p, hp, rfl⟩ := inj_onto hD hi
  exact (paint_at hD (Nat.le_refl n) p hp).1 hp
/-- Two that have a pair have other colours. -/
theorem paint_proper {n : Nat} (hn : n ≤ 32) {ps : List Int} (hp : pairsB (n : Int) ps = true) {D : Nat → Nat} (hD : InjB n D) {a b : Int} (hab : a ∈ nb ps b) : G (paint n ps D n) a ≠ G (paint n ps D n) b := by
  have ha := nb_range hp hab
  have hb := nb_range hp (nb_symm hp hab)
  obtain ⟨p, hp1, e1⟩ := inj_onto hD (x := a.toNat) (by omega)
  obtain ⟨r, hr1, e2⟩ := inj_onto hD (x := b.toNat) (by omega)
  have ea : a = (D p : Int) := by omega
  have eb : b = (D r : Int) := by omega
  rw [ea, eb] at hab ⊢
  rcases Nat.lt_trichotomy p r with h | h | h
  · exact paint_apart hn hp hD h hr1 hab
  · subst h; exact absurd hab (nb_irrefl hp _)
  · exact (paint_apart hn hp hD h hp1 (nb_symm hp hab)).symm
/-- A list of colours below k in which pairs differ. -/
theorem proper_sat {n : Nat} {ps : List Int} {k : Nat} {c : List Int} (hl : c.length = n) (h : ∀ i : Nat, i < n → 0 ≤ G c i ∧ G c i < k) (hp : ∀ i : Nat, i < n → ∀ j ∈ nb ps i, G c j ≠ G c i) : Sat ps k (bare n) := by
  refine ⟨c, by rw [bare_len, hl], fun i hi => ?_⟩
  rw [bare_len] at hi
  have := ((bare_bare n) i (by rw [bare_len]; exact hi)).1 (Nat.zero_le _)
  exact ⟨fun h0 => by omega, fun _ => ⟨(h i hi).1, (h i hi).2, hp i hi⟩⟩
theorem good_step {n : Nat} {ps : List Int} (hp : pairsB (n : Int) ps = true) {most : Nat} {cs c : List Int} (hn : cs.length = n) {t : Nat} (ht : t < cs.length) (hc : G cs t < 0) {col : Int} (hcol : col ∈ chs (nb ps t) cs most) (h : Good ps most (cs.set t col) c) : Good ps most cs c := by
  obtain ⟨hl, hg⟩ := h
  obtain ⟨⟨c1, c2⟩, c3⟩ := mem_chs.1 hcol
  rw [freeB_iff] at c3
  simp only [List.length_set] at hl hg
  have ct : G c t = col := by
    have := (hg t ht).1 (by rw [G_set_same ht]; exact c1)
    rw [this, G_set_same ht]
  refine ⟨hl, fun i hi => ?_⟩
  by_cases e : i = t
  · subst e
    refine ⟨fun h => by omega, fun _ => ⟨by omega, by omega, fun j hj => ?_⟩⟩
    rw [ct]
    have hr := nb_range hp hj
    have hjt : j.toNat ≠ i := fun e => nb_irrefl hp (i : Int) (by have : j = (i : Int) := (by omega); subst this; exact hj)
    have hh := hg j.toNat (by omega)
    rw [Int.toNat_of_nonneg hr.1] at hh
    rw [G_set_other hjt] at hh
    by_cases h0 : 0 ≤ G cs j
    · rw [hh.1 h0]; exact c3 j hj
    · have := (hh.2 (by omega)).2.2 i (nb_symm hp hj)
      rw [ct] at this
      exact fun e => this e.symm
  · have hh := hg i hi
    rw [G_set_other (by simpa using e)] at hh
    exact hh
theorem first_good {n : Nat} {ps : List Int} (hp : pairsB (n : Int) ps = true) {most : Nat} (d : Nat) : ∀ {t : Nat} {cs c : List Int}, cs.length = n → t + d = cs.length → Bare t cs → first ps most d t cs = some c → Good ps most cs c := by
  induction d with
  | zero =>
    intro t cs c hn hd hb h
    simp [first] at h
    subst h
    exact ⟨rfl, fun i hi => ⟨fun _ => rfl, fun h0 => by have := (hb i hi).2 (by omega); omega⟩⟩
  | succ d ih =>
    intro t cs c hn hd hb h
    have ht : t < cs.length := by omega
    have hc : G cs t < 0 := by have := (hb t ht).1 (Nat.le_refl _); omega
    simp only [first] at h
    split at h
    · cases h
    · rename_i col hpk
      obtain ⟨h1, _⟩ := pick_some hpk
      have h3 := mem_chs.1 h1
      exact good_step hp hn ht hc h1 (ih (by simpa using hn) (by simp; omega) (hb.step ht h3.1.1) h)
theorem bare_G {n : Nat} {i : Int} (h : 0 ≤ i ∧ i ≤ (n : Int) - 1) : G (bare n) i = -1 := by
  have := ((bare_bare n) i.toNat (by rw [bare_len]; omega)).1 (Nat.zero_le _)
  rw [Int.toNat_of_nonneg h.1] at this
  exact this
/-- One colour is enough just where nothing has a pair. -/
theorem sat_one {n : Nat} {ps : List Int} (hp : pairsB (n : Int) ps = true) : Sat ps 1 (bare n) ↔ ps.length / 2 = 0 := by
  constructor
  · rintro ⟨c, hl, hg⟩
    refine Classical.byContradiction fun h0 => ?_
    obtain ⟨⟨a1, a2⟩, ⟨b1, b2⟩, _⟩ := pairs_at hp (j := 0) (by omega)
    rw [bare_len] at hg
    have hm : pB ps 0 ∈ nb ps (pA ps 0) := mem_nb.2 ⟨0, by omega, by unfold hitOf; rw [if_pos rfl]; simp⟩
    have ea : ((pA ps 0).toNat : Int) = pA ps 0 := Int.toNat_of_nonneg a1
    have eb : ((pB ps 0).toNat : Int) = pB ps 0 := Int.toNat_of_nonneg b1
    have ga := (hg (pA ps 0).toNat (by omega)).2 (by rw [ea, bare_G ⟨a1, a2⟩]; omega)
    have gb := (hg (pB ps 0).toNat (by omega)).2 (by rw [eb, bare_G ⟨b1, b2⟩]; omega)
    rw [ea] at ga
    rw [eb] at gb
    exact ga.2.2 _ hm (by omega)
  · intro h0
    refine proper_sat (c := List.replicate n 0) (by simp) (fun i hi => ?_) (fun i _ j hj => ?_)
    · have : G (List.replicate n 0) i = 0 := by simp [G, List.getD_eq_getElem?_getD, hi]
      omega
    · obtain ⟨j', hj', _⟩ := mem_nb.1 hj
      omega
/-- Colours below k that differ for pairs: so k are enough. -/
theorem paint_sat {n : Nat} (hn : n ≤ 32) {ps : List Int} (hp : pairsB (n : Int) ps = true) {D : Nat → Nat} (hD : InjB n D) {k : Nat} (hk : ∀ i : Nat, i < n → G (paint n ps D n) i < k) : Sat ps k (bare n) :=
  proper_sat (paint_len n ps D n) (fun i hi => ⟨paint_nonneg hD hi, hk i hi⟩) fun i _ j hj => paint_proper hn hp hD hj
def swapC (col x : Int) : Int := if x = 0 then col else if x = col then 0 else x
theorem swapC_inj {col x y : Int} (h : swapC col x = swapC col y) : x = y := by
  unfold swapC at h
  split at h <;> split at h <;> (try split at h) <;> (try split at h) <;> omega
theorem swapC_range {col x : Int} {k : Nat} (hc : 0 ≤ col ∧ col < k) (hx : 0 ≤ x ∧ x < k) : 0 ≤ swapC col x ∧ swapC col x < k := by
  unfold swapC
  split
  · exact hc
  · split <;> omega
theorem map_G {c : List Int} {i : Nat} (hi : i < c.length) (f : Int → Int) : G (c.map f) i = f (G c i) := by
  simp [G, List.getD_eq_getElem?_getD, hi]
/-- The first thing gets the colour 0. -/
theorem first_head {n : Nat} {ps : List Int} (hp : pairsB (n : Int) ps = true) {most : Nat} (hm : 0 < most) (h0 : 0 < n) {c : List Int} (h : first ps most n 0 (bare n) = some c) : G c 0 = 0 := by
  have hs : Sat ps most (bare n) := (first_sat (d := n) (t := 0) hp (bare_len n) (by rw [bare_len]; omega) (bare_bare n)).1 (by rw [h]; rfl)
  have hpk : pick ps most (bare n) 0 = some ((0 : Nat) : Int) := by
    refine pick_eq hm (freeB_iff.2 fun k hk => ?_) ?_ (fun c' h' => absurd h' (Nat.not_lt_zero _))
    · rw [bare_G (nb_range hp hk)]; omega
    · obtain ⟨z, hl, hg⟩ := hs
      rw [bare_len] at hl hg
      have hgi : ∀ i : Nat, i < n → 0 ≤ G z i ∧ G z i < most ∧ ∀ j ∈ nb ps i, G z j ≠ G z i := fun i hi => (hg i hi).2 (by rw [bare_G ⟨by omega, by omega⟩]; omega)
      have hz := hgi 0 h0
      refine ⟨z.map (swapC (G z (0 : Nat))), by simp [hl, bare_len], fun i hi => ?_⟩
      simp only [List.length_set, bare_len] at hi
      rw [map_G (by omega)]
      have hz2 := hgi i hi
      by_cases e : i = 0
      · subst e
        rw [G_set_same (by rw [bare_len]; exact h0)]
        refine ⟨fun _ => ?_, fun h => by omega⟩
        unfold swapC
        split
        · rename_i h; exact h
        · rw [if_pos rfl]; rfl
      · rw [G_set_other (by simpa using e), bare_G ⟨by omega, by omega⟩]
        have hr := swapC_range (col := G z (0 : Nat)) ⟨hz.1, hz.2.1⟩ ⟨hz2.1, hz2.2.1⟩
        refine ⟨fun h => by omega, fun _ => ⟨hr.1, hr.2, fun j hj => ?_⟩⟩
        have hjr := nb_range hp hj
        have hm2 := map_G (c := z) (i := j.toNat) (by omega) (swapC (G z (0 : Nat)))
        rw [Int.toNat_of_nonneg hjr.1] at hm2
        rw [hm2]
        exact fun e => hz2.2.2 j hj (swapC_inj e)
  obtain ⟨d, rfl⟩ : ∃ d, n = d + 1 := ⟨n - 1, by omega⟩
  simp only [first, hpk] at h
  obtain ⟨hl, hg⟩ := first_good hp d (by simp [bare_len]) (by simp [bare_len]; omega) ((bare_bare (d + 1)).step (by rw [bare_len]; omega) (by omega)) h
  have := (hg 0 (by simp [bare_len])).1 (by rw [G_set_same (by rw [bare_len]; omega)]; omega)
  rw [G_set_same (by rw [bare_len]; omega)] at this
  exact this
end Go.Proofs.Ytpebibhnaopbnaa
