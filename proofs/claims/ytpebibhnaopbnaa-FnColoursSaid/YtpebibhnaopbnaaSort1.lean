/-
  A stable sort, in plain words: what the steps of Go's sort do to the numbers of a row.
-/
import Derived.Test.YtpebibhnaopbnaaInts
namespace Go.Proofs.Ytpebibhnaopbnaa

/-- Two numbers of a row change places. -/
def swp (D : Nat → Nat) (i j : Nat) : Nat → Nat := fun p => if p = i then D j else if p = j then D i else D p
/-- The row holds each number below n once. -/
def InjB (n : Nat) (D : Nat → Nat) : Prop := (∀ i, i < n → D i < n) ∧ (∀ i j, i < n → j < n → D i = D j → i = j)
theorem InjB.swp {n i j : Nat} {D : Nat → Nat} (h : InjB n D) (hi : i < n) (hj : j < n) : InjB n (swp D i j) := by
  obtain ⟨h1, h2⟩ := h
  refine ⟨fun p hp => ?_, fun p q hp hq e => ?_⟩
  · unfold Go.Proofs.Ytpebibhnaopbnaa.swp
    split
    · exact h1 j hj
    · split
      · exact h1 i hi
      · exact h1 p hp
  · unfold Go.Proofs.Ytpebibhnaopbnaa.swp at e
    have a1 := h2 j q hj hq
    have a2 := h2 i q hi hq
    have a3 := h2 p j hp hj
    have a4 := h2 p i hp hi
    have a5 := h2 p q hp hq
    have a6 := h2 j i hj hi
    have a7 := h2 i j hi hj
    split at e <;> split at e <;> (try split at e) <;> (try split at e) <;> first | omega | (have := a1 e; omega) | (have := a2 e; omega) | (have := a3 e; omega) | (have := a4 e; omega) | (exact a5 e) | (have := a6 e; omega) | (have := a7 e; omega)
/-- Between a and b the numbers may have changed places; elsewhere nothing has. -/
def Turned (n a b : Nat) (D D' : Nat → Nat) : Prop :=
  (∀ p, a ≤ p → p < b → ∃ p', a ≤ p' ∧ p' < b ∧ D' p = D p') ∧ (∀ p, p < a ∨ b ≤ p → D' p = D p) ∧ (InjB n D → InjB n D')
theorem Turned.refl (n a b : Nat) (D : Nat → Nat) : Turned n a b D D := ⟨fun p h1 h2 => ⟨p, h1, h2, rfl⟩, fun _ _ => rfl, id⟩
theorem Turned.trans {n a b : Nat} {D D' D'' : Nat → Nat} (h : Turned n a b D D') (k : Turned n a b D' D'') : Turned n a b D D'' := by
  refine ⟨fun p h1 h2 => ?_, fun p hp => (k.2.1 p hp).trans (h.2.1 p hp), fun hi => k.2.2 (h.2.2 hi)⟩
  obtain ⟨q, q1, q2, e⟩ := k.1 p h1 h2
  obtain ⟨r, r1, r2, e2⟩ := h.1 q q1 q2
  exact ⟨r, r1, r2, e.trans e2⟩
theorem Turned.mono {n a b a' b' : Nat} {D D' : Nat → Nat} (h : Turned n a b D D') (ha : a' ≤ a) (hb : b ≤ b') : Turned n a' b' D D' := by
  refine ⟨fun p h1 h2 => ?_, fun p hp => h.2.1 p (by omega), h.2.2⟩
  by_cases hp : a ≤ p ∧ p < b
  · obtain ⟨q, q1, q2, e⟩ := h.1 p hp.1 hp.2
    exact ⟨q, by omega, by omega, e⟩
  · exact ⟨p, h1, h2, h.2.1 p (by omega)⟩
theorem Turned.swp {n a b i j : Nat} (D : Nat → Nat) (hb : b ≤ n) (hi : a ≤ i ∧ i < b) (hj : a ≤ j ∧ j < b) : Turned n a b D (swp D i j) := by
  refine ⟨fun p h1 h2 => ?_, fun p hp => ?_, fun h => h.swp (by omega) (by omega)⟩
  · unfold Go.Proofs.Ytpebibhnaopbnaa.swp
    split
    · exact ⟨j, hj.1, hj.2, rfl⟩
    · split
      · exact ⟨i, hi.1, hi.2, rfl⟩
      · exact ⟨p, h1, h2, rfl⟩
  · unfold Go.Proofs.Ytpebibhnaopbnaa.swp
    rw [if_neg (by omega), if_neg (by omega)]

/-- The order: the greater degree first, of equal ones the lesser number. -/
def lt' (dg : Nat → Nat) (x y : Nat) : Prop := dg y < dg x ∨ (dg x = dg y ∧ x < y)
theorem lt'_trans {dg : Nat → Nat} {x y z : Nat} (h : lt' dg x y) (k : lt' dg y z) : lt' dg x z := by unfold lt' at *; omega
def SortedOn (dg : Nat → Nat) (D : Nat → Nat) (a b : Nat) : Prop := ∀ p q, a ≤ p → p < q → q < b → lt' dg (D p) (D q)
def Cross (D : Nat → Nat) (a m b : Nat) : Prop := ∀ p q, a ≤ p → p < m → m ≤ q → q < b → D p < D q

/-! ### Insertion sort -/
/-- The prefix up to i is sorted, all that comes behind it is greater and ascending. -/
def OutI (dg D : Nat → Nat) (a i b : Nat) : Prop := SortedOn dg D a i ∧ ∀ p q, a ≤ p → p < q → i ≤ q → q < b → D p < D q
/-- The number at j is on its way down. -/
def InI (dg D : Nat → Nat) (a i j b : Nat) : Prop :=
  (∀ p q, a ≤ p → p < q → q ≤ i → p ≠ j → q ≠ j → lt' dg (D p) (D q)) ∧ (∀ q, j < q → q ≤ i → lt' dg (D j) (D q)) ∧ (∀ p, a ≤ p → p ≤ i → p ≠ j → D p < D j) ∧
  (∀ p q, a ≤ p → p < q → i + 1 ≤ q → q < b → D p < D q)
theorem OutI.start {dg D : Nat → Nat} {a i b : Nat} (h : OutI dg D a i b) (hi : i < b) : InI dg D a i i b :=
  ⟨fun p q h1 h2 h3 h4 h5 => h.1 p q h1 h2 (by omega), fun q h1 h2 => by omega, fun p h1 h2 h3 => h.2 p i h1 (by omega) (Nat.le_refl _) hi, fun p q h1 h2 h3 h4 => h.2 p q h1 h2 (by omega) h4⟩
theorem InI.step {dg D : Nat → Nat} {a i j b : Nat} (h : InI dg D a i j b) (hj : a < j) (hji : j ≤ i) (hd : dg (D (j - 1)) < dg (D j)) : InI dg (swp D j (j - 1)) a i (j - 1) b := by
  obtain ⟨h1, h2, h3, h4⟩ := h
  refine ⟨fun p q a1 a2 a3 a4 a5 => ?_, fun q a1 a2 => ?_, fun p a1 a2 a3 => ?_, fun p q a1 a2 a3 a4 => ?_⟩
  · unfold swp
    rw [if_neg a4, if_neg a5]
    by_cases e1 : p = j
    · rw [if_pos e1, if_neg (by omega)]
      exact h1 (j - 1) q (by omega) (by omega) a3 (by omega) (by omega)
    · rw [if_neg e1]
      by_cases e2 : q = j
      · rw [if_pos e2]
        exact h1 p (j - 1) a1 (by omega) (by omega) e1 (by omega)
      · rw [if_neg e2]
        exact h1 p q a1 a2 a3 e1 e2
  · unfold swp
    rw [if_neg (show ¬ j - 1 = j by omega), if_pos rfl]
    by_cases e : q = j
    · rw [if_pos e]; exact .inl hd
    · rw [if_neg e, if_neg (by omega)]
      exact h2 q (by omega) a2
  · unfold swp
    rw [if_neg (show ¬ j - 1 = j by omega), if_pos rfl]
    by_cases e : p = j
    · rw [if_pos e]; exact h3 (j - 1) (by omega) (by omega) (by omega)
    · rw [if_neg e, if_neg a3]
      exact h3 p a1 a2 e
  · have hq : ∀ r, i + 1 ≤ r → swp D j (j - 1) r = D r := fun r hr => by unfold swp; rw [if_neg (by omega), if_neg (by omega)]
    rw [hq q a3]
    by_cases e : i + 1 ≤ p
    · rw [hq p e]; exact h4 p q a1 a2 a3 a4
    · unfold swp
      split
      · exact h4 (j - 1) q (by omega) (by omega) a3 a4
      · split
        · exact h4 j q (by omega) (by omega) a3 a4
        · exact h4 p q a1 a2 a3 a4
theorem InI.stop {dg D : Nat → Nat} {a i j b : Nat} (h : InI dg D a i j b) (hja : a ≤ j) (hji : j ≤ i) (hd : j = a ∨ ¬ dg (D (j - 1)) < dg (D j)) : OutI dg D a (i + 1) b := by
  obtain ⟨h1, h2, h3, h4⟩ := h
  refine ⟨fun p q a1 a2 a3 => ?_, h4⟩
  by_cases e1 : p = j
  · subst e1; exact h2 q a2 (by omega)
  · by_cases e2 : q = j
    · subst e2
      have hl : lt' dg (D (q - 1)) (D q) := by
        have := h3 (q - 1) (by omega) (by omega) (by omega)
        unfold lt'
        omega
      by_cases e3 : p = q - 1
      · rw [e3]; exact hl
      · exact lt'_trans (h1 p (q - 1) a1 (by omega) (by omega) e1 (by omega)) hl
    · exact h1 p q a1 a2 (by omega) e1 e2

/-! ### Shifts and rotations -/
def shl (D : Nat → Nat) (a k : Nat) : Nat → Nat := fun p => if a ≤ p ∧ p < k then D (p + 1) else if p = k then D a else D p
def shr (D : Nat → Nat) (m k : Nat) : Nat → Nat := fun p => if k < p ∧ p ≤ m then D (p - 1) else if p = k then D m else D p
def rot (D : Nat → Nat) (s m e : Nat) : Nat → Nat := fun p => if s ≤ p ∧ p < s + (e - m) then D (p + (m - s)) else if s + (e - m) ≤ p ∧ p < e then D (p - (e - m)) else D p
theorem shl_zero (D : Nat → Nat) (a : Nat) : shl D a a = D := by
  funext p; unfold shl; rw [if_neg (by omega)]; split <;> simp_all
theorem shr_zero (D : Nat → Nat) (m : Nat) : shr D m m = D := by
  funext p; unfold shr; rw [if_neg (by omega)]; split <;> simp_all
theorem shl_step (D : Nat → Nat) {a k : Nat} (h : a ≤ k) : swp (shl D a k) k (k + 1) = shl D a (k + 1) := by
  funext p
  unfold swp shl
  by_cases e1 : p = k
  · subst e1
    rw [if_pos rfl, if_neg (by omega), if_neg (by omega), if_pos (by omega)]
  · rw [if_neg e1]
    by_cases e2 : p = k + 1
    · subst e2
      rw [if_pos rfl, if_neg (by omega), if_pos rfl, if_neg (by omega), if_pos rfl]
    · rw [if_neg e2, if_neg e1, if_neg e2]
      by_cases e3 : a ≤ p ∧ p < k
      · rw [if_pos e3, if_pos (by omega)]
      · rw [if_neg e3, if_neg (by omega)]
theorem shr_step (D : Nat → Nat) {m k : Nat} (h : k ≤ m) (h0 : 1 ≤ k) : swp (shr D m k) k (k - 1) = shr D m (k - 1) := by
  funext p
  unfold swp shr
  by_cases e1 : p = k
  · subst e1
    rw [if_pos rfl, if_neg (by omega), if_neg (by omega), if_pos (by omega)]
  · rw [if_neg e1]
    by_cases e2 : p = k - 1
    · subst e2
      rw [if_pos rfl, if_neg (by omega), if_pos rfl, if_neg (by omega), if_pos rfl]
    · rw [if_neg e2, if_neg e1, if_neg e2]
      by_cases e3 : k < p ∧ p ≤ m
      · rw [if_pos e3, if_pos (by omega)]
      · rw [if_neg e3, if_neg (by omega)]

/-- Two stretches of length k that do not meet have changed places, the first j of them. -/
def swr (D : Nat → Nat) (x y j : Nat) : Nat → Nat := fun p => if x ≤ p ∧ p < x + j then D (p - x + y) else if y ≤ p ∧ p < y + j then D (p - y + x) else D p
theorem swr_zero (D : Nat → Nat) (x y : Nat) : swr D x y 0 = D := by funext p; unfold swr; rw [if_neg (by omega), if_neg (by omega)]
theorem swr_step (D : Nat → Nat) {x y j : Nat} (h : x + j < y) : swp (swr D x y j) (x + j) (y + j) = swr D x y (j + 1) := by
  funext p
  unfold swp swr
  by_cases e1 : p = x + j
  · subst e1
    rw [if_pos rfl, if_neg (by omega), if_neg (by omega), if_pos (by omega), show x + j - x + y = y + j by omega]
  · rw [if_neg e1]
    by_cases e2 : p = y + j
    · subst e2
      rw [if_pos rfl, if_neg (by omega), if_neg (by omega), if_neg (by omega), if_pos (by omega), show y + j - y + x = x + j by omega]
    · rw [if_neg e2]
      by_cases e3 : x ≤ p ∧ p < x + j
      · rw [if_pos e3, if_pos (by omega)]
      · rw [if_neg e3, if_neg (show ¬ (x ≤ p ∧ p < x + (j + 1)) by omega)]
        by_cases e4 : y ≤ p ∧ p < y + j
        · rw [if_pos e4, if_pos (by omega)]
        · rw [if_neg e4, if_neg (by omega)]

/-- While a stretch is rotated: T is what it will be; i and j are the lengths that are left, on both sides of m. -/
def RotI (T D : Nat → Nat) (m i j : Nat) : Prop :=
  (∀ p, p < m - i ∨ m + j ≤ p → D p = T p) ∧ (∀ p, m - i ≤ p → p < m - i + j → T p = D (p + i)) ∧ (∀ p, m - i + j ≤ p → p < m + j → T p = D (p - j))
theorem RotI.start (D : Nat → Nat) {s m e : Nat} (h1 : s ≤ m) (h2 : m ≤ e) : RotI (rot D s m e) D m (m - s) (e - m) := by
  refine ⟨fun p hp => ?_, fun p a1 a2 => ?_, fun p a1 a2 => ?_⟩
  · unfold rot; rw [if_neg (by omega), if_neg (by omega)]
  · unfold rot; rw [if_pos (by omega)]
  · unfold rot; rw [if_neg (by omega), if_pos (by omega)]
theorem RotI.left {T D : Nat → Nat} {m i j : Nat} (h : RotI T D m i j) (him : i ≤ m) (hij : j < i) : RotI T (swr D (m - i) m j) m (i - j) j := by
  obtain ⟨h1, h2, h3⟩ := h
  refine ⟨fun p hp => ?_, fun p a1 a2 => ?_, fun p a1 a2 => ?_⟩
  · by_cases e : m - i ≤ p ∧ p < m - i + j
    · rw [h2 p e.1 e.2]
      unfold swr
      rw [if_pos e, show p - (m - i) + m = p + i by omega]
    · unfold swr
      rw [if_neg e, if_neg (by omega)]
      exact h1 p (by omega)
  · rw [h3 p (by omega) (by omega)]
    unfold swr
    rw [if_neg (by omega), if_pos (by omega), show p + (i - j) - m + (m - i) = p - j by omega]
  · rw [h3 p (by omega) (by omega)]
    unfold swr
    rw [if_neg (by omega), if_neg (by omega)]
theorem RotI.right {T D : Nat → Nat} {m i j : Nat} (h : RotI T D m i j) (him : i ≤ m) (hij : i < j) : RotI T (swr D (m - i) (m + j - i) i) m i (j - i) := by
  obtain ⟨h1, h2, h3⟩ := h
  refine ⟨fun p hp => ?_, fun p a1 a2 => ?_, fun p a1 a2 => ?_⟩
  · by_cases e : m + j - i ≤ p ∧ p < m + j - i + i
    · rw [h3 p (by omega) (by omega)]
      unfold swr
      rw [if_neg (by omega), if_pos e, show p - (m + j - i) + (m - i) = p - j by omega]
    · unfold swr
      rw [if_neg (by omega), if_neg e]
      exact h1 p (by omega)
  · rw [h2 p (by omega) (by omega)]
    unfold swr
    rw [if_neg (by omega), if_neg (by omega)]
  · rw [h2 p (by omega) (by omega)]
    unfold swr
    rw [if_pos (by omega), show p - (j - i) - (m - i) + (m + j - i) = p + i by omega]
theorem RotI.stop {T D : Nat → Nat} {m i : Nat} (h : RotI T D m i i) (him : i ≤ m) : swr D (m - i) m i = T := by
  obtain ⟨h1, h2, h3⟩ := h
  funext p
  unfold swr
  by_cases e1 : m - i ≤ p ∧ p < m - i + i
  · rw [if_pos e1, h2 p e1.1 e1.2, show p - (m - i) + m = p + i by omega]
  · rw [if_neg e1]
    by_cases e2 : m ≤ p ∧ p < m + i
    · rw [if_pos e2, h3 p (by omega) (by omega), show p - m + (m - i) = p - i by omega]
    · rw [if_neg e2]
      exact h1 p (by omega)

/-! ### Merging -/
theorem merge_one_left {dg D : Nat → Nat} {a i b : Nat} (h2 : SortedOn dg D (a + 1) b) (hc : Cross D a (a + 1) b) (hi : a + 1 ≤ i) (hib : i ≤ b)
    (e1 : i = a + 1 ∨ dg (D a) < dg (D (i - 1))) (e2 : i = b ∨ ¬ dg (D a) < dg (D i)) : SortedOn dg (shl D a (i - 1)) a b := by
  have low : ∀ p, a + 1 ≤ p → p < i → lt' dg (D p) (D a) := fun p p1 p2 => by
    have hl : lt' dg (D (i - 1)) (D a) := by
      rcases e1 with e1 | e1
      · omega
      · exact .inl e1
    by_cases e : p = i - 1
    · rw [e]; exact hl
    · exact lt'_trans (h2 p (i - 1) p1 (by omega) (by omega)) hl
  have high : ∀ q, i ≤ q → q < b → lt' dg (D a) (D q) := fun q q1 q2 => by
    have hl : lt' dg (D a) (D i) := by
      rcases e2 with e2 | e2
      · omega
      · have := hc a i (Nat.le_refl _) (by omega) hi (by omega)
        unfold lt'
        omega
    by_cases e : q = i
    · rw [e]; exact hl
    · exact lt'_trans hl (h2 i q hi (by omega) q2)
  intro p q p1 p2 q1
  unfold shl
  by_cases c1 : a ≤ p ∧ p < i - 1
  · rw [if_pos c1]
    by_cases c2 : a ≤ q ∧ q < i - 1
    · rw [if_pos c2]; exact h2 (p + 1) (q + 1) (by omega) (by omega) (by omega)
    · rw [if_neg c2]
      by_cases c3 : q = i - 1
      · rw [if_pos c3]; exact low (p + 1) (by omega) (by omega)
      · rw [if_neg c3]; exact h2 (p + 1) q (by omega) (by omega) q1
  · rw [if_neg c1]
    by_cases c4 : p = i - 1
    · rw [if_pos c4, if_neg (by omega), if_neg (by omega)]
      exact high q (by omega) q1
    · rw [if_neg c4, if_neg (by omega), if_neg (by omega)]
      exact h2 p q (by omega) p2 q1
theorem merge_one_right {dg D : Nat → Nat} {a i m : Nat} (h1 : SortedOn dg D a m) (hc : Cross D a m (m + 1)) (hi : a ≤ i) (him : i ≤ m)
    (e1 : i = a ∨ ¬ dg (D (i - 1)) < dg (D m)) (e2 : i = m ∨ dg (D i) < dg (D m)) : SortedOn dg (shr D m i) a (m + 1) := by
  have low : ∀ p, a ≤ p → p < i → lt' dg (D p) (D m) := fun p p1 p2 => by
    have hl : lt' dg (D (i - 1)) (D m) := by
      rcases e1 with e1 | e1
      · omega
      · have := hc (i - 1) m (by omega) (by omega) (Nat.le_refl _) (by omega)
        unfold lt'
        omega
    by_cases e : p = i - 1
    · rw [e]; exact hl
    · exact lt'_trans (h1 p (i - 1) p1 (by omega) (by omega)) hl
  have high : ∀ q, i ≤ q → q < m → lt' dg (D m) (D q) := fun q q1 q2 => by
    have hl : lt' dg (D m) (D i) := by
      rcases e2 with e2 | e2
      · omega
      · exact .inl e2
    by_cases e : q = i
    · rw [e]; exact hl
    · exact lt'_trans hl (h1 i q hi (by omega) q2)
  intro p q p1 p2 q1
  unfold shr
  by_cases c1 : i < p ∧ p ≤ m
  · rw [if_pos c1, if_pos (by omega)]
    exact h1 (p - 1) (q - 1) (by omega) (by omega) (by omega)
  · rw [if_neg c1]
    by_cases c2 : p = i
    · rw [if_pos c2, if_pos (by omega)]
      exact high (q - 1) (by omega) (by omega)
    · rw [if_neg c2]
      by_cases c3 : i < q ∧ q ≤ m
      · rw [if_pos c3]; exact h1 p (q - 1) p1 (by omega) (by omega)
      · rw [if_neg c3]
        by_cases c4 : q = i
        · rw [if_pos c4]; exact low p p1 (by omega)
        · rw [if_neg c4]; exact h1 p q p1 p2 (by omega)

/-- The middle of a merge: where it is parted. -/
structure Mid (a m b mid s e : Nat) : Prop where
  am : a ≤ s
  sm : s ≤ m
  smid : s ≤ mid
  me : m ≤ e
  eb : e ≤ b
  sum : s + e = mid + m
theorem mid_bounds {a m b mid s0 r0 s : Nat} (hm : mid = (a + b) / 2) (h1 : a ≤ m) (h2 : m ≤ b) (h0 : (mid < m ∧ s0 = mid + m - b ∧ r0 = mid) ∨ (m ≤ mid ∧ s0 = a ∧ r0 = m)) (hs : s0 ≤ s) (hr : s ≤ r0) : Mid a m b mid s (mid + m - s) := by
  rcases h0 with ⟨h3, rfl, rfl⟩ | ⟨h3, rfl, rfl⟩
  · exact ⟨by omega, by omega, by omega, by omega, by omega, by omega⟩
  · exact ⟨by omega, by omega, by omega, by omega, by omega, by omega⟩
section
variable {dg D : Nat → Nat} {a m b mid s e : Nat}
theorem Mid.mid_e (h : Mid a m b mid s e) : s + (e - m) = mid ∧ mid ≤ e ∧ mid ≤ b := by
  obtain ⟨h1, h2, h3, h4, h5, h6⟩ := h
  omega
theorem rot_a (h : Mid a m b mid s e) {p : Nat} (hp : p < s) : rot D s m e p = D p := by unfold rot; rw [if_neg (by omega), if_neg (by omega)]
theorem rot_b (h : Mid a m b mid s e) {p : Nat} (h1 : s ≤ p) (h2 : p < mid) : rot D s m e p = D (p + (m - s)) := by have := h.mid_e; unfold rot; rw [if_pos (by omega)]
theorem rot_c (h : Mid a m b mid s e) {p : Nat} (h1 : mid ≤ p) (h2 : p < e) : rot D s m e p = D (p - (e - m)) := by have := h.mid_e; unfold rot; rw [if_neg (by omega), if_pos (by omega)]
theorem rot_d (h : Mid a m b mid s e) {p : Nat} (h1 : e ≤ p) : rot D s m e p = D p := by have := h.mid_e; unfold rot; rw [if_neg (by omega), if_neg (by omega)]
theorem merge_left (h : Mid a m b mid s e) (h1 : SortedOn dg D a m) (h2 : SortedOn dg D m b) (hc : Cross D a m b) :
    SortedOn dg (rot D s m e) a s ∧ SortedOn dg (rot D s m e) s mid ∧ Cross (rot D s m e) a s mid := by
  have k := h.mid_e
  have := h.sm
  have := h.me
  have := h.eb
  have := h.sum
  refine ⟨fun p q p1 p2 p3 => ?_, fun p q p1 p2 p3 => ?_, fun p q p1 p2 p3 p4 => ?_⟩
  · rw [rot_a h (by omega), rot_a h p3]; exact h1 p q p1 p2 (by omega)
  · rw [rot_b h p1 (by omega), rot_b h (by omega) p3]; exact h2 _ _ (by omega) (by omega) (by omega)
  · rw [rot_a h p2, rot_b h p3 p4]; exact hc _ _ p1 (by omega) (by omega) (by omega)
theorem merge_right (h : Mid a m b mid s e) (h1 : SortedOn dg D a m) (h2 : SortedOn dg D m b) (hc : Cross D a m b) :
    SortedOn dg (rot D s m e) mid e ∧ SortedOn dg (rot D s m e) e b ∧ Cross (rot D s m e) mid e b := by
  have k := h.mid_e
  have := h.sm
  have := h.am
  have := h.me
  have := h.eb
  have := h.sum
  refine ⟨fun p q p1 p2 p3 => ?_, fun p q p1 p2 p3 => ?_, fun p q p1 p2 p3 p4 => ?_⟩
  · rw [rot_c h p1 (by omega), rot_c h (by omega) p3]; exact h1 _ _ (by omega) (by omega) (by omega)
  · rw [rot_d h p1, rot_d h (by omega)]; exact h2 p q (by omega) p2 p3
  · rw [rot_c h p1 p2, rot_d h p3]; exact hc _ _ (by omega) (by omega) (by omega) p4
theorem merge_parts (h : Mid a m b mid s e) (h1 : SortedOn dg D a m) (h2 : SortedOn dg D m b)
    (e1 : s = a ∨ e = b ∨ lt' dg (D (s - 1)) (D e)) (e2 : s = m ∨ s = mid ∨ lt' dg (D (e - 1)) (D s)) :
    ∀ p q, a ≤ p → p < mid → mid ≤ q → q < b → lt' dg (rot D s m e p) (rot D s m e q) := by
  have k := h.mid_e
  have g1 := h.sm
  have g2 := h.am
  have g3 := h.me
  have g4 := h.eb
  have g5 := h.sum
  intro p q p1 p2 q1 q2
  by_cases c1 : p < s
  · rw [rot_a h c1]
    by_cases c2 : q < e
    · rw [rot_c h q1 c2]; exact h1 _ _ p1 (by omega) (by omega)
    · rw [rot_d h (by omega)]
      have hl : lt' dg (D (s - 1)) (D e) := by
        rcases e1 with e1 | e1 | e1
        · omega
        · omega
        · exact e1
      have hl2 : lt' dg (D p) (D e) := by
        by_cases c3 : p = s - 1
        · rw [c3]; exact hl
        · exact lt'_trans (h1 p (s - 1) p1 (by omega) (by omega)) hl
      by_cases c4 : q = e
      · rw [c4]; exact hl2
      · exact lt'_trans hl2 (h2 e q (by omega) (by omega) q2)
  · rw [rot_b h (by omega) p2]
    by_cases c2 : q < e
    · rw [rot_c h q1 c2]
      have hl : lt' dg (D (e - 1)) (D s) := by
        rcases e2 with e2 | e2 | e2
        · omega
        · omega
        · exact e2
      have hl2 : lt' dg (D (p + (m - s))) (D s) := by
        by_cases c3 : p + (m - s) = e - 1
        · rw [c3]; exact hl
        · exact lt'_trans (h2 _ (e - 1) (by omega) (by omega) (by omega)) hl
      by_cases c4 : q - (e - m) = s
      · rw [c4]; exact hl2
      · exact lt'_trans hl2 (h1 s _ (by omega) (by omega) (by omega))
    · rw [rot_d h (by omega)]; exact h2 _ _ (by omega) (by omega) q2
/-- Both halves sorted, and the left one ahead of the right one. -/
theorem merge_join {n : Nat} {E E1 E2 : Nat → Nat} (ham : a ≤ mid) (hmb : mid ≤ b) (hp : ∀ p q, a ≤ p → p < mid → mid ≤ q → q < b → lt' dg (E p) (E q))
    (t1 : Turned n a mid E E1) (t2 : Turned n mid b E1 E2) (s1 : SortedOn dg E1 a mid) (s2 : SortedOn dg E2 mid b) : SortedOn dg E2 a b := by
  have hE1 : ∀ q, mid ≤ q → E1 q = E q := fun q hq => t1.2.1 q (.inr hq)
  have hE2 : ∀ p, p < mid → E2 p = E1 p := fun p hp => t2.2.1 p (.inl hp)
  intro p q p1 p2 q1
  by_cases c1 : q < mid
  · rw [hE2 p (by omega), hE2 q c1]; exact s1 p q p1 p2 c1
  · by_cases c2 : mid ≤ p
    · exact s2 p q c2 p2 q1
    · obtain ⟨q', a1, a2, e2⟩ := t2.1 q (by omega) q1
      obtain ⟨p', b1, b2, e3⟩ := t1.1 p p1 (by omega)
      rw [hE2 p (by omega), e3, e2, hE1 q' a1]
      exact hp p' q' b1 b2 a1 a2
end
end Go.Proofs.Ytpebibhnaopbnaa
