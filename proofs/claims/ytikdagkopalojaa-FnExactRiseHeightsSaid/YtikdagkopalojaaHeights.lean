/-
  How heights spread along rises: the plain law.
-/
import Derived.Test.YtikdagkopalojaaRing
import Derived.Test.YtikdagkopalojaaOwn1
namespace Go.Proofs.Ytikdagkopalojaa
open Go.RowKit Go.Shelf

/-- The heights that are told so far, and which are. -/
structure HS where
  hs : List Int
  ts : List Bool

def tol (ts : List Bool) (i : Int) : Bool := ts.getD i.toNat false
def hei (hs : List Int) (i : Int) : Int := hs.getD i.toNat 0
/-- A rise of which just one mark's height is told. -/
def pdB (ts : List Bool) (r : Rise) : Bool := tol ts r.f != tol ts r.t
def HS.upd (st : HS) (r : Rise) : HS := if tol st.ts r.f = true then ⟨st.hs.set r.t.toNat (hei st.hs r.f + r.s), st.ts.set r.t.toNat true⟩ else ⟨st.hs.set r.f.toNat (hei st.hs r.t - r.s), st.ts.set r.f.toNat true⟩
def HS.step (rs : List Rise) (st : HS) : Option HS := (rs.find? (pdB st.ts)).map st.upd
def HS.fin (rs : List Rise) : Nat → HS → HS
  | 0, st => st
  | k + 1, st => match st.step rs with
    | none => st
    | some st' => HS.fin rs k st'

def inR (n : Nat) (i : Int) : Prop := 0 ≤ i ∧ i < n
theorem ends_of {rs : List Rise} {n : Nat} (h : risesB rs n = true) {k : Nat} (hk : k < rs.length) : inR n (R rs k).f ∧ inR n (R rs k).t := by
  have := ok_of h hk
  unfold Rise.ok at this
  simp only [Bool.and_eq_true] at this
  have h1 : 0 ≤ (R rs k).f ∧ (R rs k).f ≤ (n : Int) - 1 := of_decide_eq_true this.1.2
  have h2 : 0 ≤ (R rs k).t ∧ (R rs k).t ≤ (n : Int) - 1 := of_decide_eq_true this.2
  unfold inR
  omega

/-- What holds of a state: how long it is, how great its heights are, and to what it leads. -/
structure HS.Inv (rs : List Rise) (n : Nat) (st0 : HS) (g : Nat) (st : HS) : Prop where
  hl : st.hs.length = n
  tl : st.ts.length = n
  bd : ∀ i, -(10000000 * (32 - (st.ts.count false : Int))) ≤ st.hs.getD i 0 ∧ st.hs.getD i 0 ≤ 10000000 * (32 - (st.ts.count false : Int))
  le : st.ts.count false ≤ g
  few : st.ts.count false ≤ 31
  to : HS.fin rs 32 st0 = HS.fin rs g st

theorem find_first {rs : List Rise} {p : Rise → Bool} {k : Nat} (hk : k < rs.length) (hp : p (R rs k) = true) (hn : ∀ j, j < k → p (R rs j) = false) : rs.find? p = some (R rs k) := by
  rw [List.find?_eq_some_iff_getElem]
  refine ⟨hp, k, hk, by rw [R, getD_at hk], fun j hj => ?_⟩
  have := hn j hj
  rw [R, getD_at (by omega)] at this
  simp [this]
theorem find_none {rs : List Rise} {p : Rise → Bool} (hn : ∀ j, j < rs.length → p (R rs j) = false) : rs.find? p = none := by
  rw [List.find?_eq_none]
  intro r hr
  obtain ⟨j, hj, rfl⟩ := List.getElem_of_mem hr
  have := hn j hj
  rw [R, getD_at hj] at this
  simp [this]

theorem count_set {ts : List Bool} {i : Nat} (h : i < ts.length) (hf : ts.getD i false = false) : (ts.set i true).count false + 1 = ts.count false := by
  induction ts generalizing i with
  | nil => simp at h
  | cons t ts ih =>
    cases i with
    | zero => simp at hf; subst hf; simp
    | succ i =>
      have := ih (i := i) (by simpa using h) (by simpa using hf)
      cases t <;> simp <;> omega

theorem getD_set' {hs : List Int} {i j : Nat} {v : Int} : (hs.set i v).getD j 0 = if i = j ∧ j < hs.length then v else hs.getD j 0 := by
  rw [List.getD_eq_getElem?_getD, List.getElem?_set]
  by_cases e : i = j
  · subst e
    by_cases h : i < hs.length <;> simp [h]
  · simp [e]

theorem HS.Inv.next {rs : List Rise} {n : Nat} {st0 st : HS} {g k : Nat} (h : HS.Inv rs n st0 g st) (hv : risesB rs n = true) (hk : k < rs.length) (hp : pdB st.ts (R rs k) = true) (hn : ∀ j, j < k → pdB st.ts (R rs j) = false) :
    HS.Inv rs n st0 (g - 1) (st.upd (R rs k)) ∧ 1 ≤ g := by
  obtain ⟨⟨f0, f1⟩, t0, t1⟩ := ends_of hv hk
  have hs := s_of hv hk
  have hfin : st.step rs = some (st.upd (R rs k)) := by unfold HS.step; rw [find_first hk hp hn]; rfl
  generalize R rs k = r at *
  obtain ⟨hs', ts⟩ := st
  obtain ⟨hl, tl, bd, le, few, to⟩ := h
  simp only at hl tl bd le few hp
  unfold pdB at hp
  have key : ∀ (i j : Nat) (v : Int), i < n → ts.getD i false = false → (v = hs'.getD j 0 + r.s ∨ v = hs'.getD j 0 - r.s) → (HS.upd ⟨hs', ts⟩ r = ⟨hs'.set i v, ts.set i true⟩) → HS.Inv rs n st0 (g - 1) (HS.upd ⟨hs', ts⟩ r) ∧ 1 ≤ g := by
    intro i j v hi hf hval he
    have hc := count_set (by omega) hf
    rw [he] at hfin ⊢
    have hg : 1 ≤ g := by omega
    refine ⟨⟨by simp [hl], by simp [tl], ?_, ?_, ?_, ?_⟩, hg⟩
    · intro x
      simp only
      rw [getD_set']
      have b1 := bd x
      have b2 := bd j
      split
      · rcases hval with rfl | rfl <;> omega
      · omega
    · simp only; omega
    · simp only; omega
    · rw [to]
      obtain ⟨g', rfl⟩ : ∃ g', g = g' + 1 := ⟨g - 1, by omega⟩
      show HS.fin rs (g' + 1) _ = HS.fin rs g' _
      simp only [HS.fin, hfin]
  unfold tol at hp
  by_cases hf : ts.getD r.f.toNat false = true
  · have ht : ts.getD r.t.toNat false = false := by rw [hf] at hp; simpa using hp
    exact key r.t.toNat r.f.toNat _ (by omega) ht (.inl rfl) (by unfold HS.upd; rw [if_pos (show tol ts r.f = true from hf)]; rfl)
  · have hf' : ts.getD r.f.toNat false = false := by simpa using hf
    exact key r.f.toNat r.t.toNat _ (by omega) hf' (.inr rfl) (by unfold HS.upd; rw [if_neg (show ¬ tol ts r.f = true from hf)]; rfl)

theorem HS.Inv.stop {rs : List Rise} {n : Nat} {st0 st : HS} {g : Nat} (h : HS.Inv rs n st0 g st) (hn : ∀ j, j < rs.length → pdB st.ts (R rs j) = false) : HS.fin rs 32 st0 = st := by
  rw [h.to]
  have : st.step rs = none := by unfold HS.step; rw [find_none hn]; rfl
  cases g with
  | zero => rfl
  | succ g => simp only [HS.fin, this]

def HS.start (n : Nat) : HS := ⟨List.replicate n 0, (List.replicate n false).set 0 true⟩
theorem HS.start_inv (rs : List Rise) {n : Nat} (hn : 1 ≤ n ∧ n ≤ 32) : HS.Inv rs n (HS.start n) 32 (HS.start n) := by
  have hc : (HS.start n).ts.count false = n - 1 := by
    obtain ⟨m, rfl⟩ : ∃ m, n = m + 1 := ⟨n - 1, by omega⟩
    simp [HS.start, List.replicate_succ, List.count_replicate]
  refine ⟨by simp [HS.start], by simp [HS.start], fun i => ?_, by omega, by omega, rfl⟩
  have : (HS.start n).hs.getD i 0 = 0 := by
    simp only [HS.start, List.getD_eq_getElem?_getD, List.getElem?_replicate]
    split <;> rfl
  rw [this]
  omega

/-- What is told at last. -/
def lastH (rs : List Rise) (n : Nat) : HS := HS.fin rs 32 (HS.start n)
def okH (rs : List Rise) (n : Int) : Bool := risesB rs n && (lastH rs n.toNat).ts.all id
def outH (rs : List Rise) (n : Int) : List Int := if okH rs n = true then (lastH rs n.toNat).hs else []

/-- The sums fit. -/
theorem HS.Inv.fits {rs : List Rise} {n : Nat} {st0 st : HS} {g k : Nat} (h : HS.Inv rs n st0 g st) (hv : risesB rs n = true) (hk : k < rs.length) (i : Nat) :
    IntKind.i64.wrap (st.hs.getD i 0 + (R rs k).s) = st.hs.getD i 0 + (R rs k).s ∧ IntKind.i64.wrap (st.hs.getD i 0 - (R rs k).s) = st.hs.getD i 0 - (R rs k).s := by
  have hs := s_of hv hk
  have hb := h.bd i
  exact ⟨IntWalk.i64_in _ (by omega), IntWalk.i64_in _ (by omega)⟩
end Go.Proofs.Ytikdagkopalojaa
