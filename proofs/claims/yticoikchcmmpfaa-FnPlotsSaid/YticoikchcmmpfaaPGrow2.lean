/-
  How much a plot grows with its cut, wherever the cut lies.
-/
import Derived.Test.YticoikchcmmpfaaPKap2
namespace Go.Proofs.Yticoikchcmmpfaa
open Go.RowKit

/-- The corners. -/
def plotV (n : Nat) (r : Nat → Nat) (k : Nat) : Rat × Rat := corn n k (r k)
def leastV (n : Nat) (k : Nat) : Rat × Rat := corn n k 0
def pairOk (n k r s : Nat) : Bool := decide (102 / 10 / (n : Rat) ≤ dd orig (corn n k r) (corn n (nx n k) s) ∧ 0 ≤ dd (corn n k 0) (corn n k r) (corn n (nx n k) s) ∧ 0 ≤ dd (corn n k 0) (corn n (nx n k) s) (corn n (nx n k) 0))
theorem pair_all : ((List.range 7).all fun i => (List.range (i + 3)).all fun k => (List.range 5).all fun r => (List.range 5).all fun s => pairOk (i + 3) k r s) = true := by decide +kernel
theorem pair_get {n k r s : Nat} (h3 : 3 ≤ n) (h9 : n ≤ 9) (hk : k < n) (hr : r < 5) (hs : s < 5) : 102 / 10 / (n : Rat) ≤ dd orig (corn n k r) (corn n (nx n k) s) ∧ 0 ≤ dd (corn n k 0) (corn n k r) (corn n (nx n k) s) ∧ 0 ≤ dd (corn n k 0) (corn n (nx n k) s) (corn n (nx n k) 0) := by
  have h1 := List.all_eq_true.1 (List.all_eq_true.1 (List.all_eq_true.1 (List.all_eq_true.1 pair_all (n - 3) (List.mem_range.2 (by omega))) k (List.mem_range.2 (by omega))) r (List.mem_range.2 hr)) s (List.mem_range.2 hs)
  rw [show n - 3 + 3 = n by omega] at h1
  exact of_decide_eq_true h1
def cellG (j : Nat) : Rat := (((j : Int) - 32 : Int) : Rat) / 40
theorem cell_all : ((List.range 7).all fun i => (List.range 64).all fun j => decide (3 / 100 ≤ areaL (leastV (i + 3)) (i + 3) (cellG (j + 1)) - areaL (leastV (i + 3)) (i + 3) (cellG j))) = true := by decide +kernel
theorem cell_get {n j : Nat} (h3 : 3 ≤ n) (h9 : n ≤ 9) (hj : j < 64) : 3 / 100 ≤ areaL (leastV n) n (cellG (j + 1)) - areaL (leastV n) n (cellG j) := by
  have h1 := List.all_eq_true.1 (List.all_eq_true.1 cell_all (n - 3) (List.mem_range.2 (by omega))) j (List.mem_range.2 hj)
  rw [show n - 3 + 3 = n by omega] at h1
  exact of_decide_eq_true h1
end Go.Proofs.Yticoikchcmmpfaa
namespace Go.Proofs.Yticoikchcmmpfaa

theorem cellG_next (j : Nat) : cellG (j + 1) = cellG j + 1 / 40 := by
  unfold cellG
  rw [show ((j + 1 : Nat) : Int) - 32 = ((j : Int) - 32) + 1 by omega, Rat.intCast_add]
  have : ((1 : Int) : Rat) = 1 := rfl
  rw [this]
  grind
theorem cellG_le (j : Nat) : cellG j ≤ cellG (j + 1) := by rw [cellG_next]; grind

structure PlotR (n : Nat) (r : Nat → Nat) : Prop where
  n3 : 3 ≤ n
  n9 : n ≤ 9
  r5 : ∀ k, k < n → r k < 5
section
variable {n : Nat} {r : Nat → Nat} (h : PlotR n r)
include h
theorem PlotR.pos : 0 < n := by have := h.n3; omega
theorem PlotR.turn : ∀ k, k < n → 0 ≤ dd orig (plotV n r k) (plotV n r (nx n k)) := fun k hk => by
  have h1 := (pair_get h.n3 h.n9 hk (h.r5 k hk) (h.r5 _ (nx_lt hk))).1
  have h2 : (0 : Rat) ≤ 102 / 10 / (n : Rat) := by
    rw [Rat.div_def]
    refine Rat.mul_nonneg (by decide +kernel) (Rat.le_of_lt (Rat.inv_pos.2 ?_))
    exact_mod_cast h.pos
  exact Rat.le_trans h2 h1
theorem PlotR.in4 : ∀ k, k < n → Ab (plotV n r k).1 4 ∧ Ab (plotV n r k).2 4 := fun k hk => (corn_get h.n3 h.n9 hk (h.r5 k hk)).2.2.2.2
theorem PlotR.cell {j : Nat} (hj : j < 64) : 3 / 100 ≤ areaL (plotV n r) n (cellG (j + 1)) - areaL (plotV n r) n (cellG j) := by
  have h1 := cell_get h.n3 h.n9 hj
  have h2 := area_grow (V := plotV n r) (U := leastV n) h.pos (fun k hk => (pair_get h.n3 h.n9 hk (h.r5 k hk) (h.r5 _ (nx_lt hk))).2.1) (fun k hk => (pair_get h.n3 h.n9 hk (h.r5 k hk) (h.r5 _ (nx_lt hk))).2.2) (cellG_le j)
  exact Rat.le_trans h1 h2
theorem PlotR.mono {m m' : Rat} (hm : m ≤ m') : areaL (plotV n r) n m ≤ areaL (plotV n r) n m' := area_mono h.pos h.turn hm
/-- The whole is no less than 5. -/
theorem PlotR.whole : 51 / 10 ≤ areaW (plotV n r) n := by
  have hn : ∀ (m : Nat) (c : Rat), sm m (fun _ => c) = (m : Rat) * c := fun m c => by
    induction m with
    | zero => unfold sm; simp [Rat.zero_mul]
    | succ m ih => unfold sm; rw [ih, Rat.natCast_add]; have : ((1 : Nat) : Rat) = 1 := rfl; rw [this]; grind
  have hle : sm n (fun _ => 102 / 10 / (n : Rat) / 2) ≤ areaW (plotV n r) n := sm_le fun k hk => by
    have := (pair_get h.n3 h.n9 hk (h.r5 k hk) (h.r5 _ (nx_lt hk))).1
    show 102 / 10 / (n : Rat) / 2 ≤ dd orig (corn n k (r k)) (corn n (nx n k) (r (nx n k))) / 2
    grind
  rw [hn] at hle
  have hn0 : (n : Rat) ≠ 0 := by
    have : (0 : Rat) < (n : Rat) := by exact_mod_cast h.pos
    grind
  have e : 102 / 10 / (n : Rat) * (n : Rat) = 102 / 10 := Rat.div_mul_cancel hn0
  grind
omit h in
theorem pick_cell {x : Rat} (h1 : -(8 / 10) ≤ x) (h2 : x < 3 / 4) : ∃ j : Nat, j < 64 ∧ x ≤ cellG j ∧ cellG j ≤ x + 1 / 40 := by
  have f1 := Rat.floor_le (40 * x)
  have f2 := Rat.lt_floor_add_one (40 * x)
  have f3 : (-32 : Int) ≤ (40 * x).floor := Rat.le_floor_iff.2 (by have : ((-32 : Int) : Rat) = -32 := rfl
                                                                   grind)
  have f4 : (40 * x).floor < 30 := Rat.floor_lt_iff.2 (by have : ((30 : Int) : Rat) = 30 := rfl
                                                          grind)
  refine ⟨((40 * x).floor + 33).toNat, by omega, ?_⟩
  unfold cellG
  rw [show ((((40 * x).floor + 33).toNat : Nat) : Int) - 32 = (40 * x).floor + 1 by omega]
  rw [Rat.intCast_add] at f2 ⊢
  have : ((1 : Int) : Rat) = 1 := rfl
  rw [this] at f2 ⊢
  generalize ((40 * x).floor : Rat) = y at *
  constructor <;> grind
/-- The growth between two cuts a twentieth apart, neither near an end. -/
theorem PlotR.grow {m m' : Rat} (hm : m + 1 / 20 ≤ m') (hA : 62 / 100 ≤ areaL (plotV n r) n m) (hR : 62 / 100 ≤ areaW (plotV n r) n - areaL (plotV n r) n m') : 29 / 10000 ≤ areaL (plotV n r) n m' - areaL (plotV n r) n m := by
  by_cases c1 : 3 / 4 ≤ m
  · have hk := area_kap h.pos h.turn (fun k hk => ((h.in4 k hk).1).2) (m := m) (m' := m') (by grind) (by grind)
    have q : 48 / 10000 ≤ (m' * m' - m * m) / 16 := by
      have a1 := Rat.mul_le_mul_of_nonneg_left (show 155 / 100 ≤ m' + m by grind) (show 0 ≤ m' - m by grind)
      grind
    have a2 := Rat.mul_le_mul_of_nonneg_left hR (show (0 : Rat) ≤ 48 / 10000 by decide +kernel)
    have a3 := Rat.mul_le_mul_of_nonneg_right q (show 0 ≤ areaW (plotV n r) n - areaL (plotV n r) n m' by grind)
    grind
  · by_cases c2 : m' ≤ -(3 / 4)
    · have hk := area_left h.pos h.turn (fun k hk => ((h.in4 k hk).1).1) (m := m) (m' := m') (by grind) (by grind)
      have q : 48 / 10000 ≤ (m * m - m' * m') / 16 := by
        have a1 := Rat.mul_le_mul_of_nonneg_left (show 155 / 100 ≤ -m' + -m by grind) (show 0 ≤ m' - m by grind)
        grind
      have a2 := Rat.mul_le_mul_of_nonneg_left hA (show (0 : Rat) ≤ 48 / 10000 by decide +kernel)
      have a3 := Rat.mul_le_mul_of_nonneg_right q (show 0 ≤ areaL (plotV n r) n m by grind)
      grind
    · obtain ⟨x, hx1, hx2, hx3, hx4⟩ : ∃ x : Rat, m ≤ x ∧ -(8 / 10) ≤ x ∧ x < 3 / 4 ∧ x + 1 / 20 ≤ m' := by
        by_cases c3 : -(8 / 10) ≤ m
        · exact ⟨m, Rat.le_refl, c3, by grind, hm⟩
        · exact ⟨-(8 / 10), by grind, Rat.le_refl, by decide +kernel, by grind⟩
      obtain ⟨j, hj, g1, g2⟩ := pick_cell hx2 hx3
      have b1 := h.cell hj
      have b2 := h.mono (m := m) (m' := cellG j) (by grind)
      have b3 := h.mono (m := cellG (j + 1)) (m' := m') (by rw [cellG_next]; grind)
      grind
end
end Go.Proofs.Yticoikchcmmpfaa
