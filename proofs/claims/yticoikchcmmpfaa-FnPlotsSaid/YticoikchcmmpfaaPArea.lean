/-
  What of a plot lies left of a cut: it grows with the cut, and how much.
-/
import Derived.Test.YticoikchcmmpfaaPClip
namespace Go.Proofs.Yticoikchcmmpfaa

def sm : Nat → (Nat → Rat) → Rat
  | 0, _ => 0
  | n + 1, f => sm n f + f n
theorem sm_congr {n : Nat} {f g : Nat → Rat} (h : ∀ k, k < n → f k = g k) : sm n f = sm n g := by
  induction n with
  | zero => rfl
  | succ n ih => unfold sm; rw [ih (fun k hk => h k (by omega)), h n (by omega)]
theorem sm_le {n : Nat} {f g : Nat → Rat} (h : ∀ k, k < n → f k ≤ g k) : sm n f ≤ sm n g := by
  induction n with
  | zero => exact Rat.le_refl
  | succ n ih =>
    unfold sm
    have h1 := ih (fun k hk => h k (by omega))
    have h2 := h n (by omega)
    grind
theorem sm_add (n : Nat) (f g : Nat → Rat) : sm n (fun k => f k + g k) = sm n f + sm n g := by
  induction n with
  | zero => unfold sm; grind
  | succ n ih => unfold sm; rw [ih]; grind
theorem sm_sub (n : Nat) (f g : Nat → Rat) : sm n (fun k => f k - g k) = sm n f - sm n g := by
  induction n with
  | zero => unfold sm; grind
  | succ n ih => unfold sm; rw [ih]; grind
theorem sm_mul (n : Nat) (f : Nat → Rat) (c : Rat) : sm n (fun k => c * f k) = c * sm n f := by
  induction n with
  | zero => unfold sm; grind
  | succ n ih => unfold sm; rw [ih]; grind
/-- The next corner. -/
def nx (n k : Nat) : Nat := if k + 1 = n then 0 else k + 1
theorem sm_tele (n : Nat) (h : Nat → Rat) : sm n (fun k => h (k + 1) - h k) = h n - h 0 := by
  induction n with
  | zero => unfold sm; grind
  | succ n ih => unfold sm; rw [ih]; grind
theorem sm_cyc {n : Nat} (hn : 0 < n) (h : Nat → Rat) : sm n (fun k => h (nx n k) - h k) = 0 := by
  obtain ⟨m, rfl⟩ : ∃ m, n = m + 1 := ⟨n - 1, by omega⟩
  unfold sm
  have e1 : sm m (fun k => h (nx (m + 1) k) - h k) = sm m (fun k => h (k + 1) - h k) := sm_congr fun k hk => by unfold nx; rw [if_neg (by omega)]
  rw [e1, sm_tele]
  show h m - h 0 + (h (if m + 1 = m + 1 then 0 else m + 1) - h m) = 0
  rw [if_pos rfl]
  grind
theorem nx_lt {n k : Nat} (hk : k < n) : nx n k < n := by unfold nx; split <;> omega

/-- What lies left of m. -/
def areaL (V : Nat → Rat × Rat) (n : Nat) (m : Rat) : Rat := sm n fun k => ed (V k) (V (nx n k)) m
theorem sub_nil {a z : Rat} (h : z = 0) : a = a - z := by rw [h]; grind
def orig : Rat × Rat := (0, 0)

/-- By the triangles from the origin. -/
theorem area_tri (V : Nat → Rat × Rat) {n : Nat} (hn : 0 < n) (m : Rat) : areaL V n m = sm n fun k => tri orig (V k) (V (nx n k)) m := by
  have h := sm_cyc hn (fun k => ed orig (V k) m)
  rw [sub_nil (a := areaL V n m) h]
  unfold areaL
  rw [← sm_sub]
  exact sm_congr fun k _ => by
    unfold tri
    rw [ed_anti orig (V (nx n k))]
    grind
/-- The whole. -/
def areaW (V : Nat → Rat × Rat) (n : Nat) : Rat := sm n fun k => dd orig (V k) (V (nx n k)) / 2
theorem area_mono {V : Nat → Rat × Rat} {n : Nat} (hn : 0 < n) (hD : ∀ k, k < n → 0 ≤ dd orig (V k) (V (nx n k))) {m m' : Rat} (h : m ≤ m') : areaL V n m ≤ areaL V n m' := by
  rw [area_tri V hn, area_tri V hn]
  exact sm_le fun k hk => tri_mono (hD k hk) h
theorem area_in {V : Nat → Rat × Rat} {n : Nat} (hn : 0 < n) (hD : ∀ k, k < n → 0 ≤ dd orig (V k) (V (nx n k))) {m : Rat} : areaL V n m ≤ areaW V n := by
  rw [area_tri V hn]
  exact sm_le fun k hk => (tri_in (hD k hk)).2
/-- No corner lies right of m: all is left. -/
theorem area_all {V : Nat → Rat × Rat} {n : Nat} (hn : 0 < n) {m : Rat} (h : ∀ k, k < n → (V k).1 ≤ m) (h0 : 0 ≤ m) : areaL V n m = areaW V n := by
  rw [area_tri V hn]
  exact sm_congr fun k hk => tri_all h0 (h k hk) (h _ (nx_lt hk))
theorem area_none {V : Nat → Rat × Rat} {n : Nat} {m : Rat} (h : ∀ k, k < n → m ≤ (V k).1) : areaL V n m = 0 := by
  have : areaL V n m = sm n fun _ => 0 := sm_congr fun k hk => by
    have h1 := h k hk
    have h2 := h _ (nx_lt hk)
    unfold ed gg
    by_cases e1 : 0 ≤ m - (V k).1 <;> by_cases e2 : 0 ≤ m - (V (nx n k)).1
    · rw [if_pos e1, if_pos e2]; grind
    · rw [if_pos e1, if_neg e2, show m - (V k).1 = 0 by grind]; simp [Rat.zero_mul, Rat.mul_zero, Rat.div_def]
    · rw [if_neg e1, if_pos e2, show m - (V (nx n k)).1 = 0 by grind]; simp [Rat.zero_mul, Rat.mul_zero, Rat.div_def]
    · rw [if_neg e1, if_neg e2]; grind
  rw [this]
  have hz : ∀ j, sm j (fun _ => (0 : Rat)) = 0 := fun j => by
    induction j with
    | zero => rfl
    | succ j ih => unfold sm; rw [ih]; grind
  exact hz n

/-- A greater plot: the growth is no less. -/
theorem area_grow {V U : Nat → Rat × Rat} {n : Nat} (hn : 0 < n) (h1 : ∀ k, k < n → 0 ≤ dd (U k) (V k) (V (nx n k))) (h2 : ∀ k, k < n → 0 ≤ dd (U k) (V (nx n k)) (U (nx n k))) {m m' : Rat} (hm : m ≤ m') :
    areaL U n m' - areaL U n m ≤ areaL V n m' - areaL V n m := by
  have key : ∀ x, areaL V n x = areaL U n x + (sm n fun k => tri (U k) (V k) (V (nx n k)) x + tri (U k) (V (nx n k)) (U (nx n k)) x) := by
    intro x
    have h := sm_cyc hn (fun k => ed (U k) (V k) x)
    unfold areaL
    rw [← sm_add, sub_nil (a := sm n fun k => ed (V k) (V (nx n k)) x) h, ← sm_sub]
    exact sm_congr fun k _ => by
      unfold tri
      rw [ed_anti (U k) (V (nx n k)), ed_anti (U k) (U (nx n k)), ed_anti (U (nx n k)) (V (nx n k))]
      grind
  have hs : (sm n fun k => tri (U k) (V k) (V (nx n k)) m + tri (U k) (V (nx n k)) (U (nx n k)) m) ≤ sm n fun k => tri (U k) (V k) (V (nx n k)) m' + tri (U k) (V (nx n k)) (U (nx n k)) m' := sm_le fun k hk => by
    have a1 := tri_mono (h1 k hk) hm
    have a2 := tri_mono (h2 k hk) hm
    grind
  rw [key m, key m']
  grind
end Go.Proofs.Yticoikchcmmpfaa
