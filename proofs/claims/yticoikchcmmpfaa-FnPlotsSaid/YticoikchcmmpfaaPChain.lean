/-
  The list of what lies left of a cut: its cross sum is the area left of the cut, but for what its crossings err.
-/
import Derived.Test.YticoikchcmmpfaaPSum
namespace Go.Proofs.Yticoikchcmmpfaa

/-- The cross product about the cut line. -/
def crM (m : Rat) (p q : Rat × Rat) : Rat := (p.1 - m) * q.2 - p.2 * (q.1 - m)
/-- Along a list, from z on. -/
def chs (m : Rat) : Rat × Rat → List (Rat × Rat) → Rat
  | _, [] => 0
  | z, o :: t => crM m z o + chs m o t
theorem chs_snoc (m : Rat) (l : List (Rat × Rat)) : ∀ (z o : Rat × Rat), chs m z (l ++ [o]) = chs m z l + crM m (l.getLastD z) o := by
  induction l with
  | nil => intro z o; show crM m z o + 0 = 0 + crM m z o; grind
  | cons a t ih =>
    intro z o
    show crM m z a + chs m a (t ++ [o]) = crM m z a + chs m a t + crM m ((a :: t).getLastD z) o
    rw [ih, List.getLastD_cons]
    grind
theorem sm_front (n : Nat) (f : Nat → Rat) : sm (n + 1) f = f 0 + sm n fun k => f (k + 1) := by
  induction n with
  | zero => unfold sm sm; grind
  | succ n ih => rw [show sm (n + 1 + 1) f = sm (n + 1) f + f (n + 1) from rfl, ih, show sm (n + 1) (fun k => f (k + 1)) = sm n (fun k => f (k + 1)) + f (n + 1) from rfl]; grind
theorem chs_sm (m : Rat) (t : List (Rat × Rat)) : ∀ (o d : Rat × Rat), chs m o t = sm t.length fun j => crM m ((o :: t).getD j d) ((o :: t).getD (j + 1) d) := by
  induction t with
  | nil => intro o d; rfl
  | cons x t ih =>
    intro o d
    show crM m o x + chs m x t = sm (t.length + 1) _
    rw [sm_front, ih x d]
    rfl
theorem getLastD_getD {l : List (Rat × Rat)} {d : Rat × Rat} (z : Rat × Rat) (h : l ≠ []) : l.getLastD z = l.getD (l.length - 1) d := by
  rw [List.getLastD_eq_getLast?, List.getLast?_eq_getElem?, List.getD_eq_getElem?_getD]
  have : l.length - 1 < l.length := by
    have := List.length_pos_iff.2 h
    omega
  rw [List.getElem?_eq_getElem this]
  rfl
/-- The closed sum, by the chain from any z. -/
theorem closed_chs (m : Rat) (l : List (Rat × Rat)) (d z : Rat × Rat) (h : l ≠ []) : (sm l.length fun j => crM m (l.getD j d) (l.getD (nx l.length j) d)) = chs m z l - crM m z (l.getD 0 d) + crM m (l.getLastD z) (l.getD 0 d) := by
  rw [getLastD_getD (d := d) z h]
  cases l with
  | nil => exact absurd rfl h
  | cons o t =>
    show sm (t.length + 1) _ = crM m z o + chs m o t - crM m z o + _
    rw [chs_sm m t o d]
    show sm t.length _ + _ = _
    have e : (sm t.length fun j => crM m ((o :: t).getD j d) ((o :: t).getD (nx (o :: t).length j) d)) = sm t.length fun j => crM m ((o :: t).getD j d) ((o :: t).getD (j + 1) d) := sm_congr fun k hk => by
      have : nx (o :: t).length k = k + 1 := by unfold nx; rw [if_neg (by simp; omega)]
      rw [this]
    rw [e]
    have e2 : nx (o :: t).length t.length = 0 := by unfold nx; rw [if_pos (by simp)]
    show _ + crM m ((o :: t).getD t.length d) ((o :: t).getD (nx (o :: t).length t.length) d) = _
    rw [e2]
    rw [show (o :: t).length - 1 = t.length by simp]
    grind
/-- About any line the closed sum is the same. -/
theorem closed_crV (m : Rat) (u : Nat → Rat × Rat) (N : Nat) : (sm N fun j => crV (u j) (u (nx N j))) = sm N fun j => crM m (u j) (u (nx N j)) := by
  by_cases h0 : N = 0
  · subst h0; rfl
  have h := sm_cyc (n := N) (by omega) (fun k => m * (u k).2)
  have e : (sm N fun j => crV (u j) (u (nx N j))) = (sm N fun j => crM m (u j) (u (nx N j))) + sm N fun k => m * (u (nx N k)).2 - m * (u k).2 := by
    rw [← sm_add]
    exact sm_congr fun k _ => by unfold crV crM; grind
  rw [e, h]
  grind

/-! ### One edge -/
/-- The potential: it is nothing on the cut line. -/
def hh (m : Rat) (p : Rat × Rat) : Rat := if p.1 ≤ m then (m - p.1) * p.2 / 2 else 0
theorem edge_LL {p q : Rat × Rat} {m : Rat} (h1 : p.1 ≤ m) (h2 : q.1 ≤ m) : crM m p q / 2 = ed p q m - hh m p + hh m q := by
  unfold crM ed hh
  rw [gg_pp (by grind) (by grind), if_pos h1, if_pos h2]
  grind
theorem edge_RR {p q : Rat × Rat} {m : Rat} (h1 : ¬ p.1 ≤ m) (h2 : ¬ q.1 ≤ m) : 0 = ed p q m - hh m p + hh m q := by
  unfold ed hh
  rw [gg_nn (by grind) (by grind), if_neg h1, if_neg h2]
  grind
/-- Where an edge crosses: s of the way. -/
theorem edge_LR {p q c : Rat × Rat} {m s y x e : Rat} (h1 : p.1 ≤ m) (h2 : ¬ q.1 ≤ m) (hs : s * (q.1 - p.1) = m - p.1) (hy : y = p.2 + s * (q.2 - p.2)) (hc : Ab (c.1 - m) x) (hp : Ab p.2 (603 / 100)) (hd : Ab ((m - p.1) * (c.2 - y)) e) : Ab (crM m p c / 2 - (ed p q m - hh m p + hh m q)) (e / 2 + x * (302 / 100)) := by
  have g := gg_pn (a := m - p.1) (c := m - q.1) (by grind) (by grind)
  have hD : 0 < q.1 - p.1 := by grind
  have hg : gg (m - p.1) (m - q.1) = (m - p.1) * s / 2 := by
    refine mul_right_cancel (c := 2 * (q.1 - p.1)) (by grind) ?_
    rw [show m - p.1 - (m - q.1) = q.1 - p.1 by grind] at g
    rw [g]
    have : (m - p.1) * s / 2 * (2 * (q.1 - p.1)) = (m - p.1) * (s * (q.1 - p.1)) := by grind
    rw [this, hs]
  unfold crM ed hh
  rw [hg, if_pos h1, if_neg h2]
  have b := hp.mul hc
  have b2 : Ab (-(((m - p.1) * (c.2 - y)) / 2) - (p.2 * (c.1 - m)) / 2) (e / 2 + x * (302 / 100)) := by
    have := hc.pos
    generalize p.2 * (c.1 - m) = t at *
    generalize (m - p.1) * (c.2 - y) = t' at *
    unfold Ab at *
    constructor <;> grind
  refine b2.eq ?_
  subst hy
  grind
theorem edge_RL {p q c : Rat × Rat} {m s y x e : Rat} (h1 : ¬ p.1 ≤ m) (h2 : q.1 ≤ m) (hs : s * (q.1 - p.1) = m - p.1) (hy : y = p.2 + s * (q.2 - p.2)) (hc : Ab (c.1 - m) x) (hq : Ab q.2 (603 / 100)) (hd : Ab ((m - q.1) * (c.2 - y)) e) : Ab (crM m c q / 2 - (ed p q m - hh m p + hh m q)) (e / 2 + x * (302 / 100)) := by
  have g := gg_np (a := m - p.1) (c := m - q.1) (by grind) (by grind)
  have hD : 0 < p.1 - q.1 := by grind
  have hs' : (1 - s) * (p.1 - q.1) = m - q.1 := by grind
  have hg : gg (m - p.1) (m - q.1) = (m - q.1) * (1 - s) / 2 := by
    refine mul_right_cancel (c := 2 * (p.1 - q.1)) (by grind) ?_
    rw [show m - q.1 - (m - p.1) = p.1 - q.1 by grind] at g
    rw [g]
    have : (m - q.1) * (1 - s) / 2 * (2 * (p.1 - q.1)) = (m - q.1) * ((1 - s) * (p.1 - q.1)) := by grind
    rw [this, hs']
  unfold crM ed hh
  rw [hg, if_neg h1, if_pos h2]
  have b := hq.mul hc
  have b2 : Ab ((((m - q.1) * (c.2 - y)) / 2) + (q.2 * (c.1 - m)) / 2) (e / 2 + x * (302 / 100)) := by
    have := hc.pos
    generalize q.2 * (c.1 - m) = t at *
    generalize (m - q.1) * (c.2 - y) = t' at *
    unfold Ab at *
    constructor <;> grind
  refine b2.eq ?_
  subst hy
  grind
end Go.Proofs.Yticoikchcmmpfaa
