/-
  Corners that stand beside one another, reckoned; what that tells of a plot.
-/
import Derived.Test.YticoikchcmmpfaaPGrow2
namespace Go.Proofs.Yticoikchcmmpfaa

theorem gg_nonneg (a c : Rat) : 0 ≤ gg a c := by
  by_cases h1 : 0 ≤ a <;> by_cases h2 : 0 ≤ c
  · rw [gg_pp h1 h2]; grind
  · have := gg_pn h1 (show c < 0 by grind)
    have := sq0 h1
    exact le_mul (c := 2 * (a - c)) (by grind) (by grind)
  · have := gg_np (show a < 0 by grind) h2
    have := sq0 h2
    exact le_mul (c := 2 * (c - a)) (by grind) (by grind)
  · rw [gg_nn (by grind) (by grind)]; exact Rat.le_refl
theorem gg_mono1 {a a' : Rat} (c : Rat) (h : a ≤ a') : gg a c ≤ gg a' c := by
  by_cases h2 : 0 ≤ c
  · by_cases h1 : 0 ≤ a
    · rw [gg_pp h1 h2, gg_pp (by grind) h2]; grind
    · by_cases h3 : 0 ≤ a'
      · have e := gg_np (show a < 0 by grind) h2
        rw [gg_pp h3 h2]
        refine le_mul (c := 2 * (c - a)) (by grind) ?_
        rw [e]
        have p1 := Rat.mul_nonneg h3 (show 0 ≤ -a by grind)
        have p2 := Rat.mul_nonneg h3 h2
        have p3 := Rat.mul_nonneg h2 (show 0 ≤ -a by grind)
        grind
      · have e := gg_np (show a < 0 by grind) h2
        have e' := gg_np (show a' < 0 by grind) h2
        have n0 := gg_nonneg a c
        refine le_mul (c := 2 * (c - a')) (by grind) ?_
        rw [e', ← e]
        exact Rat.mul_le_mul_of_nonneg_left (by grind) n0
  · by_cases h1 : 0 ≤ a
    · have e := gg_pn h1 (show c < 0 by grind)
      have e' := gg_pn (show 0 ≤ a' by grind) (show c < 0 by grind)
      have p1 := Rat.mul_nonneg (Rat.mul_nonneg h1 (show 0 ≤ a' by grind)) (show 0 ≤ a' - a by grind)
      have p2 := Rat.mul_nonneg (show 0 ≤ -c by grind) (show 0 ≤ a' * a' - a * a by have := sq_le h1 h; grind)
      have p3 : 0 < (a - c) * (a' - c) := Rat.mul_pos (by grind) (by grind)
      generalize gg a c = q at *
      generalize gg a' c = q' at *
      refine le_mul (c := 2 * ((a - c) * (a' - c))) (by grind) ?_
      have f1 : q * (2 * ((a - c) * (a' - c))) = q * (2 * (a - c)) * (a' - c) := by grind
      have f2 : q' * (2 * ((a - c) * (a' - c))) = q' * (2 * (a' - c)) * (a - c) := by grind
      rw [f1, f2, e, e']
      grind
    · rw [gg_nn (by grind) (by grind)]; exact gg_nonneg _ _
theorem gg_mono {a a' c c' : Rat} (h : a ≤ a') (h' : c ≤ c') : gg a c ≤ gg a' c' := by
  have h1 := gg_mono1 c h
  have h2 := gg_mono1 a' h'
  rw [gg_comm c, gg_comm c'] at h2
  exact Rat.le_trans h1 h2
theorem gg_shift (a c : Rat) {t : Rat} (ht : 0 ≤ t) : gg (a + t) (c + t) ≤ gg a c + t := by
  have e1 := gg_neg (a + t) (c + t)
  have e2 := gg_neg a c
  have h := gg_mono (a := -(a + t)) (a' := -a) (c := -(c + t)) (c' := -c) (by grind) (by grind)
  grind
theorem gg_lip {a a' c c' d : Rat} (h1 : Ab (a' - a) d) (h2 : Ab (c' - c) d) : Ab (gg a' c' - gg a c) d := by
  have hd := h1.pos
  unfold Ab at *
  have u1 := gg_shift a c hd
  have u2 := gg_mono (a := a') (a' := a + d) (c := c') (c' := c + d) (by grind) (by grind)
  have u3 := gg_shift a' c' hd
  have u4 := gg_mono (a := a) (a' := a' + d) (c := c) (c' := c' + d) (by grind) (by grind)
  constructor <;> grind
theorem gg_le {a c e : Rat} (h1 : a ≤ e) (h2 : c ≤ e) (h0 : 0 ≤ e) : gg a c ≤ e := by
  have := gg_mono h1 h2
  rw [gg_pp h0 h0] at this
  grind

/-- Sums of bounded numbers. -/
theorem sm_ab {n : Nat} {f : Nat → Rat} {e : Rat} (h : ∀ k, k < n → Ab (f k) e) : Ab (sm n f) (n * e) := by
  induction n with
  | zero => unfold sm Ab; simp [Rat.zero_mul]
  | succ n ih =>
    have h1 := ih fun k hk => h k (by omega)
    have h2 := h n (by omega)
    refine (h1.add h2).mono ?_
    rw [Rat.natCast_add]
    have : ((1 : Nat) : Rat) = 1 := rfl
    rw [this]
    grind
theorem areaL_shift (V : Nat → Rat × Rat) (n : Nat) (m bx b2 : Rat) : areaL (fun k => ((V k).1 + bx, (V k).2 + b2)) n m = areaL V n (m - bx) := by
  unfold areaL
  exact sm_congr fun k _ => by
    unfold ed
    simp only
    rw [show m - ((V k).1 + bx) = m - bx - (V k).1 by grind, show m - ((V (nx n k)).1 + bx) = m - bx - (V (nx n k)).1 by grind]
    grind

instance (x e : Rat) : Decidable (Ab x e) := by unfold Ab; infer_instance
end Go.Proofs.Yticoikchcmmpfaa
namespace Go.Proofs.Yticoikchcmmpfaa
open Go.RowKit

def nearOk (n k r s : Nat) : Bool := decide (Ab ((corn n k r).1 - (corn n (nx n k) s).1) (71 / 10)) && (decide (Ab ((corn n k r).2 - (corn n (nx n k) s).2) (71 / 10)) && (decide (Ab ((corn n k r).2 - (corn n (nx n k) s).2) (26 / (n : Rat))) && ((decide (cX n k r = cX n (nx n k) s) || decide (6 / 1000 ≤ (corn n k r).1 - (corn n (nx n k) s).1 ∨ (corn n k r).1 - (corn n (nx n k) s).1 ≤ -(6 / 1000))) && decide (256 / 100 ≤ dd orig (corn n k r) (corn n (nx n k) s) ∧ dd orig (corn n k r) (corn n (nx n k) s) ≤ 100 / (n : Rat)))))
theorem near_all : ((List.range 7).all fun i => (List.range (i + 3)).all fun k => (List.range 5).all fun r => (List.range 5).all fun s => nearOk (i + 3) k r s) = true := by decide +kernel
structure NearP (n k r s : Nat) : Prop where
  dx : Ab ((corn n k r).1 - (corn n (nx n k) s).1) (71 / 10)
  dy : Ab ((corn n k r).2 - (corn n (nx n k) s).2) (71 / 10)
  dyn : Ab ((corn n k r).2 - (corn n (nx n k) s).2) (26 / (n : Rat))
  sep : cX n k r = cX n (nx n k) s ∨ 6 / 1000 ≤ (corn n k r).1 - (corn n (nx n k) s).1 ∨ (corn n k r).1 - (corn n (nx n k) s).1 ≤ -(6 / 1000)
  lo : 256 / 100 ≤ dd orig (corn n k r) (corn n (nx n k) s)
  hi : dd orig (corn n k r) (corn n (nx n k) s) ≤ 100 / (n : Rat)
theorem near_get {n k r s : Nat} (h3 : 3 ≤ n) (h9 : n ≤ 9) (hk : k < n) (hr : r < 5) (hs : s < 5) : NearP n k r s := by
  have h1 := List.all_eq_true.1 (List.all_eq_true.1 (List.all_eq_true.1 (List.all_eq_true.1 near_all (n - 3) (List.mem_range.2 (by omega))) k (List.mem_range.2 (by omega))) r (List.mem_range.2 hr)) s (List.mem_range.2 hs)
  rw [show n - 3 + 3 = n by omega] at h1
  unfold nearOk at h1
  simp only [Bool.and_eq_true, Bool.or_eq_true, decide_eq_true_eq] at h1
  obtain ⟨e1, e2, e3, e4, e5, e6⟩ := h1
  exact ⟨e1, e2, e3, e4, e5, e6⟩

theorem mul_div_n {n : Nat} (hn : 0 < n) (c : Rat) : (n : Rat) * (c / (n : Rat)) = c := by
  have hn0 : (n : Rat) ≠ 0 := by
    have : (0 : Rat) < (n : Rat) := by exact_mod_cast hn
    grind
  have := Rat.div_mul_cancel (a := c) hn0
  grind
theorem sm_const (n : Nat) (c : Rat) : sm n (fun _ => c) = n * c := by
  induction n with
  | zero => unfold sm; simp [Rat.zero_mul]
  | succ m ih => unfold sm; rw [ih, Rat.natCast_add]; have : ((1 : Nat) : Rat) = 1 := rfl; rw [this]; grind
section
variable {n : Nat} {r : Nat → Nat} (h : PlotR n r)
include h
theorem PlotR.near {k : Nat} (hk : k < n) : NearP n k (r k) (r (nx n k)) := near_get h.n3 h.n9 hk (h.r5 k hk) (h.r5 _ (nx_lt hk))
/-- Of the whole: no less than 128/100 a corner, no more than 50. -/
theorem PlotR.whole_lo : (n : Rat) * (128 / 100) ≤ areaW (plotV n r) n := by
  rw [← sm_const]
  exact sm_le fun k hk => by
    have := (h.near hk).lo
    show (128 : Rat) / 100 ≤ dd orig (corn n k (r k)) (corn n (nx n k) (r (nx n k))) / 2
    grind
theorem PlotR.whole_hi : areaW (plotV n r) n ≤ 50 := by
  have : areaW (plotV n r) n ≤ sm n fun _ => 50 / (n : Rat) := sm_le fun k hk => by
    have := (h.near hk).hi
    show dd orig (corn n k (r k)) (corn n (nx n k) (r (nx n k))) / 2 ≤ 50 / (n : Rat)
    have e : (100 : Rat) / (n : Rat) = 2 * (50 / (n : Rat)) := by rw [Rat.div_def, Rat.div_def]; grind
    grind
  rw [sm_const, mul_div_n h.pos] at this
  exact this
theorem PlotR.lip {m m' : Rat} (hm : m ≤ m') : Ab (areaL (plotV n r) n m' - areaL (plotV n r) n m) (26 * (m' - m)) := by
  unfold areaL
  rw [← sm_sub]
  have : Ab (sm n fun k => ed (plotV n r k) (plotV n r (nx n k)) m' - ed (plotV n r k) (plotV n r (nx n k)) m) (n * (26 / (n : Rat) * (m' - m))) := sm_ab fun k hk => by
    have h1 := (h.near hk).dyn
    have h2 : Ab (gg (m' - (plotV n r k).1) (m' - (plotV n r (nx n k)).1) - gg (m - (plotV n r k).1) (m - (plotV n r (nx n k)).1)) (m' - m) := gg_lip (by unfold Ab; constructor <;> grind) (by unfold Ab; constructor <;> grind)
    refine (h1.mul h2).eq ?_
    show ((plotV n r k).2 - (plotV n r (nx n k)).2) * _ - ((plotV n r k).2 - (plotV n r (nx n k)).2) * _ = _
    rw [show (corn n k (r k)).2 = (plotV n r k).2 from rfl, show (corn n (nx n k) (r (nx n k))).2 = (plotV n r (nx n k)).2 from rfl]
    grind
  rw [show (n : Rat) * (26 / (n : Rat) * (m' - m)) = (n : Rat) * (26 / (n : Rat)) * (m' - m) by grind, mul_div_n h.pos] at this
  exact this
/-- Corners that lie a little beside. -/
theorem PlotR.pert {U : Nat → Rat × Rat} {bx b2 d : Rat} (hU : ∀ k, k < n → Ab ((U k).1 - ((plotV n r k).1 + bx)) d ∧ Ab ((U k).2 - ((plotV n r k).2 + b2)) d) (hb : ∀ k, k < n → -(61 / 10) ≤ (U k).1) {m : Rat} (hm : m ≤ 69 / 10) : Ab (areaL U n m - areaL (plotV n r) n (m - bx)) (260 * d) := by
  rw [← areaL_shift (plotV n r) n m bx b2]
  unfold areaL
  rw [← sm_sub]
  have hd : 0 ≤ d := (hU 0 h.pos).1.pos
  have : Ab (sm n fun k => ed (U k) (U (nx n k)) m - ed ((plotV n r k).1 + bx, (plotV n r k).2 + b2) ((plotV n r (nx n k)).1 + bx, (plotV n r (nx n k)).2 + b2) m) (n * (26 / (n : Rat) * d + 26 * d)) := sm_ab fun k hk => by
    have h1 := (h.near hk).dyn
    obtain ⟨a1, a2⟩ := hU k hk
    obtain ⟨a3, a4⟩ := hU _ (nx_lt hk)
    have h2 : Ab (gg (m - (U k).1) (m - (U (nx n k)).1) - gg (m - ((plotV n r k).1 + bx)) (m - ((plotV n r (nx n k)).1 + bx))) d := gg_lip (by unfold Ab at *; constructor <;> grind) (by unfold Ab at *; constructor <;> grind)
    have h3 := gg_le (a := m - (U k).1) (c := m - (U (nx n k)).1) (e := 13) (by have := hb k hk; grind) (by have := hb _ (nx_lt hk); grind) (by decide +kernel)
    have h4 := gg_nonneg (m - (U k).1) (m - (U (nx n k)).1)
    have h5 : Ab (gg (m - (U k).1) (m - (U (nx n k)).1)) 13 := ⟨by grind, h3⟩
    have h6 : Ab (((U k).2 - (U (nx n k)).2) - ((plotV n r k).2 - (plotV n r (nx n k)).2)) (2 * d) := by
      clear h1 h2 h3 h4 h5 a1 a3
      unfold Ab at *
      constructor <;> grind
    have h7 := (h1.mul h2).add (h6.mul h5)
    unfold ed
    simp only
    generalize gg (m - (U k).1) (m - (U (nx n k)).1) = g' at *
    generalize gg (m - ((plotV n r k).1 + bx)) (m - ((plotV n r (nx n k)).1 + bx)) = g at *
    refine (h7.mono (e' := 26 / (n : Rat) * d + 26 * d) (by grind)).eq ?_
    rw [show (corn n k (r k)).2 = (plotV n r k).2 from rfl, show (corn n (nx n k) (r (nx n k))).2 = (plotV n r (nx n k)).2 from rfl]
    grind
  refine this.mono ?_
  have e : (n : Rat) * (26 / (n : Rat) * d + 26 * d) = (n : Rat) * (26 / (n : Rat)) * d + n * (26 * d) := by grind
  rw [e, mul_div_n h.pos]
  have n9 : (n : Rat) ≤ 9 := by exact_mod_cast h.n9
  have := Rat.mul_le_mul_of_nonneg_right n9 (show 0 ≤ 26 * d by grind)
  grind
end
end Go.Proofs.Yticoikchcmmpfaa
