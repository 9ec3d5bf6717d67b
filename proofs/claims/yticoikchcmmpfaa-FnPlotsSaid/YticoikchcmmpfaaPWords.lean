/-
  The words of the shares, of what the plot is moved by, of the plot and of the moved plot.
-/
import Derived.Test.YticoikchcmmpfaaPLaw
namespace Go.Proofs.Yticoikchcmmpfaa
open Go.RowKit

def eightW : Option Nat := some 1090519040
def fourW : Option Nat := some 1082130432
def shareX (b : Nat) : Option Nat := ab .quo .f32 (some (floatOfInt .f32 (1 + (b : Int)))) eightW
def byX (b : Nat) : Option Nat := ab .quo .f32 (some (floatOfInt .f32 ((b : Int) - 8))) fourW
def shareOk (b : Nat) : Bool := isNum .f32 (shareX b) && decide (wv ((shareX b).getD 0) = (1 + (b : Rat)) / 8)
theorem share_all : ((List.range 7).all shareOk) = true := by decide +kernel
theorem some_of {k : FloatKind} {X : Option Nat} (h : isNum k X = true) : X = some (X.getD 0) := by
  cases X with
  | none => cases h
  | some _ => rfl
theorem share_get {b : Nat} (h : b < 7) : Vl .f32 (shareX b) ((1 + (b : Rat)) / 8) ∧ 1 / 8 ≤ (1 + (b : Rat)) / 8 ∧ (1 + (b : Rat)) / 8 ≤ 7 / 8 := by
  have h1 := List.all_eq_true.1 share_all b (List.mem_range.2 h)
  unfold shareOk at h1
  simp only [Bool.and_eq_true, decide_eq_true_eq] at h1
  have b1 : (b : Rat) ≤ 6 := by exact_mod_cast (show b ≤ 6 by omega)
  have b0 : (0 : Rat) ≤ (b : Rat) := Rat.natCast_nonneg
  refine ⟨?_, by grind, by grind⟩
  rw [← h1.2]
  have e := some_of h1.1
  rw [e] at h1 ⊢
  exact vl_word h1.1
def byV (b : Nat) : Rat := wv ((byX b).getD 0)
def byOk (b : Nat) : Bool := isNum .f32 (byX b) && decide (Ab (byV b) 2)
theorem by_all : ((List.range 17).all byOk) = true := by decide +kernel
theorem by_get {b : Nat} (h : b < 17) : Vl .f32 (byX b) (byV b) ∧ Ab (byV b) 2 := by
  have h1 := List.all_eq_true.1 by_all b (List.mem_range.2 h)
  unfold byOk at h1
  simp only [Bool.and_eq_true, decide_eq_true_eq] at h1
  refine ⟨?_, h1.2⟩
  have e := some_of h1.1
  unfold byV
  rw [e] at h1 ⊢
  exact vl_word h1.1

/-- The words of the plot. -/
def plotP (n : Nat) (r : Nat → Nat) (k : Nat) : Nat × Nat := (cX n k (r k), cY n k (r k))
theorem plotW_of {n : Nat} {r : Nat → Nat} (R : PlotR n r) : PlotW n r 0 0 0 (plotP n r) := by
  have hc := fun k (hk : k < n) => corn_get R.n3 R.n9 hk (R.r5 k hk)
  have hu : (0 : Rat) ≤ 8 * uu := by decide +kernel
  have z : Ab (0 : Rat) 2 := by unfold Ab; constructor <;> decide
  refine ⟨R, fun k hk => ⟨by unfold plotP; rw [vl_cl (hc k hk).2.2.1]; exact (hc k hk).2.2.1.isNum, by unfold plotP; rw [vl_cl (hc k hk).2.2.2.1]; exact (hc k hk).2.2.2.1.isNum⟩, fun k hk => ?_, fun k hk => ?_, fun k hk e => ?_, z, z, hu⟩
  · show Ab (wv (cX n k (r k)) - (wv (cX n k (r k)) + 0)) 0
    unfold Ab; constructor <;> grind
  · show Ab (wv (cY n k (r k)) - (wv (cY n k (r k)) + 0)) 0
    unfold Ab; constructor <;> grind
  · show wv (cX n k (r k)) = wv (cX n (nx n k) (r (nx n k)))
    rw [e]
/-- The words of the moved plot. -/
def MovP (n : Nat) (r : Nat → Nat) (b c : Nat) (Q : Nat → Nat × Nat) : Prop := ∀ k, k < n → cl .f32 (Q k).1 = ab .add .f32 (some (cX n k (r k))) (byX b) ∧ cl .f32 (Q k).2 = ab .add .f32 (some (cY n k (r k))) (byX c)
theorem movW_of {n : Nat} {r : Nat → Nat} {b c : Nat} {Q : Nat → Nat × Nat} (R : PlotR n r) (hb : b < 17) (hc : c < 17) (h : MovP n r b c Q) : PlotW n r (byV b) (byV c) (8 * uu) Q := by
  obtain ⟨vb, bb⟩ := by_get hb
  obtain ⟨vc, bc⟩ := by_get hc
  have key : ∀ k, k < n → ∃ x y, Vl .f32 (cl .f32 (Q k).1) x ∧ Vl .f32 (cl .f32 (Q k).2) y ∧ Ab (x - (wv (cX n k (r k)) + byV b)) (8 * uu) ∧ Ab (y - (wv (cY n k (r k)) + byV c)) (8 * uu) := fun k hk => by
    obtain ⟨_, _, v1, v2, a1, a2⟩ := corn_get R.n3 R.n9 hk (R.r5 k hk)
    obtain ⟨x, hx, ex⟩ := add32 v1 vb 3 (by omega) (B := 8) (by decide +kernel) ((a1.add bb).mono (by decide +kernel))
    obtain ⟨y, hy, ey⟩ := add32 v2 vc 3 (by omega) (B := 8) (by decide +kernel) ((a2.add bc).mono (by decide +kernel))
    rw [← (h k hk).1] at hx
    rw [← (h k hk).2] at hy
    exact ⟨x, y, hx, hy, ex, ey⟩
  refine ⟨R, fun k hk => ?_, fun k hk => ?_, fun k hk => ?_, fun k hk e => ?_, bb, bc, Rat.le_refl⟩
  · obtain ⟨x, y, hx, hy, _⟩ := key k hk
    exact ⟨hx.isNum, hy.isNum⟩
  · obtain ⟨x, y, hx, hy, ex, ey⟩ := key k hk
    rw [vl_wv hx]; exact ex
  · obtain ⟨x, y, hx, hy, ex, ey⟩ := key k hk
    rw [vl_wv hy]; exact ey
  · have h1 := (h k hk).1
    have h2 := (h _ (nx_lt hk)).1
    rw [e, ← h2] at h1
    obtain ⟨x, y, hx, _⟩ := key k hk
    obtain ⟨x', y', hx', _⟩ := key _ (nx_lt hk)
    rw [vl_wv hx, vl_wv hx']
    rw [h1] at hx
    exact hx.uniq hx'
end Go.Proofs.Yticoikchcmmpfaa
