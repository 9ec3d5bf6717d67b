/-
  The law's tests, reckoned; the sum in 64 bits.
-/
import Derived.Test.YticoikchcmmpfaaPEnd
import Derived.Test.YticoikchcmmpfaaLAt
namespace Go.Proofs.Yticoikchcmmpfaa
open Go.RowKit Ieee

theorem gap_num {A B : Option Nat} {a b : Rat} (ha : Vl .f64 A a) (hb : Vl .f64 B b) (h : Ab (a - b) 100) : ∃ g, Vl .f64 (gapX A B) g ∧ ∀ e, Ab (a - b) e → g ≤ e + 128 * vv := by
  have h' : Ab (b - a) 128 := by unfold Ab at *; constructor <;> grind
  obtain ⟨x, hx, ex⟩ := sub64 hb ha 7 (by omega) (B := 128) (by decide +kernel) h'
  obtain ⟨y, hy, ey⟩ := sub64 ha hb 7 (by omega) (B := 128) (by decide +kernel) (h.mono (by decide +kernel))
  clear h h'
  unfold gapX
  split
  · exact ⟨x, hx, fun e he => by unfold Ab at *; grind⟩
  · exact ⟨y, hy, fun e he => by unfold Ab at *; grind⟩
def w64 (b : Nat) : Rat := dv (FloatKind.f64.format.read b)
theorem vl64 {b : Nat} (h : isNum .f64 (some b) = true) : Vl .f64 (some b) (w64 b) := vlW h
def q05 : Nat := 4587366580439587226
def q001 : Nat := 4562254508917369340
def q01 : Nat := 4576918229304087675
def q02 : Nat := 4581421828931458171
def qHalf : Nat := 4602678819172646912
def qOne : Nat := 4607182418800017408
theorem q_num : isNum .f64 (some q05) = true ∧ isNum .f64 (some q001) = true ∧ isNum .f64 (some q01) = true ∧ isNum .f64 (some q02) = true ∧ isNum .f64 (some qHalf) = true ∧ isNum .f64 (some qOne) = true := by decide +kernel
theorem q_val : 49995 / 1000000 ≤ w64 q05 ∧ w64 q05 ≤ 1 ∧ 99 / 100000 ≤ w64 q001 ∧ w64 q001 ≤ 1 ∧ 99 / 10000 ≤ w64 q01 ∧ 199 / 10000 ≤ w64 q02 ∧ w64 qHalf = 1 / 2 ∧ w64 qOne = 1 := by decide +kernel
theorem not_gt {k : FloatKind} {A B : Option Nat} {a b : Rat} (ha : Vl k A a) (hb : Vl k B b) (h : a ≤ b) : (aord k A B == some .gt) = false := by
  obtain ⟨o1, o2, o3⟩ := ha.order hb
  rcases (show a < b ∨ a = b by grind) with c | c
  · rw [o1 c]; rfl
  · rw [o2 c]; rfl
theorem is_lt {k : FloatKind} {A B : Option Nat} {a b : Rat} (ha : Vl k A a) (hb : Vl k B b) (h : a < b) : aord k A B = some .lt := (ha.order hb).1 h

theorem test_area {A : Option Nat} {a W : Rat} (ha : Vl .f32 A a) (W5 : 51 / 10 ≤ W) (e : Ab (a - W) (5920 * uu)) : aord .f32 A (some 0) = some .gt := by
  have hu : uu ≤ 1 / 16000000 ∧ 0 < uu := by decide +kernel
  exact (ha.order zero_vl).2.2 (by unfold Ab at e; grind)
theorem test_gap {A B : Option Nat} {a b : Rat} (ha : Vl .f64 A a) (hb : Vl .f64 B b) (h : Ab (a - b) (49991 / 1000000)) : (aord .f64 (gapX A B) (some q05) == some .gt) = false := by
  have hv : vv ≤ 1 / 1000000000 ∧ 0 < vv := by decide +kernel
  obtain ⟨g, hg, hle⟩ := gap_num ha hb (h.mono (by decide +kernel))
  have := hle _ h
  have q := q_val.1
  exact not_gt hg (vl64 q_num.1) (by grind)
theorem test_same {A B : Option Nat} {a b W : Rat} (ha : Vl .f32 A a) (hb : Vl .f32 B b) (e1 : Ab (a - W) (5920 * uu)) (e2 : Ab (b - W) (5920 * uu)) : (aord .f64 (gapX (wid A) (wid B)) (some q05) == some .gt) = false := by
  have hu : uu ≤ 1 / 16000000 ∧ 0 < uu := by decide +kernel
  exact test_gap ha.wid hb.wid (((e1.sub e2).mono (by grind)).eq (by grind))
theorem test_there {AT BX TH : Option Nat} {a b t : Rat} (ha : Vl .f32 AT a) (hb : Vl .f32 BX b) (ht : Vl .f32 TH t) (ba : Ab a 5) (bb : Ab b 2) (h : Ab (a - (t - b)) (4999 / 100000)) : (aord .f64 (gapX (ab .add .f64 (wid AT) (wid BX)) (wid TH)) (some q05) == some .gt) = false := by
  have hv : vv ≤ 1 / 1000000000 ∧ 0 < vv := by decide +kernel
  obtain ⟨s, hs, es⟩ := add64 ha.wid hb.wid 3 (by omega) (B := 8) (by decide +kernel) ((ba.add bb).mono (by decide +kernel))
  exact test_gap hs ht.wid (((es.add h).mono (by grind)).eq (by grind))
theorem test_low {LO AT : Option Nat} {l a : Rat} (hl : Vl .f32 LO l) (ha : Vl .f32 AT a) (ba : Ab a 5) (h : l ≤ a + 960 * uu) : (aord .f64 (wid LO) (ab .add .f64 (wid AT) (some q001)) == some .gt) = false := by
  have hv : vv ≤ 1 / 1000000000 ∧ 0 < vv := by decide +kernel
  have hu : uu ≤ 1 / 16000000 ∧ 0 < uu := by decide +kernel
  have q := q_val
  obtain ⟨s, hs, es⟩ := add64 ha.wid (vl64 q_num.2.1) 3 (by omega) (B := 8) (by decide +kernel) (by unfold Ab at *; constructor <;> grind)
  refine not_gt hl.wid hs ?_
  unfold Ab at es
  grind

/-! ### The sum in 64 bits -/
def sum64 (P : Nat → Nat × Nat) (N : Nat) : Nat → Option Nat
  | 0 => some 0
  | k + 1 => ab .add .f64 (sum64 P N k) (ab .mul .f64 (some qHalf) (ab .sub .f64 (ab .mul .f64 (wid (cl .f32 (P k).1)) (wid (cl .f32 (P (nx N k)).2))) (ab .mul .f64 (wid (cl .f32 (P k).2)) (wid (cl .f32 (P (nx N k)).1)))))
theorem zero64 : Vl .f64 (some 0) 0 := ⟨0, false, 0, -1074, rfl, by decide, by rw [dv_eq]; simp [Rat.zero_mul, Rat.mul_zero]⟩
theorem cross64 {A B C D : Option Nat} {a b c d : Rat} (ha : Vl .f64 A a) (hb : Vl .f64 B b) (hc : Vl .f64 C c) (hd : Vl .f64 D d) (ba : Ab a (603 / 100)) (bb : Ab b (603 / 100)) (bc : Ab c (603 / 100)) (bd : Ab d (603 / 100)) :
    ∃ r, Vl .f64 (ab .mul .f64 (some qHalf) (ab .sub .f64 (ab .mul .f64 A D) (ab .mul .f64 B C))) r ∧ Ab (r - (a * d - b * c) / 2) (192 * vv) := by
  have hu : vv ≤ 1 / 16000000 ∧ 0 < vv := by decide +kernel
  have b1 := ba.mul bd
  have b2 := bb.mul bc
  obtain ⟨m1, h1, e1⟩ := mul64 ha hd 6 (by omega) (B := 64) (by decide +kernel) (b1.mono (by decide +kernel))
  obtain ⟨m2, h2, e2⟩ := mul64 hb hc 6 (by omega) (B := 64) (by decide +kernel) (b2.mono (by decide +kernel))
  have b3 : Ab (m1 - m2) 74 := by
    unfold Ab at *
    constructor <;> grind
  obtain ⟨r, hr, e3⟩ := sub64 h1 h2 7 (by omega) (B := 128) (by decide +kernel) (b3.mono (by decide +kernel))
  have q := q_val.2.2.2.2.2.2.1
  have br : Ab (w64 qHalf * r) 64 := by
    rw [q]
    clear e1 e2
    unfold Ab at *
    constructor <;> grind
  obtain ⟨t, ht, et⟩ := mul64 (vl64 q_num.2.2.2.2.1) hr 6 (by omega) (B := 64) (by decide +kernel) br
  refine ⟨t, ht, ?_⟩
  rw [q] at et
  clear b1 b2 b3 br
  unfold Ab at *
  constructor <;> grind
theorem BoxN.sum64 {P : Nat → Nat × Nat} {N : Nat} {bx b2 : Rat} (h : BoxN P N bx b2) (hN : N ≤ 14) {k : Nat} (hk : k ≤ N) : ∃ v, Vl .f64 (sum64 P N k) v ∧ Ab (v - sumV P N k / 2) (k * (448 * vv)) := by
  have hu : vv ≤ 1 / 16000000 ∧ 0 < vv := by decide +kernel
  induction k with
  | zero =>
    refine ⟨0, zero64, ?_⟩
    unfold sumV sm Ab
    simp [Rat.zero_mul, Rat.div_def]
    decide +kernel
  | succ k ih =>
    obtain ⟨v, hv, ev⟩ := ih (by omega)
    have hk' : k < N := by omega
    have hn := nx_lt hk'
    obtain ⟨a1, a2⟩ := h.in6 hk'
    obtain ⟨a3, a4⟩ := h.in6 hn
    have n1 := h.num k hk'
    have n2 := h.num _ hn
    obtain ⟨c, hc, ec⟩ := cross64 (numF_vl n1.1).wid (numF_vl n1.2).wid (numF_vl n2.1).wid (numF_vl n2.2).wid a1 a2 a3 a4
    have e : sumV P N (k + 1) = sumV P N k + (wv (P k).1 * wv (P (nx N k)).2 - wv (P k).2 * wv (P (nx N k)).1) := rfl
    have hp := h.part hN hk
    rw [e] at hp ⊢
    have hc1 : ((k + 1 : Nat) : Rat) = (k : Rat) + 1 := by rw [Rat.natCast_add]; rfl
    rw [hc1]
    have k14 : (k : Rat) ≤ 14 := by exact_mod_cast (show k ≤ 14 by omega)
    have k14' := Rat.mul_le_mul_of_nonneg_right k14 (show 0 ≤ 448 * vv by grind)
    generalize wv (P k).1 * wv (P (nx N k)).2 - wv (P k).2 * wv (P (nx N k)).1 = C at *
    generalize sumV P N k = S at *
    clear a1 a2 a3 a4 n1 n2
    have b : Ab (v + c) 256 := by
      unfold Ab at *
      constructor <;> grind
    obtain ⟨w, hw, ew⟩ := add64 hv hc 8 (by omega) (B := 256) (by decide +kernel) b
    refine ⟨w, hw, ?_⟩
    clear b hp k14'
    unfold Ab at *
    constructor <;> grind
/-- The sum over the law's list is near the area left of the cut. -/
theorem PlotW.left64 {n : Nat} {r : Nat → Nat} {d : Rat} {P : Nat → Nat × Nat} (h : PlotW n r 0 0 d P) {m : Rat} (bm : m ≤ 69 / 10) {ws : List (Nat × Nat)} (hc : CutSt P n m (100 * uu) (650 * uu) 0 0 n ws) : ∃ v, Vl .f64 (sum64 (fun j => ws.getD j (0, 0)) ws.length ws.length) v ∧ Ab (v - areaL (plotV n r) n m) (1 / 100) := by
  have hu : uu ≤ 1 / 16000000 ∧ 0 < uu := by decide +kernel
  have hv : vv ≤ 1 / 1000000000 ∧ 0 < vv := by decide +kernel
  have d8 := h.d8
  have n9 : (n : Rat) ≤ 9 := by exact_mod_cast h.R.n9
  obtain ⟨c1, c2⟩ := cut_done h.R.pos (by grind) hc
  have h1 := h.pertU (m := m) bm
  rw [show m - 0 = m by grind] at h1
  have hw : ∀ j, j < ws.length → InBox (ws.getD j (0, 0)) 0 0 := fun j hj => by
    rw [List.getD_eq_getElem?_getD, List.getElem?_eq_getElem hj]
    exact hc.box _ (List.getElem_mem hj)
  have hB : BoxN (fun j => ws.getD j (0, 0)) ws.length 0 0 := ⟨fun k hk => (hw k hk).1, fun k hk => (hw k hk).2.1, fun k hk => (hw k hk).2.2, h.cx, h.cy⟩
  have hlen : ws.length ≤ 14 := by have := h.R.n9; omega
  have l14 : (ws.length : Rat) ≤ 14 := by exact_mod_cast hlen
  have n9' := Rat.mul_le_mul_of_nonneg_right n9 (show 0 ≤ 650 * uu / 2 + 100 * uu * 10 by grind)
  have l14' := Rat.mul_le_mul_of_nonneg_right l14 (show 0 ≤ 448 * vv by grind)
  obtain ⟨v, hv, ev⟩ := hB.sum64 hlen (Nat.le_refl _)
  exact ⟨v, hv, (((ev.add c1).add h1).mono (by grind)).eq (by grind)⟩
theorem test_left {L S A : Option Nat} {l s a W T : Rat} (hl : Vl .f64 L l) (hs : Vl .f32 S s) (ha : Vl .f32 A a) (W5 : 51 / 10 ≤ W) (W50 : W ≤ 50) (s0 : 0 ≤ s) (s1 : s ≤ 7 / 8) (ea : Ab (a - W) (5920 * uu)) (el : Ab (l - T) (1 / 100)) (eT : Ab (T - s * W) (17820 * uu)) : aord .f64 (gapX L (ab .mul .f64 (wid S) (wid A))) (ab .mul .f64 (some q05) (ab .add .f64 (some qOne) (wid A))) = some .lt := by
  have hu : uu ≤ 1 / 16000000 ∧ 0 < uu := by decide +kernel
  have hv : vv ≤ 1 / 1000000000 ∧ 0 < vv := by decide +kernel
  have q := q_val
  have bs : Ab s (7 / 8) := ⟨by grind, s1⟩
  have ba : Ab a 51 := by unfold Ab at *; constructor <;> grind
  have es := bs.mul ea
  obtain ⟨p, hp, ep⟩ := mul64 hs.wid ha.wid 6 (by omega) (B := 64) (by decide +kernel) ((bs.mul ba).mono (by decide +kernel))
  obtain ⟨u, hu', eu⟩ := add64 (vl64 q_num.2.2.2.2.2) ha.wid 6 (by omega) (B := 64) (by decide +kernel) (by rw [q.2.2.2.2.2.2.2]; unfold Ab at *; constructor <;> grind)
  rw [q.2.2.2.2.2.2.2] at eu
  have bq : Ab (w64 q05) 1 := ⟨by grind, q.2.1⟩
  have bu : Ab u 60 := by clear es ep el eT bs; unfold Ab at *; constructor <;> grind
  have bu0 : 6 ≤ u := by clear es ep el eT bs bu; unfold Ab at *; grind
  obtain ⟨t, ht, et⟩ := mul64 (vl64 q_num.1) hu' 6 (by omega) (B := 64) (by decide +kernel) ((bq.mul bu).mono (by decide +kernel))
  have ht0 : 29 / 100 ≤ t := by
    have := Rat.mul_le_mul_of_nonneg_left bu0 (show 0 ≤ w64 q05 by grind)
    clear es ep el eT bs bu ba
    unfold Ab at et
    grind
  have hgap : Ab (l - p) (2 / 100) := by
    have := ((el.add eT).sub (ep.add es)).mono (e' := 2 / 100) (by grind)
    exact this.eq (by grind)
  obtain ⟨g, hg, hle⟩ := gap_num hl hp (hgap.mono (by decide +kernel))
  exact is_lt hg ht (by have := hle _ hgap; grind)
end Go.Proofs.Yticoikchcmmpfaa
