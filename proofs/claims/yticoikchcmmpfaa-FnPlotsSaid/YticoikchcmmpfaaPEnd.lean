/-
  Two searches for the same share end near one another. The law's own list of what lies left.
-/
import Derived.Test.YticoikchcmmpfaaPBis
namespace Go.Proofs.Yticoikchcmmpfaa
open Go.RowKit Ieee

theorem PlotR.cut_le {n : Nat} {r : Nat → Nat} (R : PlotR n r) {a b s : Rat} (s0 : 1 / 8 ≤ s) (s1 : s ≤ 7 / 8) (ha : Ab (areaL (plotV n r) n a - s * areaW (plotV n r) n) (17820 * uu)) (hb : Ab (areaL (plotV n r) n b - s * areaW (plotV n r) n) (17820 * uu)) : b - a ≤ 4999 / 100000 := by
  have hu : uu ≤ 1 / 16000000 ∧ 0 < uu := by decide +kernel
  by_cases h : b - a ≤ 4999 / 100000
  · exact h
  · exfalso
    have w5 := R.whole
    have w50 := R.whole_hi
    have h1 := (R.lip (m := b) (m' := b + 1 / 100000) (by grind)).2
    have h2 := R.mono (m := b) (m' := b + 1 / 100000) (by grind)
    have t0 := Rat.mul_le_mul_of_nonneg_right s0 (show 0 ≤ areaW (plotV n r) n by grind)
    have t1 := Rat.mul_le_mul_of_nonneg_right s1 (show 0 ≤ areaW (plotV n r) n by grind)
    unfold Ab at ha hb
    have := R.grow (m := a) (m' := b + 1 / 100000) (by grind) (by grind) (by grind)
    grind
theorem PlotR.cut_near {n : Nat} {r : Nat → Nat} (R : PlotR n r) {a b s : Rat} (s0 : 1 / 8 ≤ s) (s1 : s ≤ 7 / 8) (ha : Ab (areaL (plotV n r) n a - s * areaW (plotV n r) n) (17820 * uu)) (hb : Ab (areaL (plotV n r) n b - s * areaW (plotV n r) n) (17820 * uu)) : Ab (a - b) (4999 / 100000) := by
  have h1 := R.cut_le s0 s1 ha hb
  have h2 := R.cut_le s0 s1 hb ha
  unfold Ab
  constructor <;> grind

/-! ### The law's own crossing -/
def shX (M XP XQ : Option Nat) : Option Nat := ab .quo .f32 (ab .sub .f32 M XP) (ab .sub .f32 XQ XP)
def lcA (M XP YP XQ YQ : Option Nat) : Option Nat := mulRe (ab .sub .f32 XQ XP) (ab .sub .f32 YQ YP) (shX M XP XQ) (some 0)
def lcB (M XP YP XQ YQ : Option Nat) : Option Nat := mulIm (ab .sub .f32 XQ XP) (ab .sub .f32 YQ YP) (shX M XP XQ) (some 0)
def lcX (M XP YP XQ YQ : Option Nat) : Option Nat := ab .add .f32 XP (nar (lcA M XP YP XQ YQ))
def lcY (M XP YP XQ YQ : Option Nat) : Option Nat := ab .add .f32 YP (nar (lcB M XP YP XQ YQ))
theorem cprod {A B S : Option Nat} {a b s : Rat} (ha : Vl .f32 A a) (hb : Vl .f32 B b) (hs : Vl .f32 S s) (ba : Ab (a * s) (79 / 10)) (bb : Ab (b * s) (79 / 10)) : Fits (mulRe A B S (some 0)) ∧ Fits (mulIm A B S (some 0)) ∧ ∃ x y, Vl .f32 (nar (mulRe A B S (some 0))) x ∧ Vl .f32 (nar (mulIm A B S (some 0))) y ∧ Ab (x - a * s) (9 * uu) ∧ Ab (y - b * s) (9 * uu) := by
  have hv : vv ≤ 1 / 1000000 * uu ∧ 0 < vv ∧ uu ≤ 1 / 1000 ∧ 0 < uu := by decide +kernel
  have hz := zero_vl.wid
  obtain ⟨p, hp, ep⟩ := mul64 ha.wid hs.wid 3 (by omega) (B := 8) (by decide +kernel) (ba.mono (by decide +kernel))
  obtain ⟨q, hq, eq⟩ := mul64 hb.wid hz 0 (by omega) (B := 1) (by decide +kernel) (by rw [Rat.mul_zero]; unfold Ab; decide +kernel)
  obtain ⟨p', hp', ep'⟩ := mul64 ha.wid hz 0 (by omega) (B := 1) (by decide +kernel) (by rw [Rat.mul_zero]; unfold Ab; decide +kernel)
  obtain ⟨q', hq', eq'⟩ := mul64 hb.wid hs.wid 3 (by omega) (B := 8) (by decide +kernel) (bb.mono (by decide +kernel))
  rw [Rat.mul_zero] at eq ep'
  generalize a * s = t at *
  generalize b * s = t' at *
  obtain ⟨u, hu, eu⟩ := sub64 hp hq 3 (by omega) (B := 8) (by decide +kernel) (by clear ep' eq' bb; unfold Ab at *; constructor <;> grind)
  obtain ⟨v, hv', ev⟩ := add64 hp' hq' 3 (by omega) (B := 8) (by decide +kernel) (by clear ep eq ba; unfold Ab at *; constructor <;> grind)
  obtain ⟨f1, x, hx, ex⟩ := nar32 hu 3 (by omega) (B := 8) (by decide +kernel) (by clear ep' eq' bb ev; unfold Ab at *; constructor <;> grind)
  obtain ⟨f2, y, hy, ey⟩ := nar32 hv' 3 (by omega) (B := 8) (by decide +kernel) (by clear ep eq ba eu ex; unfold Ab at *; constructor <;> grind)
  refine ⟨f1, f2, x, y, hx, hy, ?_, ?_⟩
  · clear ep' eq' bb ev ey ba
    unfold Ab at *
    constructor <;> grind
  · clear ep eq ba eu ex bb
    unfold Ab at *
    constructor <;> grind
theorem law_cross {M XP YP XQ YQ : Option Nat} {m xp yp xq yq s : Rat} (hm : Vl .f32 M m) (hxp : Vl .f32 XP xp) (hyp : Vl .f32 YP yp) (hxq : Vl .f32 XQ xq) (hyq : Vl .f32 YQ yq) (s0 : 0 ≤ s) (s1 : s ≤ 1) (hs : s * (xq - xp) = m - xp) (hD : 49 / 10000 ≤ xq - xp ∨ xq - xp ≤ -(49 / 10000)) (hD7 : Ab (xq - xp) (72 / 10)) (hY7 : Ab (yq - yp) (72 / 10)) (bxp : Ab xp (602 / 100)) (bxq : Ab xq (602 / 100)) (bp : Ab yp (602 / 100)) (bq : Ab yq (602 / 100)) :
    Fits (lcA M XP YP XQ YQ) ∧ Fits (lcB M XP YP XQ YQ) ∧ ∃ x y, Vl .f32 (lcX M XP YP XQ YQ) x ∧ Vl .f32 (lcY M XP YP XQ YQ) y ∧ Ab (x - m) (100 * uu) ∧ Ab (y - (yp + s * (yq - yp))) (2 / 1000) ∧ Ab ((xq - xp) * (y - (yp + s * (yq - yp)))) (650 * uu) := by
  have hu : uu ≤ 1 / 16000000 ∧ 0 < uu := by decide +kernel
  have hs1 : Ab s 1 := ⟨by grind, s1⟩
  obtain ⟨t, ht, et, eD⟩ := share_num hm hxp hxq s0 s1 hs hD hD7
  have hmix := mix_ab s0 s1 bp bq
  have hmx := mix_ab s0 s1 bxp bxq
  have bt : Ab t (10002 / 10000) := ((et.add hs1).mono (by decide +kernel)).eq (by grind)
  obtain ⟨c, hc, ec⟩ := sub32 hxq hxp 3 (by omega) (B := 8) (by decide +kernel) (hD7.mono (by decide +kernel))
  obtain ⟨d, hd, ed⟩ := sub32 hyq hyp 3 (by omega) (B := 8) (by decide +kernel) (hY7.mono (by decide +kernel))
  have bc : Ab c (721 / 100) := ((ec.add hD7).mono (by decide +kernel)).eq (by grind)
  have bd : Ab d (721 / 100) := ((ed.add hY7).mono (by decide +kernel)).eq (by grind)
  obtain ⟨f1, f2, p, q, hp, hq, ep, eq⟩ := cprod hc hd ht ((bc.mul bt).mono (by decide +kernel)) ((bd.mul bt).mono (by decide +kernel))
  have e1 := et.mul hY7
  have e2 := bt.mul ed
  have e4 := bt.mul ec
  have e3 : Ab (q - s * (yq - yp)) (18 / 10000) := (((eq.add e1).add e2).mono (by grind)).eq (by grind)
  have e5 : Ab (p - s * (xq - xp)) (80 * uu) := (((ep.add eD).add e4).mono (by grind)).eq (by grind)
  obtain ⟨y, hy, ey⟩ := add32 hyp hq 3 (by omega) (B := 8) (by decide +kernel) (((hmix.add e3).mono (by decide +kernel)).eq (by grind))
  obtain ⟨x, hx, ex⟩ := add32 hxp hp 3 (by omega) (B := 8) (by decide +kernel) (((hmx.add e5).mono (by decide +kernel)).eq (by grind))
  refine ⟨f1, f2, x, y, hx, hy, ?_, ?_, ?_⟩
  · exact ((ex.add e5).mono (by grind)).eq (by grind)
  · exact ((ey.add e3).mono (by grind)).eq (by grind)
  · have g1 := eD.mul hY7
    have g2 := hD7.mul ((ey.add eq).add e2)
    refine ((g1.add g2).mono (by grind)).eq ?_
    grind
theorem cross_ok2 {p q : Rat × Rat} {m x y s e ex : Rat} (s0 : 0 ≤ s) (s1 : s ≤ 1) (hs : s * (q.1 - p.1) = m - p.1) (hx : Ab (x - m) ex) (h : Ab ((q.1 - p.1) * (y - (p.2 + s * (q.2 - p.2)))) e) : CrossOk p q (x, y) m ex e := by
  refine ⟨s, _, hs, rfl, hx, ?_, ?_⟩
  · have := (show Ab s 1 from ⟨by grind, s1⟩).mul h
    rw [← hs]
    simp only
    exact (this.mono (by grind)).eq (by grind)
  · have := (show Ab (1 - s) 1 from ⟨by grind, by grind⟩).mul h
    rw [show m - q.1 = -((1 - s) * (q.1 - p.1)) by grind]
    simp only
    have h2 := (this.mono (e' := e) (by grind))
    unfold Ab at h2 ⊢
    constructor <;> grind
section
variable {n : Nat} {r : Nat → Nat} {bx b2 d : Rat} {P : Nat → Nat × Nat} (h : PlotW n r bx b2 d P)
include h
/-- A crossing, as the law reckons it. -/
theorem PlotW.crossL {M : Nat} (hM : NumF M) (bm : Ab (wv M - bx) (4011 / 1000)) {k : Nat} (hk : k < n) (hc : (wv (pw P n k).1 ≤ wv M ∧ wv M < wv (P k).1) ∨ (wv (P k).1 ≤ wv M ∧ wv M < wv (pw P n k).1)) :
    Fits (lcA (cl .f32 M) (cl .f32 (pw P n k).1) (cl .f32 (pw P n k).2) (cl .f32 (P k).1) (cl .f32 (P k).2)) ∧ Fits (lcB (cl .f32 M) (cl .f32 (pw P n k).1) (cl .f32 (pw P n k).2) (cl .f32 (P k).1) (cl .f32 (P k).2)) ∧
    ∀ c c', cl .f32 c = lcX (cl .f32 M) (cl .f32 (pw P n k).1) (cl .f32 (pw P n k).2) (cl .f32 (P k).1) (cl .f32 (P k).2) → cl .f32 c' = lcY (cl .f32 M) (cl .f32 (pw P n k).1) (cl .f32 (pw P n k).2) (cl .f32 (P k).1) (cl .f32 (P k).2) → InBox (c, c') bx b2 ∧ Ab (wv c') (603 / 100) ∧ CrossOk (pt (pw P n k)) (pt (P k)) (pt (c, c')) (wv M) (100 * uu) (650 * uu) := by
  obtain ⟨hj, ej⟩ := nx_pv hk
  have sd := h.side hj
  have p4 := h.pt4 hj
  have q4 := h.pt4 hk
  have p6 := h.in6 hj
  have q6 := h.in6 hk
  have np := h.num _ hj
  have nq := h.num _ hk
  rw [ej] at sd
  rw [show P (if k = 0 then n - 1 else k - 1) = pw P n k from rfl] at *
  obtain ⟨s1, s2, s3⟩ := sd
  obtain ⟨s, hs0, hs1, hs⟩ := share_of hc
  have hD : 49 / 10000 ≤ wv (P k).1 - wv (pw P n k).1 ∨ wv (P k).1 - wv (pw P n k).1 ≤ -(49 / 10000) := by
    rcases s3 with e | e
    · exfalso; rw [e] at hc; rcases hc with hc | hc <;> grind
    · exact e
  obtain ⟨f1, f2, x, y, hx, hy, e0, e1, e2⟩ := law_cross (numF_vl hM) (numF_vl np.1) (numF_vl np.2) (numF_vl nq.1) (numF_vl nq.2) hs0 hs1 hs hD s1 s2 p6.1 q6.1 p6.2 q6.2
  refine ⟨f1, f2, fun c c' h1 h2 => ?_⟩
  rw [← h1] at hx
  rw [← h2] at hy
  have hwx := vl_wv hx
  have hwy := vl_wv hy
  have m1 := mix_ab hs0 hs1 p4.2 q4.2
  have m2 := mix_ab hs0 hs1 p6.2 q6.2
  refine ⟨⟨⟨hx.isNum, hy.isNum⟩, ?_, ?_⟩, ?_, ?_⟩
  · show Ab (wv c - bx) _
    rw [hwx]
    exact ((e0.add bm).mono (by decide +kernel)).eq (by grind)
  · show Ab (wv c' - b2) _
    rw [hwy]
    exact ((m1.add e1).mono (by decide +kernel)).eq (by grind)
  · rw [hwy]
    exact ((m2.add e1).mono (by decide +kernel)).eq (by grind)
  · have : pt (c, c') = (x, y) := by unfold pt; simp only; rw [hwx, hwy]
    rw [this]
    exact cross_ok2 (p := pt (pw P n k)) (q := pt (P k)) hs0 hs1 hs e0 e2
end
end Go.Proofs.Yticoikchcmmpfaa
