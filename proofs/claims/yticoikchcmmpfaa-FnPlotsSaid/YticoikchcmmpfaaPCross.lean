/-
  Where an edge crosses the cut, in 32 bits.
-/
import Derived.Test.YticoikchcmmpfaaPCut
namespace Go.Proofs.Yticoikchcmmpfaa
open Go.RowKit

def cyX (M XP YP XQ YQ : Option Nat) : Option Nat := ab .add .f32 YP (ab .mul .f32 (ab .quo .f32 (ab .sub .f32 M XP) (ab .sub .f32 XQ XP)) (ab .sub .f32 YQ YP))
theorem mix_ab {s a b e : Rat} (s0 : 0 ≤ s) (s1 : s ≤ 1) (ha : Ab a e) (hb : Ab b e) : Ab (a + s * (b - a)) e := by
  unfold Ab at *
  have a1 := Rat.mul_nonneg s0 (show 0 ≤ e - b by grind)
  have a2 := Rat.mul_nonneg s0 (show 0 ≤ e + b by grind)
  have a3 := Rat.mul_nonneg (show 0 ≤ 1 - s by grind) (show 0 ≤ e - a by grind)
  have a4 := Rat.mul_nonneg (show 0 ≤ 1 - s by grind) (show 0 ≤ e + a by grind)
  constructor <;> grind
/-- The share of the way. -/
theorem share_num {M XP XQ : Option Nat} {m xp xq s : Rat} (hm : Vl .f32 M m) (hxp : Vl .f32 XP xp) (hxq : Vl .f32 XQ xq) (s0 : 0 ≤ s) (s1 : s ≤ 1) (hs : s * (xq - xp) = m - xp) (hD : 49 / 10000 ≤ xq - xp ∨ xq - xp ≤ -(49 / 10000)) (hD7 : Ab (xq - xp) (72 / 10)) :
    ∃ t, Vl .f32 (ab .quo .f32 (ab .sub .f32 M XP) (ab .sub .f32 XQ XP)) t ∧ Ab (t - s) (2 / 10000) ∧ Ab ((t - s) * (xq - xp)) (60 * uu) := by
  have hu : uu ≤ 1 / 16000000 ∧ 0 < uu := by decide +kernel
  have hs1 : Ab s 1 := ⟨by grind, s1⟩
  have bN := hs1.mul hD7
  rw [hs] at bN
  obtain ⟨N, hN, eN⟩ := sub32 hm hxp 3 (by omega) (B := 8) (by decide +kernel) (bN.mono (by decide +kernel))
  obtain ⟨D, hD', eD⟩ := sub32 hxq hxp 3 (by omega) (B := 8) (by decide +kernel) (hD7.mono (by decide +kernel))
  have hD2 : 48 / 10000 ≤ D ∨ D ≤ -(48 / 10000) := by
    unfold Ab at eD
    rcases hD with h | h
    · left; grind
    · right; grind
  have hD0 : D ≠ 0 := by rcases hD2 with h | h <;> grind
  have hq : N / D * D = N := Rat.div_mul_cancel hD0
  generalize N / D = q at *
  have k1 : Ab ((q - s) * D) (16 * uu) := by
    have := eN.sub (hs1.mul eD)
    refine (this.mono (by grind)).eq ?_
    rw [← hs]
    grind
  have k2 : Ab (q - s) (2 / 10000) := (k1.div hD2 (by decide +kernel)).mono (by decide +kernel)
  have bq : Ab q (10002 / 10000) := ((k2.add hs1).mono (by decide +kernel)).eq (by grind)
  obtain ⟨t, ht, et⟩ := quo32 hN hD' 1 (by omega) (B := 2) (by decide +kernel) q hq hD0 (bq.mono (by decide +kernel))
  refine ⟨t, ht, ?_, ?_⟩
  · have e1 : Ab (q - s) (16 * uu / (48 / 10000)) := k1.div hD2 (by decide +kernel)
    refine ((et.add e1).mono ?_).eq (by grind)
    decide +kernel
  · have e1 := et.mul hD7
    have e2 := k2.mul eD
    refine (((k1.add e1).sub e2).mono (e' := 60 * uu) (by grind)).eq ?_
    grind
theorem cross_pt {M XP YP XQ YQ : Option Nat} {m xp yp xq yq s : Rat} (hm : Vl .f32 M m) (hxp : Vl .f32 XP xp) (hyp : Vl .f32 YP yp) (hxq : Vl .f32 XQ xq) (hyq : Vl .f32 YQ yq) (s0 : 0 ≤ s) (s1 : s ≤ 1) (hs : s * (xq - xp) = m - xp) (hD : 49 / 10000 ≤ xq - xp ∨ xq - xp ≤ -(49 / 10000)) (hD7 : Ab (xq - xp) (72 / 10)) (hY7 : Ab (yq - yp) (72 / 10)) (bp : Ab yp (602 / 100)) (bq : Ab yq (602 / 100)) :
    ∃ y, Vl .f32 (cyX M XP YP XQ YQ) y ∧ Ab (y - (yp + s * (yq - yp))) (2 / 1000) ∧ Ab ((xq - xp) * (y - (yp + s * (yq - yp)))) (610 * uu) := by
  have hu : uu ≤ 1 / 16000000 ∧ 0 < uu := by decide +kernel
  have hs1 : Ab s 1 := ⟨by grind, s1⟩
  obtain ⟨t, ht, et, eD⟩ := share_num hm hxp hxq s0 s1 hs hD hD7
  have hmix := mix_ab s0 s1 bp bq
  have bt : Ab t (10002 / 10000) := ((et.add hs1).mono (by decide +kernel)).eq (by grind)
  obtain ⟨d, hd, ed⟩ := sub32 hyq hyp 3 (by omega) (B := 8) (by decide +kernel) (hY7.mono (by decide +kernel))
  have bd : Ab d (721 / 100) := ((ed.add hY7).mono (by decide +kernel)).eq (by grind)
  obtain ⟨p, hp, ep⟩ := mul32 ht hd 3 (by omega) (B := 8) (by decide +kernel) ((bt.mul bd).mono (by decide +kernel))
  have e1 := et.mul hY7
  have e2 := bt.mul ed
  have e3 : Ab (p - s * (yq - yp)) (18 / 10000) := (((ep.add e1).add e2).mono (by grind)).eq (by grind)
  obtain ⟨y, hy, ey⟩ := add32 hyp hp 3 (by omega) (B := 8) (by decide +kernel) (((hmix.add e3).mono (by decide +kernel)).eq (by grind))
  refine ⟨y, hy, ?_, ?_⟩
  · exact ((ey.add e3).mono (by grind)).eq (by grind)
  · have f1 := eD.mul hY7
    have f2 := hD7.mul ((ey.add ep).add e2)
    refine ((f1.add f2).mono (by grind)).eq ?_
    grind
/-- .. as the chain wants it. -/
theorem cross_ok {p q : Rat × Rat} {m y s e : Rat} (s0 : 0 ≤ s) (s1 : s ≤ 1) (hs : s * (q.1 - p.1) = m - p.1) (h : Ab ((q.1 - p.1) * (y - (p.2 + s * (q.2 - p.2)))) e) : CrossOk p q (m, y) m 0 e := by
  refine ⟨s, _, hs, rfl, ⟨by simp only; grind, by simp only; grind⟩, ?_, ?_⟩
  · have := (show Ab s 1 from ⟨by grind, s1⟩).mul h
    rw [← hs]
    simp only
    exact (this.mono (by grind)).eq (by grind)
  · have := (show Ab (1 - s) 1 from ⟨by grind, by grind⟩).mul h
    rw [show m - q.1 = -((1 - s) * (q.1 - p.1)) by grind]
    simp only
    have h2 := (this.mono (e' := e) (by grind))
    unfold Ab at h2 ⊢
    constructor <;> grind
/-- Where the cut lies between two numbers. -/
theorem share_of {a b m : Rat} (h : (a ≤ m ∧ m < b) ∨ (b ≤ m ∧ m < a)) : ∃ s, 0 ≤ s ∧ s ≤ 1 ∧ s * (b - a) = m - a := by
  have hne : b - a ≠ 0 := by rcases h with h | h <;> grind
  refine ⟨(m - a) / (b - a), ?_, ?_, Rat.div_mul_cancel hne⟩
  all_goals
    have e : (m - a) / (b - a) * (b - a) = m - a := Rat.div_mul_cancel hne
    generalize (m - a) / (b - a) = s at *
    rcases h with h | h
  · exact le_mul (c := b - a) (by grind) (by grind)
  · exact le_mul (c := a - b) (by grind) (by grind)
  · exact le_mul (c := b - a) (by grind) (by grind)
  · exact le_mul (c := a - b) (by grind) (by grind)
end Go.Proofs.Yticoikchcmmpfaa
