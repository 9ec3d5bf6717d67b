/-
  The point at two distances.
-/
import Derived.Test.YticoikchcmmpfaaLNum2
namespace Go.Proofs.Yticoikchcmmpfaa
open Go.RowKit

def twoW : Option Nat := some 1073741824
def numX (D R S : Option Nat) : Option Nat := ab .sub .f32 (ab .add .f32 (ab .mul .f32 D D) (ab .mul .f32 R R)) (ab .mul .f32 S S)
def xX (D R S : Option Nat) : Option Nat := ab .quo .f32 (numX D R S) (ab .mul .f32 twoW D)
def yX (R X : Option Nat) : Option Nat := ab .sub .f32 (ab .mul .f32 R R) (ab .mul .f32 X X)

theorem two_num : Vl .f32 twoW 2 := ⟨1073741824, false, 8388608, -22, rfl, by decide, by decide +kernel⟩

theorem x_alg {d r s n dd q x : Rat} (hn : Ab (n - (d * d + r * r - s * s)) (900 * uu)) (hdd : Ab (dd - 2 * d) (32 * uu)) (hq : q * dd = n) (hx : Ab (x - q) (384 * uu)) (bq : Ab q 128) (bd : Ab d 12) : Ab (2 * d * x - (d * d + r * r - s * s)) (15000 * uu) := by
  have m1 := hdd.mul bq
  have m2 := bd.mul hx
  have : 2 * d * x - (d * d + r * r - s * s) = (n - (d * d + r * r - s * s)) - (dd - 2 * d) * q + (d * (x - q) + d * (x - q)) := by grind
  exact ((hn.sub m1).add (m2.add m2)).eq this |>.mono (by have := uu_pos; grind)

/-- The distance, and how far along it. -/
theorem longs1 {A1 A2 B1 B2 R S : Option Nat} {a1 a2 b1 b2 r s : Rat} (hA1 : Vl .f32 A1 a1) (hA2 : Vl .f32 A2 a2) (hB1 : Vl .f32 B1 b1) (hB2 : Vl .f32 B2 b2) (hR : Vl .f32 R r) (hS : Vl .f32 S s)
    (g1 : 11 / 10 ≤ b1 - a1) (g2 : b1 - a1 ≤ 8) (g3 : Ab (b2 - a2) 8) (r1 : 9 / 10 ≤ r) (r2 : r ≤ 61 / 10) (s1 : 9 / 10 ≤ s) (s2 : s ≤ 55 / 10) :
    ∃ w1 w2 d x y, Vl .f32 (ab .sub .f32 B1 A1) w1 ∧ Vl .f32 (ab .sub .f32 B2 A2) w2 ∧ Fits (sqrtF (powX (ab .sub .f32 B1 A1) (ab .sub .f32 B2 A2))) ∧ Vl .f32 (longX (ab .sub .f32 B1 A1) (ab .sub .f32 B2 A2)) d ∧
      Vl .f32 (xX (longX (ab .sub .f32 B1 A1) (ab .sub .f32 B2 A2)) R S) x ∧ Vl .f32 (yX R (xX (longX (ab .sub .f32 B1 A1) (ab .sub .f32 B2 A2)) R S)) y ∧
      Ab (w1 - (b1 - a1)) (8 * uu) ∧ Ab (w2 - (b2 - a2)) (8 * uu) ∧ 109 / 100 ≤ d ∧ d ≤ 12 ∧ Ab (d * d - (w1 * w1 + w2 * w2)) (1 / 1000) ∧ Ab (2 * d * x - (d * d + r * r - s * s)) (15000 * uu) ∧ (0 ≤ y → Ab x (62 / 10)) ∧ Ab x 100 := by
  have hu : uu ≤ 1 / 16000000 ∧ 0 < uu := by decide +kernel
  obtain ⟨w1, hw1, e1⟩ := sub32 hB1 hA1 3 (by omega) (B := 8) (by decide +kernel) ⟨by grind, g2⟩
  obtain ⟨w2, hw2, e2⟩ := sub32 hB2 hA2 3 (by omega) (B := 8) (by decide +kernel) g3
  have bw1 : Ab w1 (801 / 100) := by unfold Ab at *; constructor <;> grind
  have bw2 : Ab w2 (801 / 100) := by unfold Ab at *; constructor <;> grind
  have lw1 : 1099 / 1000 ≤ w1 := by unfold Ab at *; grind
  obtain ⟨f, d, hd, d0, ed⟩ := long_num hw1 hw2 (bw1.mono (by decide +kernel)) (bw2.mono (by decide +kernel))
  have q1 := (bw1.mul bw1).2
  have q2 := (bw2.mul bw2).2
  have q3 := sq_nn w2
  have q4 : 1099 / 1000 * (1099 / 1000) ≤ w1 * w1 := by
    have a1 := Rat.mul_le_mul_of_nonneg_left lw1 (show (0 : Rat) ≤ 1099 / 1000 by decide +kernel)
    have a2 := Rat.mul_le_mul_of_nonneg_right lw1 (show (0 : Rat) ≤ w1 by grind)
    grind
  have du : d ≤ 12 := by
    refine le_of_sq (by decide +kernel) ?_
    unfold Ab at ed
    grind
  have dl : 109 / 100 ≤ d := by
    refine le_of_sq d0 ?_
    unfold Ab at ed
    grind
  have bd : Ab d 12 := ⟨by grind, du⟩
  have dd1 := (bd.mul bd).2
  have dd0 := sq_nn d
  have br : Ab r (61 / 10) := ⟨by grind, r2⟩
  have bs : Ab s (55 / 10) := ⟨by grind, s2⟩
  have rr1 := (br.mul br).2
  have ss1 := (bs.mul bs).2
  have rr0 := sq_nn r
  have ss0 := sq_nn s
  obtain ⟨m1, hm1, em1⟩ := mul32 hd hd 8 (by omega) (B := 256) (by decide +kernel) ⟨by grind, by grind⟩
  obtain ⟨m2, hm2, em2⟩ := mul32 hR hR 6 (by omega) (B := 64) (by decide +kernel) ⟨by grind, by grind⟩
  obtain ⟨m3, hm3, em3⟩ := mul32 hS hS 6 (by omega) (B := 64) (by decide +kernel) ⟨by grind, by grind⟩
  obtain ⟨m4, hm4, em4⟩ := add32 hm1 hm2 8 (by omega) (B := 256) (by decide +kernel) (by unfold Ab at em1 em2 ⊢; constructor <;> grind)
  obtain ⟨n, hn, en⟩ := sub32 hm4 hm3 8 (by omega) (B := 256) (by decide +kernel) (by unfold Ab at em1 em2 em3 em4 ⊢; constructor <;> grind)
  have en' : Ab (n - (d * d + r * r - s * s)) (900 * uu) := by unfold Ab at en em1 em2 em3 em4 ⊢; constructor <;> grind
  have bn : Ab n 190 := by unfold Ab at en' ⊢; constructor <;> grind
  obtain ⟨dd, hdd, edd⟩ := mul32 two_num hd 5 (by omega) (B := 32) (by decide +kernel) ⟨by grind, by grind⟩
  have ddl : 2 ≤ dd := by unfold Ab at edd; grind
  have htc : n / dd * dd = n := Rat.div_mul_cancel (by grind)
  generalize hq : n / dd = q at *
  have bq : Ab q 95 := by
    have := Ab.div (x := q) (c := dd) (e := 190) (b := 2) (by rw [htc]; exact bn) (.inl ddl) (by decide +kernel)
    exact this.mono (by decide +kernel)
  obtain ⟨x, hx, ex⟩ := quo32 hn hdd 7 (by omega) (B := 128) (by decide +kernel) q htc (by grind) (bq.mono (by decide +kernel))
  have ex' : Ab (x - q) (384 * uu) := ex.mono (by grind)
  have hxr := x_alg en' edd htc ex' (bq.mono (by decide +kernel)) bd
  have bx : Ab x 100 := by unfold Ab at ex' bq ⊢; constructor <;> grind
  have xx1 := (bx.mul bx).2
  have xx0 := sq_nn x
  obtain ⟨m5, hm5, em5⟩ := mul32 hx hx 14 (by omega) (B := 16384) (by decide +kernel) ⟨by grind, by grind⟩
  obtain ⟨y, hy, ey⟩ := sub32 hm2 hm5 14 (by omega) (B := 16384) (by decide +kernel) (by unfold Ab at em2 em5 ⊢; constructor <;> grind)
  refine ⟨w1, w2, d, x, y, hw1, hw2, f, hd, hx, hy, e1, e2, dl, du, ed, hxr, fun hy0 => ?_, bx⟩
  have hxx : x * x ≤ 62 / 10 * (62 / 10) := by unfold Ab at ey em2 em5; grind
  refine ⟨?_, le_of_sq (by decide +kernel) hxx⟩
  have : -x ≤ 62 / 10 := le_of_sq (by decide +kernel) (by grind)
  grind

theorem root_num {Y : Option Nat} {y : Rat} (hy : Vl .f32 Y y) (h0 : 0 ≤ y) (h1 : y ≤ 40) : ∃ h, Vl .f32 (rootF Y) h ∧ 0 ≤ h ∧ Ab (h * h - y) (200 * uu) ∧ h ≤ 65 / 10 := by
  have hu : uu ≤ 1 / 16000000 ∧ 0 < uu := by decide +kernel
  obtain ⟨s, hs, ns, es⟩ := hy.wid.sqrt h0 3 (by omega) (Rat.le_trans h1 (by decide +kernel))
  have es' : Ab (s * s - y) (uu) := by
    have : (2 : Rat) ^ 3 * 2 ^ 3 * uk .f64 * 12 ≤ uu := by decide +kernel
    unfold Nr at es
    unfold Ab
    constructor <;> grind
  have bs : s ≤ 64 / 10 := by
    refine le_of_sq (by decide +kernel) ?_
    unfold Ab at es'
    grind
  obtain ⟨f, h, hh, eh⟩ := nar32 hs 3 (by omega) (B := 8) (by decide +kernel) ⟨by grind, by grind⟩
  have nh : 0 ≤ h := hs.nar_nn 3 (by omega) ns (Rat.le_trans bs (by decide +kernel)) hh
  have e1 : Ab ((h - s) * (h + s)) (8 * uu * 13) := by
    refine eh.mul ?_
    unfold Ab at eh ⊢
    constructor <;> grind
  have e2 : (h - s) * (h + s) = h * h - s * s := by grind
  rw [e2] at e1
  refine ⟨h, hh, nh, ?_, ?_⟩
  · unfold Ab at *
    constructor <;> grind
  · unfold Ab at eh
    grind

/-- A complex product, narrowed. -/
theorem mul_num {A B C D : Option Nat} {a b c d : Rat} (ha : Vl .f32 A a) (hb : Vl .f32 B b) (hc : Vl .f32 C c) (hd : Vl .f32 D d) (ba : Ab a 2) (bb : Ab b 2) (bc : Ab c 8) (bd : Ab d 8) :
    (Fits (mulRe A B C D) ∧ ∃ r, Vl .f32 (nar (mulRe A B C D)) r ∧ Ab (r - (a * c - b * d)) (66 * uu)) ∧ (Fits (mulIm A B C D) ∧ ∃ r, Vl .f32 (nar (mulIm A B C D)) r ∧ Ab (r - (a * d + b * c)) (66 * uu)) := by
  have hv : vv * 128 ≤ uu ∧ 0 < vv ∧ uu ≤ 1 / 1000 ∧ 0 < uu := by decide +kernel
  obtain ⟨m1, h1, e1⟩ := mul64 ha.wid hc.wid 4 (by omega) (B := 16) (by decide +kernel) ((ba.mul bc).mono (by decide +kernel))
  obtain ⟨m2, h2, e2⟩ := mul64 hb.wid hd.wid 4 (by omega) (B := 16) (by decide +kernel) ((bb.mul bd).mono (by decide +kernel))
  obtain ⟨m3, h3, e3⟩ := mul64 ha.wid hd.wid 4 (by omega) (B := 16) (by decide +kernel) ((ba.mul bd).mono (by decide +kernel))
  obtain ⟨m4, h4, e4⟩ := mul64 hb.wid hc.wid 4 (by omega) (B := 16) (by decide +kernel) ((bb.mul bc).mono (by decide +kernel))
  have p1 := ba.mul bc
  have p2 := bb.mul bd
  have p3 := ba.mul bd
  have p4 := bb.mul bc
  clear ba bb bc bd
  obtain ⟨s1, k1, f1⟩ := sub64 h1 h2 6 (by omega) (B := 64) (by decide +kernel) (by unfold Ab at *; constructor <;> grind)
  obtain ⟨s2, k2, f2⟩ := add64 h3 h4 6 (by omega) (B := 64) (by decide +kernel) (by unfold Ab at *; constructor <;> grind)
  obtain ⟨g1, r1, l1, t1⟩ := nar32 k1 6 (by omega) (B := 64) (by decide +kernel) (by unfold Ab at *; constructor <;> grind)
  obtain ⟨g2, r2, l2, t2⟩ := nar32 k2 6 (by omega) (B := 64) (by decide +kernel) (by unfold Ab at *; constructor <;> grind)
  refine ⟨⟨g1, r1, l1, ?_⟩, g2, r2, l2, ?_⟩
  · clear p1 p2 p3 p4 e3 e4 f2 t2
    unfold Ab at *; constructor <;> grind
  · clear p1 p2 p3 p4 e1 e2 f1 t1
    unfold Ab at *; constructor <;> grind

/-- The square of a length that is nearly known. -/
theorem sq_err {v X e M : Rat} (h : Ab (v - X) e) (hX : Ab X M) : Ab (v * v - X * X) (e * (2 * M + e)) := by
  have h2 : Ab (v + X) (2 * M + e) := by unfold Ab at *; constructor <;> grind
  exact (h.mul h2).eq (by grind)

/-- From squares to lengths. -/
theorem root_err {l r e : Rat} (h : Ab (l * l - r * r) e) (hl : 0 ≤ l) (hr : 9 / 10 ≤ r) (he : e ≤ 36 / 1000) : Ab (l - r) (4 / 100) := by
  have h2 : Ab ((l - r) * (l + r)) (36 / 1000) := (h.mono he).eq (by grind)
  exact (h2.div (b := 9 / 10) (.inl (by grind)) (by decide +kernel)).mono (by decide +kernel)

/-- The way to the other point, told in its own length. -/
theorem unit_num {w1 w2 d k1 k2 : Rat} (h1 : k1 * d = w1) (h2 : k2 * d = w2) (dl : 109 / 100 ≤ d) (hd : Ab (d * d - (w1 * w1 + w2 * w2)) (1 / 1000)) : Ab (k1 * k1 + k2 * k2 - 1) (85 / 100000) ∧ Ab k1 (101 / 100) ∧ Ab k2 (101 / 100) := by
  have hdd : 118 / 100 ≤ d * d := by
    have a1 := Rat.mul_le_mul_of_nonneg_left dl (show (0 : Rat) ≤ 109 / 100 by decide +kernel)
    have a2 := Rat.mul_le_mul_of_nonneg_right dl (show (0 : Rat) ≤ d by grind)
    grind
  have e : (k1 * k1 + k2 * k2 - 1) * (d * d) = (w1 * w1 + w2 * w2) - d * d := by rw [← h1, ← h2]; grind
  have hk : Ab ((k1 * k1 + k2 * k2 - 1) * (d * d)) (1 / 1000) := by
    rw [e]
    unfold Ab at *
    constructor <;> grind
  have h3 := (hk.div (.inl hdd) (by decide +kernel)).mono (show (1 : Rat) / 1000 / (118 / 100) ≤ 85 / 100000 by decide +kernel)
  have n1 := sq_nn k1
  have n2 := sq_nn k2
  refine ⟨h3, ?_, ?_⟩
  · unfold Ab at h3
    exact ⟨by have : -k1 ≤ 101 / 100 := le_of_sq (by decide +kernel) (by grind)
              grind, le_of_sq (by decide +kernel) (by grind)⟩
  · unfold Ab at h3
    exact ⟨by have : -k2 ≤ 101 / 100 := le_of_sq (by decide +kernel) (by grind)
              grind, le_of_sq (by decide +kernel) (by grind)⟩

/-- One part of the point. -/
theorem part_num {A M : Option Nat} {a m t : Rat} (hA : Vl .f32 A a) (hM : Vl .f32 M m) (ba : Ab a 12) (bt : Ab t 15) (hm : Ab (m - t) (150 * uu)) : ∃ p, Vl .f32 (ab .add .f32 A M) p ∧ Ab (p - (a + t)) (182 * uu) := by
  have hu : uu ≤ 1 / 16000000 ∧ 0 < uu := by decide +kernel
  obtain ⟨p, hp, ep⟩ := add32 hA hM 5 (by omega) (B := 32) (by decide +kernel) (by unfold Ab at *; constructor <;> grind)
  refine ⟨p, hp, ?_⟩
  unfold Ab at *
  constructor <;> grind
end Go.Proofs.Yticoikchcmmpfaa
