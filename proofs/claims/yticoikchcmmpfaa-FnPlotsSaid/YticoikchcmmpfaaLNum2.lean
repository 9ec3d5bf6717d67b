/-
  What is not below zero stays so; lengths; where two lines meet.
-/
import Derived.Test.YticoikchcmmpfaaLNum
namespace Go.Proofs.Yticoikchcmmpfaa
open Go.RowKit Ieee

theorem write_nn (k : FloatKind) (s : Bool) (m : Nat) (p : Int) (K : Nat) (hK : K ≤ 100) {x r : Rat} (hx : dv (.number s m p) = x) (h0 : 0 ≤ x) (h : x ≤ 2 ^ K) (hr : Vl k (some (k.format.write (.number s m p))) r) : 0 ≤ r := by
  by_cases hm : m = 0
  · subst hm
    have e0 : k.format.write (.number s 0 p) = k.format.word s 0 := by simp [Format.write, Format.nearest]
    rw [e0] at hr
    have : Vl k (some (k.format.word s 0)) 0 := by
      refine ⟨_, s, 0, k.format.leastPlace, rfl, ?_, by rw [dv_eq]; simp [Rat.zero_mul, Rat.mul_zero]⟩
      cases k <;> cases s <;> decide
    rw [hr.uniq this]
    exact Rat.le_refl
  · have hmp : 0 < (m : Rat) * tw p := Rat.mul_pos (by exact_mod_cast Nat.pos_of_ne_zero hm) (tw_pos p)
    rw [dv_eq] at hx
    cases s
    · have hb : (m : Rat) * tw p ≤ tw (K : Int) := by
        rw [tw_nat']
        simp at hx
        grind
      obtain ⟨m', p', e, _⟩ := nearest_dv k.format (fmt_sign k) false m p K hb (fmt_lo k K) (fmt_hi k hK)
      obtain ⟨n, s1, m1, p1, en, er, ev⟩ := hr
      cases en
      rw [show k.format.write (.number false m p) = k.format.nearest false m p from rfl, e] at er
      cases er
      rw [← ev, dv_eq, if_neg (by decide), Rat.one_mul]
      exact Rat.mul_nonneg Rat.natCast_nonneg (Rat.le_of_lt (tw_pos p'))
    · simp at hx
      grind

section
variable {k : FloatKind} {X Y : Option Nat} {x y r : Rat}
theorem Vl.add_nn (hx : Vl k X x) (hy : Vl k Y y) (K : Nat) (hK : K ≤ 100) (h0 : 0 ≤ x + y) (h : x + y ≤ 2 ^ K) (hr : Vl k (ab .add k X Y) r) : 0 ≤ r := by
  obtain ⟨a, s, m, i, rfl, ea, rfl⟩ := hx
  obtain ⟨b, t, n, j, rfl, eb, rfl⟩ := hy
  obtain ⟨s', m', p', e1, e2⟩ := sum_dv s m i t n j
  refine write_nn k s' m' p' K hK e2 h0 h ?_
  simpa [ab, floatBits, Format.add, ea, eb, e1] using hr
theorem Vl.mul_nn (hx : Vl k X x) (hy : Vl k Y y) (K : Nat) (hK : K ≤ 100) (h0 : 0 ≤ x * y) (h : x * y ≤ 2 ^ K) (hr : Vl k (ab .mul k X Y) r) : 0 ≤ r := by
  obtain ⟨a, s, m, i, rfl, ea, rfl⟩ := hx
  obtain ⟨b, t, n, j, rfl, eb, rfl⟩ := hy
  obtain ⟨s', m', p', e1, e2⟩ := product_dv s m i t n j
  refine write_nn k s' m' p' K hK e2 h0 h ?_
  simpa [ab, floatBits, Format.mul, ea, eb, e1] using hr
end
theorem Vl.nar_nn {X : Option Nat} {x r : Rat} (hx : Vl .f64 X x) (K : Nat) (hK : K ≤ 100) (h0 : 0 ≤ x) (h : x ≤ 2 ^ K) (hr : Vl .f32 (Go.Proofs.Yticoikchcmmpfaa.nar X) r) : 0 ≤ r := by
  obtain ⟨a, s, m, i, rfl, ea, e⟩ := hx
  refine write_nn .f32 s m i K hK e h0 h ?_
  have : Go.Proofs.Yticoikchcmmpfaa.nar (some a) = some (FloatKind.f32.format.write (.number s m i)) := by
    show some (FloatKind.f32.format.write (FloatKind.f64.format.read a)) = _
    rw [ea]
  rw [this] at hr
  exact hr

/-- A unit of 64 bits. -/
def vv : Rat := 1 / 9007199254740992
theorem add64 {X Y : Option Nat} {x y : Rat} (hx : Vl .f64 X x) (hy : Vl .f64 Y y) (K : Nat) (hK : K ≤ 100) {B : Rat} (hB : (2 : Rat) ^ K = B) (h : Ab (x + y) B) : ∃ r, Vl .f64 (ab .add .f64 X Y) r ∧ Ab (r - (x + y)) (B * vv) := by
  subst hB
  obtain ⟨r, hr, n1, n2⟩ := hx.add hy K hK h.1 h.2
  refine ⟨r, hr, ?_⟩
  show _ ∧ _
  rw [show uk .f64 = vv from rfl] at n1 n2
  constructor <;> grind
theorem sub64 {X Y : Option Nat} {x y : Rat} (hx : Vl .f64 X x) (hy : Vl .f64 Y y) (K : Nat) (hK : K ≤ 100) {B : Rat} (hB : (2 : Rat) ^ K = B) (h : Ab (x - y) B) : ∃ r, Vl .f64 (ab .sub .f64 X Y) r ∧ Ab (r - (x - y)) (B * vv) := by
  subst hB
  obtain ⟨r, hr, n1, n2⟩ := hx.sub hy K hK h.1 h.2
  refine ⟨r, hr, ?_⟩
  show _ ∧ _
  rw [show uk .f64 = vv from rfl] at n1 n2
  constructor <;> grind
theorem mul64 {X Y : Option Nat} {x y : Rat} (hx : Vl .f64 X x) (hy : Vl .f64 Y y) (K : Nat) (hK : K ≤ 100) {B : Rat} (hB : (2 : Rat) ^ K = B) (h : Ab (x * y) B) : ∃ r, Vl .f64 (ab .mul .f64 X Y) r ∧ Ab (r - x * y) (B * vv) := by
  subst hB
  obtain ⟨r, hr, n1, n2⟩ := hx.mul hy K hK h.1 h.2
  refine ⟨r, hr, ?_⟩
  show _ ∧ _
  rw [show uk .f64 = vv from rfl] at n1 n2
  constructor <;> grind
theorem nar32 {X : Option Nat} {x : Rat} (hx : Vl .f64 X x) (K : Nat) (hK : K ≤ 100) {B : Rat} (hB : (2 : Rat) ^ K = B) (h : Ab x B) : Fits X ∧ ∃ r, Vl .f32 (nar X) r ∧ Ab (r - x) (B * uu) := by
  subst hB
  obtain ⟨r, hr, n1, n2⟩ := hx.nar K hK h.1 h.2
  refine ⟨hx.fits K hK h.1 h.2, r, hr, ?_⟩
  show _ ∧ _
  rw [show uk .f32 = uu from rfl] at n1 n2
  constructor <;> grind

theorem sq_nn (x : Rat) : 0 ≤ x * x := by
  rcases (show 0 ≤ x ∨ 0 ≤ -x by grind) with h | h
  · exact Rat.mul_nonneg h h
  · have := Rat.mul_nonneg h h
    grind

/-- How long a complex number is. -/
theorem long_num {X Y : Option Nat} {x y : Rat} (hx : Vl .f32 X x) (hy : Vl .f32 Y y) (bx : Ab x 32) (by' : Ab y 32) :
    Fits (sqrtF (powX X Y)) ∧ ∃ l, Vl .f32 (longX X Y) l ∧ 0 ≤ l ∧ Ab (l * l - (x * x + y * y)) (1 / 1000) := by
  have hv : vv ≤ 1 / 1000000000000 ∧ 0 < vv := by decide +kernel
  have hu : uu ≤ 1 / 16000000 ∧ 0 < uu := by decide +kernel
  obtain ⟨a, ha, ea⟩ := mul64 hx.wid hx.wid 10 (by omega) (B := 1024) (by decide +kernel) ((bx.mul bx).mono (by decide +kernel))
  obtain ⟨b, hb, eb⟩ := mul64 hy.wid hy.wid 10 (by omega) (B := 1024) (by decide +kernel) ((by'.mul by').mono (by decide +kernel))
  have hxx := (bx.mul bx).2
  have hyy := (by'.mul by').2
  have na : 0 ≤ a := hx.wid.mul_nn hx.wid 10 (by omega) (sq_nn x) (Rat.le_trans hxx (by decide +kernel)) ha
  have nb : 0 ≤ b := hy.wid.mul_nn hy.wid 10 (by omega) (sq_nn y) (Rat.le_trans hyy (by decide +kernel)) hb
  have bs : Ab (a + b) 4096 := by
    unfold Ab at *
    constructor <;> grind
  obtain ⟨p, hp, ep⟩ := add64 ha hb 12 (by omega) (B := 4096) (by decide +kernel) bs
  have np : 0 ≤ p := ha.add_nn hb 12 (by omega) (by grind) (Rat.le_trans bs.2 (by decide +kernel)) hp
  have bp : p ≤ 4096 := by
    unfold Ab at *
    grind
  obtain ⟨s, hs, ns, es⟩ := hp.sqrt np 6 (by omega) (Rat.le_trans bp (by decide +kernel))
  have es' : Ab (s * s - p) (1 / 1000000) := by
    have : (2 : Rat) ^ 6 * 2 ^ 6 * uk .f64 * 12 ≤ 1 / 1000000 := by decide +kernel
    unfold Nr at es
    unfold Ab
    constructor <;> grind
  have bss : s ≤ 64 := by
    refine le_of_sq (by decide +kernel) ?_
    unfold Ab at *
    grind
  obtain ⟨f, l, hl, el⟩ := nar32 hs 6 (by omega) (B := 64) (by decide +kernel) ⟨by grind, bss⟩
  have nl : 0 ≤ l := hs.nar_nn 6 (by omega) ns (Rat.le_trans bss (by decide +kernel)) hl
  refine ⟨f, l, hl, nl, ?_⟩
  · -- l^2 - s^2
    have e1 : Ab ((l - s) * (l + s)) (64 * uu * 129) := by
      refine el.mul ?_
      unfold Ab at *
      constructor <;> grind
    have e2 : (l - s) * (l + s) = l * l - s * s := by grind
    rw [e2] at e1
    clear el
    unfold Ab at *
    constructor <;> grind

/-- A cross product. -/
theorem cross_num {A B C D : Option Nat} {a b c d : Rat} (ha : Vl .f32 A a) (hb : Vl .f32 B b) (hc : Vl .f32 C c) (hd : Vl .f32 D d) (K : Nat) (hK : K ≤ 90) {M : Rat} (hM : (2 : Rat) ^ K = M) (ba : Ab a M) (bb : Ab b M) (bc : Ab c 1) (bd : Ab d 1) :
    ∃ r, Vl .f32 (crossX A B C D) r ∧ Ab (r - (a * d - b * c)) (6 * (M * uu)) := by
  have hu : uu ≤ 1 / 1000 ∧ 0 < uu := by decide +kernel
  have hM0 := ba.pos
  have hMu : M * uu ≤ M * (1 / 1000) := Rat.mul_le_mul_of_nonneg_left hu.1 hM0
  have b1 := (ba.mul bd).mono (show M * 1 ≤ M by grind)
  have b2 := (bb.mul bc).mono (show M * 1 ≤ M by grind)
  obtain ⟨m1, h1, e1⟩ := mul32 ha hd K (by omega) hM b1
  obtain ⟨m2, h2, e2⟩ := mul32 hb hc K (by omega) hM b2
  have hM2 : (2 : Rat) ^ (K + 2) = 4 * M := by rw [Rat.pow_succ, Rat.pow_succ, hM]; grind
  have b3 : Ab (m1 - m2) (4 * M) := by
    unfold Ab at *
    constructor <;> grind
  obtain ⟨r, hr, e3⟩ := sub32 h1 h2 (K + 2) (by omega) hM2 b3
  refine ⟨r, hr, ?_⟩
  unfold Ab at *
  constructor <;> grind
theorem inner_num {A B C D : Option Nat} {a b c d : Rat} (ha : Vl .f32 A a) (hb : Vl .f32 B b) (hc : Vl .f32 C c) (hd : Vl .f32 D d) (K : Nat) (hK : K ≤ 90) {M : Rat} (hM : (2 : Rat) ^ K = M) (ba : Ab c M) (bb : Ab d M) (bc : Ab a 1) (bd : Ab b 1) :
    ∃ r, Vl .f32 (innerX A B C D) r ∧ Ab (r - (a * c + b * d)) (6 * (M * uu)) := by
  have hu : uu ≤ 1 / 1000 ∧ 0 < uu := by decide +kernel
  have hM0 := ba.pos
  have hMu : M * uu ≤ M * (1 / 1000) := Rat.mul_le_mul_of_nonneg_left hu.1 hM0
  have b1 := (bc.mul ba).mono (show 1 * M ≤ M by grind)
  have b2 := (bd.mul bb).mono (show 1 * M ≤ M by grind)
  obtain ⟨m1, h1, e1⟩ := mul32 ha hc K (by omega) hM b1
  obtain ⟨m2, h2, e2⟩ := mul32 hb hd K (by omega) hM b2
  have hM2 : (2 : Rat) ^ (K + 2) = 4 * M := by rw [Rat.pow_succ, Rat.pow_succ, hM]; grind
  have b3 : Ab (m1 + m2) (4 * M) := by
    unfold Ab at *
    constructor <;> grind
  obtain ⟨r, hr, e3⟩ := add32 h1 h2 (K + 2) (by omega) hM2 b3
  refine ⟨r, hr, ?_⟩
  unfold Ab at *
  constructor <;> grind

/-- How far along the first line. -/
theorem along_num {ux uy vx vy f g wx wy x c t : Rat} (bux : Ab ux 1) (buy : Ab uy 1) (bvx : Ab vx 1) (bvy : Ab vy 1) (bf : Ab f 6)
    (hwx : Ab (wx - (ux * f - vx * g)) (64 * uu)) (hwy : Ab (wy - (uy * f - vy * g)) (64 * uu)) (hx : Ab (x - (wx * vy - wy * vx)) (96 * uu)) (hc : Ab (c - (ux * vy - uy * vx)) (6 * uu)) (htc : t * c = x) (hc0 : 19 / 100 ≤ c ∨ c ≤ -(19 / 100)) :
    Ab (t - f) (1400 * uu) := by
  have m1 := hwx.mul bvy
  have m2 := hwy.mul bvx
  have m3 := hc.mul bf
  have h : Ab ((t - f) * c) (260 * uu) := by
    have hu : 0 < uu := uu_pos
    unfold Ab at *
    constructor <;> grind
  exact (h.div hc0 (by decide +kernel)).mono (by decide +kernel)

/-- Where two lines meet: from z - f u in the way u, from z - g v in the way v. -/
theorem turns_num {A1 A2 B1 B2 U1 U2 V1 V2 : Option Nat} {ax ay bx b2 ux uy vx vy f g zx zy : Rat} (ha1 : Vl .f32 A1 ax) (ha2 : Vl .f32 A2 ay) (hb1 : Vl .f32 B1 bx) (hb2 : Vl .f32 B2 b2)
    (hu1 : Vl .f32 U1 ux) (hu2 : Vl .f32 U2 uy) (hv1 : Vl .f32 V1 vx) (hv2 : Vl .f32 V2 vy) (bux : Ab ux 1) (buy : Ab uy 1) (bvx : Ab vx 1) (bvy : Ab vy 1) (bf : Ab f 6) (bg : Ab g 6) (bzx : Ab zx 5) (bzy : Ab zy 5)
    (ea1 : Ab (ax - (zx - ux * f)) (24 * uu)) (ea2 : Ab (ay - (zy - uy * f)) (24 * uu)) (eb1 : Ab (bx - (zx - vx * g)) (24 * uu)) (eb2 : Ab (b2 - (zy - vy * g)) (24 * uu))
    (hc0 : 192 / 1000 ≤ ux * vy - uy * vx ∨ ux * vy - uy * vx ≤ -(192 / 1000)) :
    (∃ c, Vl .f32 (crossX U1 U2 V1 V2) c ∧ c ≠ 0) ∧
    (∃ p, Vl .f32 (ab .add .f32 A1 (ab .mul .f32 U1 (ab .quo .f32 (crossX (ab .sub .f32 B1 A1) (ab .sub .f32 B2 A2) V1 V2) (crossX U1 U2 V1 V2)))) p ∧ Ab (p - zx) (1 / 10000)) ∧
    (∃ q, Vl .f32 (ab .add .f32 A2 (ab .mul .f32 U2 (ab .quo .f32 (crossX (ab .sub .f32 B1 A1) (ab .sub .f32 B2 A2) V1 V2) (crossX U1 U2 V1 V2)))) q ∧ Ab (q - zy) (1 / 10000)) := by
  have hu : uu ≤ 1 / 16000000 ∧ 0 < uu := by decide +kernel
  have p1 := bux.mul bf
  have p2 := buy.mul bf
  have p3 := bvx.mul bg
  have p4 := bvy.mul bg
  obtain ⟨wx, hwx, ewx⟩ := sub32 hb1 ha1 4 (by omega) (B := 16) (by decide +kernel) (by unfold Ab at *; constructor <;> grind)
  obtain ⟨wy, hwy, ewy⟩ := sub32 hb2 ha2 4 (by omega) (B := 16) (by decide +kernel) (by unfold Ab at *; constructor <;> grind)
  have ewx' : Ab (wx - (ux * f - vx * g)) (64 * uu) := by unfold Ab at *; constructor <;> grind
  have ewy' : Ab (wy - (uy * f - vy * g)) (64 * uu) := by unfold Ab at *; constructor <;> grind
  obtain ⟨c, hc, ec⟩ := cross_num hu1 hu2 hv1 hv2 0 (by omega) (M := 1) (by decide +kernel) bux buy bvx bvy
  obtain ⟨x, hx, ex⟩ := cross_num hwx hwy hv1 hv2 4 (by omega) (M := 16) (by decide +kernel) (by unfold Ab at *; constructor <;> grind) (by unfold Ab at *; constructor <;> grind) bvx bvy
  have ec' : Ab (c - (ux * vy - uy * vx)) (6 * uu) := ec.mono (by grind)
  have ex' : Ab (x - (wx * vy - wy * vx)) (96 * uu) := ex.mono (by grind)
  have hcc : 19 / 100 ≤ c ∨ c ≤ -(19 / 100) := by
    unfold Ab at ec'
    rcases hc0 with h | h
    · left; grind
    · right; grind
  have hcn : c ≠ 0 := by grind
  have htc : x / c * c = x := Rat.div_mul_cancel hcn
  have ht := along_num bux buy bvx bvy bf ewx' ewy' ex' ec' htc hcc
  obtain ⟨t, hq, et⟩ := quo32 hx hc 3 (by omega) (B := 8) (by decide +kernel) (x / c) htc hcn (by unfold Ab at *; constructor <;> grind)
  have tf : Ab (t - f) (1500 * uu) := by unfold Ab at *; constructor <;> grind
  have q1 := bux.mul tf
  have q2 := buy.mul tf
  have key : ∀ {A U : Option Nat} {a u z : Rat}, Vl .f32 A a → Vl .f32 U u → Ab z 5 → Ab (a - (z - u * f)) (24 * uu) → Ab (u * (t - f)) (1 * (1500 * uu)) → Ab (u * f) (1 * 6) → ∃ p, Vl .f32 (ab .add .f32 A (ab .mul .f32 U (ab .quo .f32 (crossX (ab .sub .f32 B1 A1) (ab .sub .f32 B2 A2) V1 V2) (crossX U1 U2 V1 V2)))) p ∧ Ab (p - z) (1 / 10000) := by
    intro A U a u z hA hU bz ea q b
    obtain ⟨m, hm, em⟩ := mul32 hU hq 3 (by omega) (B := 8) (by decide +kernel) (by clear p1 p2 p3 p4 q1 q2; unfold Ab at *; constructor <;> grind)
    obtain ⟨p, hp, ep⟩ := add32 hA hm 4 (by omega) (B := 16) (by decide +kernel) (by clear p1 p2 p3 p4 q1 q2; unfold Ab at *; constructor <;> grind)
    refine ⟨p, hp, ?_⟩
    clear p1 p2 p3 p4 q1 q2 ewx ewy ewx' ewy' ec ex ec' ex' hcc hc0 htc ht et eb1 eb2 ea1 ea2
    unfold Ab at *
    constructor <;> grind
  exact ⟨⟨c, hc, hcn⟩, key ha1 hu1 bzx ea1 q1 p1, key ha2 hu2 bzy ea2 q2 p2⟩
end Go.Proofs.Yticoikchcmmpfaa
