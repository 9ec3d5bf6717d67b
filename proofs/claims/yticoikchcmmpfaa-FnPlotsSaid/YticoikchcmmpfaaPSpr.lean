/-
  The half axes in 32 bits: the longer is no shorter; they stay when the plot is moved, nearly.
-/
import Derived.Test.YticoikchcmmpfaaPMom2
namespace Go.Proofs.Yticoikchcmmpfaa
open Go.RowKit

theorem root_val {X : Option Nat} {x : Rat} (hx : Vl .f32 X x) (h0 : 0 ≤ x) (h : x ≤ 65) : Fits (sqrtF (wid X)) ∧ ∃ r, Vl .f32 (rootF X) r ∧ 0 ≤ r ∧ Ab (r * r - x) (300 * uu) := by
  have hu : uu ≤ 1 / 16000000 ∧ 0 < uu := by decide +kernel
  obtain ⟨t, ht, t0, nt⟩ := hx.wid.sqrt h0 4 (by omega) (by rw [show (2 : Rat) ^ 4 * 2 ^ 4 = 256 by decide +kernel]; grind)
  have he : (2 : Rat) ^ 4 * 2 ^ 4 * uk .f64 * 12 ≤ uu := by decide +kernel
  unfold Nr at nt
  generalize (2 : Rat) ^ 4 * 2 ^ 4 * uk .f64 * 12 = ee at *
  have t8 : t ≤ 81 / 10 := le_of_sq (by decide +kernel) (by grind)
  obtain ⟨f, r, hr, er⟩ := nar32 ht 4 (by omega) (B := 16) (by decide +kernel) ⟨by grind, by grind⟩
  have r0 := ht.nar_nn 4 (by omega) t0 (by rw [show (2 : Rat) ^ 4 = 16 by decide +kernel]; grind) hr
  refine ⟨f, r, hr, r0, ?_⟩
  have bt : Ab t (81 / 10) := ⟨by grind, t8⟩
  have s1 := er.mul bt
  have s2 := er.mul er
  have e2 : Ab (t * t - x) uu := ⟨by grind, by grind⟩
  exact (((s1.add s1).add (s2.add e2)).mono (by decide +kernel)).eq (by grind)

def halfSum (A C : Option Nat) : Option Nat := ab .quo .f32 (ab .add .f32 A C) twoW
def halfDif (A C : Option Nat) : Option Nat := ab .quo .f32 (ab .sub .f32 A C) twoW
def sqSum (K B : Option Nat) : Option Nat := ab .add .f32 (ab .mul .f32 K K) (ab .mul .f32 B B)
def gR (K B : Option Nat) : Option Nat := rootF (sqSum K B)

theorem half_num {X : Option Nat} {x : Rat} (hx : Vl .f32 X x) (b : Ab x 17) : ∃ m, Vl .f32 (ab .quo .f32 X twoW) m ∧ Ab (m - x / 2) (48 * uu) := by
  obtain ⟨m, hm, em⟩ := quo32 hx two_num 4 (by omega) (B := 16) (by decide +kernel) (x / 2) (by grind) (by decide +kernel) (by unfold Ab at *; constructor <;> grind)
  exact ⟨m, hm, em.mono (by decide +kernel)⟩

/-- What is told of one list of marks: exact moments a b c. -/
structure SprN (n : Nat) (r : Nat → Nat) (A B C : Option Nat) (b h k g p q l s : Rat) : Prop where
  vb : Vl .f32 B b
  vh : Vl .f32 (halfSum A C) h
  vk : Vl .f32 (halfDif A C) k
  fg : Fits (sqrtF (wid (sqSum (halfDif A C) B)))
  vg : Vl .f32 (gR (halfDif A C) B) g
  vp : Vl .f32 (ab .add .f32 (halfSum A C) (gR (halfDif A C) B)) p
  vq : Vl .f32 (ab .sub .f32 (halfSum A C) (gR (halfDif A C) B)) q
  fl : Fits (sqrtF (wid (ab .add .f32 (halfSum A C) (gR (halfDif A C) B))))
  fs : Fits (sqrtF (wid (ab .sub .f32 (halfSum A C) (gR (halfDif A C) B))))
  vl : Vl .f32 (rootF (ab .add .f32 (halfSum A C) (gR (halfDif A C) B))) l
  vs : Vl .f32 (rootF (ab .sub .f32 (halfSum A C) (gR (halfDif A C) B))) s
  ls : s ≤ l
  eb : Ab (b - cen n (vX n r) (vY n r)) (3700 * uu)
  eh : Ab (h - (cen n (vX n r) (vX n r) + cen n (vY n r) (vY n r)) / 2) (3900 * uu)
  ek : Ab (k - (cen n (vX n r) (vX n r) - cen n (vY n r) (vY n r)) / 2) (3900 * uu)
  g0 : 0 ≤ g
  eg : Ab (g * g - (k * k + b * b)) (700 * uu)
  ep : Ab (p - (h + g)) (32 * uu)
  eq : Ab (q - (h - g)) (32 * uu)
  q1 : 89 / 1000 ≤ q
  h1 : 126 / 100 ≤ h
  l0 : 0 ≤ l
  s0 : 0 ≤ s
  el : Ab (l * l - p) (300 * uu)
  es : Ab (s * s - q) (300 * uu)
  bk : Ab k 9
  bb : Ab b 9
theorem sprN {n : Nat} {r : Nat → Nat} {A B C : Option Nat} {a b c : Rat} (M : MomP n r) (hA : Vl .f32 A a) (hB : Vl .f32 B b) (hC : Vl .f32 C c) (ea : Ab (a - cen n (vX n r) (vX n r)) (3700 * uu)) (eb : Ab (b - cen n (vX n r) (vY n r)) (3700 * uu)) (ec : Ab (c - cen n (vY n r) (vY n r)) (3700 * uu)) :
    ∃ h k g p q l s, SprN n r A B C b h k g p q l s := by
  have hu : uu ≤ 1 / 16000000 ∧ 0 < uu := by decide +kernel
  obtain ⟨a0, c0, tr, b2, det⟩ := M
  have keep := (⟨a0, c0⟩ : _ ∧ _)
  generalize hXX : cen n (vX n r) (vX n r) = xx at *
  generalize hXY : cen n (vX n r) (vY n r) = xy at *
  generalize hYY : cen n (vY n r) (vY n r) = yy at *
  -- the half sum, the half difference
  have es := ea.add ec
  have ed := ea.sub ec
  have bs : Ab (xx + yy) (1601 / 100) := ⟨by grind, tr⟩
  have bd : Ab (xx - yy) (1601 / 100) := ⟨by grind, by grind⟩
  obtain ⟨u, hu1, eu⟩ := add32 hA hC 5 (by omega) (B := 32) (by decide +kernel) (((es.add bs).mono (by decide +kernel)).eq (by grind))
  obtain ⟨v, hv1, ev⟩ := sub32 hA hC 5 (by omega) (B := 32) (by decide +kernel) (((ed.add bd).mono (by decide +kernel)).eq (by grind))
  have eu1 : Ab (u - (xx + yy)) (7432 * uu) := ((eu.add es).mono (by decide +kernel)).eq (by grind)
  have ev1 : Ab (v - (xx - yy)) (7432 * uu) := ((ev.add ed).mono (by decide +kernel)).eq (by grind)
  obtain ⟨h, hh, eh⟩ := half_num hu1 (((eu1.add bs).mono (by decide +kernel)).eq (by grind))
  obtain ⟨k, hk, ek⟩ := half_num hv1 (((ev1.add bd).mono (by decide +kernel)).eq (by grind))
  have eh1 : Ab (h - (xx + yy) / 2) (3900 * uu) := by clear ea eb ec es ed eu ev ev1 ek bs bd; unfold Ab at *; constructor <;> grind
  have ek1 : Ab (k - (xx - yy) / 2) (3900 * uu) := by clear ea eb ec es ed eu ev eu1 eh bs bd; unfold Ab at *; constructor <;> grind
  clear ea ec es ed eu ev eu1 ev1 eh ek hu1 hv1 hA hC
  -- the root of the sum of the squares
  have bH : Ab ((xx + yy) / 2) (801 / 100) := by unfold Ab at *; constructor <;> grind
  have bK : Ab ((xx - yy) / 2) (801 / 100) := by unfold Ab at *; constructor <;> grind
  have bB : Ab xy (801 / 100) := by unfold Ab at *; constructor <;> grind
  generalize hH : (xx + yy) / 2 = H at *
  generalize hK : (xx - yy) / 2 = K at *
  have bk : Ab k 9 := ((ek1.add bK).mono (by decide +kernel)).eq (by grind)
  have bb : Ab b 9 := ((eb.add bB).mono (by decide +kernel)).eq (by grind)
  have hdet : K * K + xy * xy + 163 / 100 ≤ H * H := by
    have : xx * yy = H * H - K * K := by rw [← hH, ← hK]; grind
    grind
  have H0 : 0 ≤ H := by rw [← hH]; grind
  have H8 : H ≤ 801 / 100 := bH.2
  have skk : Ab (k * k - K * K) (64000 * uu) := by
    have t1 := ek1.mul bK
    have t2 := ek1.mul ek1
    exact (((t1.add t1).add t2).mono (by decide +kernel)).eq (by grind)
  have sbb : Ab (b * b - xy * xy) (64000 * uu) := by
    have t1 := eb.mul bB
    have t2 := eb.mul eb
    exact (((t1.add t1).add t2).mono (by decide +kernel)).eq (by grind)
  have KK := sq_nn K
  have BB := sq_nn xy
  have HH : H * H ≤ 6416 / 100 := by
    have := Rat.mul_le_mul_of_nonneg_left H8 H0
    grind
  obtain ⟨m1, hm1, em1⟩ := mul32 hk hk 7 (by omega) (B := 128) (by decide +kernel) ((bk.mul bk).mono (by decide +kernel))
  obtain ⟨m2, hm2, em2⟩ := mul32 hB hB 7 (by omega) (B := 128) (by decide +kernel) ((bb.mul bb).mono (by decide +kernel))
  have m10 := hk.mul_nn hk 7 (by omega) (sq_nn k) (by have := (bk.mul bk).2; rw [show (2 : Rat) ^ 7 = 128 by decide +kernel]; grind) hm1
  have m20 := hB.mul_nn hB 7 (by omega) (sq_nn b) (by have := (bb.mul bb).2; rw [show (2 : Rat) ^ 7 = 128 by decide +kernel]; grind) hm2
  obtain ⟨z, hz, ez⟩ := add32 hm1 hm2 7 (by omega) (B := 128) (by decide +kernel) (by unfold Ab at *; constructor <;> grind)
  have z0 := hm1.add_nn hm2 7 (by omega) (by grind) (by rw [show (2 : Rat) ^ 7 = 128 by decide +kernel]; unfold Ab at *; grind) hz
  have ez1 : Ab (z - (k * k + b * b)) (384 * uu) := (((ez.add em1).add em2).mono (by decide +kernel)).eq (by grind)
  obtain ⟨fg, g, hg, g0, eg⟩ := root_val hz z0 (by unfold Ab at *; grind)
  have eg1 : Ab (g * g - (k * k + b * b)) (700 * uu) := ((eg.add ez1).mono (by decide +kernel)).eq (by grind)
  clear em1 em2 ez ez1 eg hm1 hm2 m10 m20 hz z0
  -- no more than what the determinant tells
  have H1 : 127 / 100 ≤ H := by
    refine le_of_sq H0 ?_
    grind
  have gH : g ≤ H - 9 / 100 := by
    refine le_of_sq (by grind) ?_
    clear ek1 eh1 eb bH bK bB bk bb
    unfold Ab at *
    grind
  have g8 : g ≤ 8 := by grind
  have bg : Ab g 8 := ⟨by grind, g8⟩
  obtain ⟨p, hp, ep⟩ := add32 hh hg 5 (by omega) (B := 32) (by decide +kernel) ((((eh1.add bH).add bg).mono (by decide +kernel)).eq (by grind))
  obtain ⟨q, hq, eq⟩ := sub32 hh hg 5 (by omega) (B := 32) (by decide +kernel) ((((eh1.add bH).sub bg).mono (by decide +kernel)).eq (by grind))
  have hlo : 126 / 100 ≤ h := by unfold Ab at eh1; grind
  have hhi : h ≤ 802 / 100 := by unfold Ab at eh1; grind
  have q1 : 89 / 1000 ≤ q := by clear skk sbb eb ek1 eg1; unfold Ab at *; grind
  have n1 := (add_nst hh hg 5 (by omega) (by grind) (by rw [show (2 : Rat) ^ 5 = 32 by decide +kernel]; grind) hp).ge (hh.rep (by grind)) (by grind)
  have n2 := (sub_nst hh hg 5 (by omega) (by clear skk sbb eb ek1 eg1; unfold Ab at *; grind) (by rw [show (2 : Rat) ^ 5 = 32 by decide +kernel]; grind) hq).le (hh.rep (by grind)) (by grind)
  have p17 : p ≤ 17 := by clear skk sbb eb ek1 eg1; unfold Ab at *; grind
  obtain ⟨fl, l, hl, l0, el⟩ := root_val hp (by grind) (by grind)
  obtain ⟨fs, s, hs, s0, es⟩ := root_val hq (by grind) (by grind)
  have hls := root_mono hp hq (Rat.le_trans n2 n1) (by grind) (by grind) hl hs
  exact ⟨h, k, g, p, q, l, s, hB, hh, hk, fg, hg, hp, hq, fl, fs, hl, hs, hls, by rw [hXY]; exact eb, by rw [hXX, hYY, hH]; exact eh1, by rw [hXX, hYY, hK]; exact ek1, g0, eg1, ep, eq, q1, hlo, l0, s0, el, es, bk, bb⟩

theorem roots_near {g g' k b k' b' e t y o : Rat} (g0 : 0 ≤ g) (eg : Ab (g * g - (k * k + b * b)) e) (eg' : Ab (g' * g' - (k' * k' + b' * b')) e) (ek : Ab (k' - k) y) (eb : Ab (b' - b) y) (o0 : 0 ≤ o) (ho : e ≤ o * o) (hy : 3 * y ≤ 2 * t) (ht : 2 * e + 3 * y * o + 2 * (y * y) ≤ t * t) : g' ≤ g + t := by
  have y0 := ek.pos
  have t0 : 0 ≤ t := by grind
  -- the product of the differences
  have h1 : k * (k' - k) + b * (b' - b) ≤ 3 / 2 * y * (g + o) := by
    refine le_of_sq (Rat.mul_nonneg (by grind) (by grind)) ?_
    have s1 := (ek.mul ek).2
    have s2 := (eb.mul eb).2
    have kb : k * k + b * b ≤ g * g + o * o := by unfold Ab at eg; grind
    have kk := sq_nn k
    have bb := sq_nn b
    have s3 := Rat.mul_le_mul_of_nonneg_left (show (k' - k) * (k' - k) + (b' - b) * (b' - b) ≤ 2 * (y * y) by grind) (show 0 ≤ k * k + b * b by grind)
    have s4 := Rat.mul_le_mul_of_nonneg_right kb (show 0 ≤ 2 * (y * y) by have := Rat.mul_nonneg y0 y0; grind)
    have s5 := sq_nn (k * (b' - b) - b * (k' - k))
    have s6 := Rat.mul_nonneg (Rat.mul_nonneg y0 y0) (Rat.mul_nonneg g0 o0)
    have s7 := Rat.mul_nonneg (Rat.mul_nonneg y0 y0) (sq_nn g)
    have s8 := Rat.mul_nonneg (Rat.mul_nonneg y0 y0) (sq_nn o)
    have e1 : (k * (k' - k) + b * (b' - b)) * (k * (k' - k) + b * (b' - b)) = (k * k + b * b) * ((k' - k) * (k' - k) + (b' - b) * (b' - b)) - (k * (b' - b) - b * (k' - k)) * (k * (b' - b) - b * (k' - k)) := by grind
    have e2 : 3 / 2 * y * (g + o) * (3 / 2 * y * (g + o)) = 9 / 4 * (y * y * (g * g)) + 9 / 2 * (y * y * (g * o)) + 9 / 4 * (y * y * (o * o)) := by grind
    have e3 : (g * g + o * o) * (2 * (y * y)) = 2 * (y * y * (g * g)) + 2 * (y * y * (o * o)) := by grind
    rw [e1, e2]
    rw [e3] at s4
    clear e1 e2 e3 eg eg' ek eb kb kk bb s1 s2 ho hy ht
    grind
  rcases (show g' ≤ g + t ∨ g + t < g' by grind) with c | c
  · exact c
  · exfalso
    have q1 := Rat.mul_le_mul_of_nonneg_left (Rat.le_of_lt c) (show 0 ≤ g + t by grind)
    have q2 := Rat.mul_lt_mul_of_pos_right c (show 0 < g' by grind)
    have s1 := (ek.mul ek).2
    have s2 := (eb.mul eb).2
    have gt := Rat.mul_le_mul_of_nonneg_right hy g0
    have e4 : k' * k' + b' * b' = k * k + b * b + 2 * (k * (k' - k) + b * (b' - b)) + ((k' - k) * (k' - k) + (b' - b) * (b' - b)) := by grind
    have a1 := eg.1
    have a2 := eg'.2
    clear eg eg' ek eb hy ho
    generalize k * (k' - k) + b * (b' - b) = z at *
    generalize (k' - k) * (k' - k) = z1 at *
    generalize (b' - b) * (b' - b) = z2 at *
    grind
theorem dif_le {l l' D L m : Rat} (h : Ab (l * l - l' * l') D) (hl : L ≤ l) (hl' : L ≤ l') (hL : 0 < L) (hD : D / (2 * L) ≤ m) : Ab (l - l') m := by
  have : Ab ((l - l') * (l + l')) D := h.eq (by grind)
  exact (this.div (.inl (by grind)) (by grind)).mono hD
/-- The half axes of two lists of marks of one plot. -/
theorem spr_near {n : Nat} {r : Nat → Nat} {A B C A' B' C' : Option Nat} {b h k g p q l s b' h' k' g' p' q' l' s' : Rat} (S : SprN n r A B C b h k g p q l s) (S' : SprN n r A' B' C' b' h' k' g' p' q' l' s') : Ab (l - l') (9 / 1000) ∧ Ab (s - s') (19 / 1000) := by
  have hu : uu ≤ 1 / 16000000 ∧ 0 < uu := by decide +kernel
  have dh : Ab (h - h') (7800 * uu) := ((S.eh.sub S'.eh).mono (by decide +kernel)).eq (by grind)
  have dk : Ab (k - k') (7800 * uu) := ((S.ek.sub S'.ek).mono (by decide +kernel)).eq (by grind)
  have dk' : Ab (k' - k) (7800 * uu) := ((S'.ek.sub S.ek).mono (by decide +kernel)).eq (by grind)
  have db : Ab (b - b') (7800 * uu) := ((S.eb.sub S'.eb).mono (by decide +kernel)).eq (by grind)
  have db' : Ab (b' - b) (7800 * uu) := ((S'.eb.sub S.eb).mono (by decide +kernel)).eq (by grind)
  have g1 := roots_near (t := 1 / 100) (o := 1 / 100) S.g0 S.eg S'.eg dk' db' (by decide +kernel) (by decide +kernel) (by decide +kernel) (by decide +kernel)
  have g2 := roots_near (t := 1 / 100) (o := 1 / 100) S'.g0 S'.eg S.eg dk db (by decide +kernel) (by decide +kernel) (by decide +kernel) (by decide +kernel)
  have dg : Ab (g - g') (1 / 100) := ⟨by grind, by grind⟩
  have dp : Ab (l * l - l' * l') (110 / 10000) := ((((S.el.sub S'.el).add (S.ep.sub S'.ep)).add (dh.add dg)).mono (by decide +kernel)).eq (by grind)
  have dq : Ab (s * s - s' * s') (110 / 10000) := ((((S.es.sub S'.es).add (S.eq.sub S'.eq)).add (dh.sub dg)).mono (by decide +kernel)).eq (by grind)
  have big : ∀ {h g p l : Rat}, 126 / 100 ≤ h → 0 ≤ g → Ab (p - (h + g)) (32 * uu) → 0 ≤ l → Ab (l * l - p) (300 * uu) → 1 ≤ l := fun h1 g0 ep l0 el => by
    refine le_of_sq l0 ?_
    unfold Ab at ep el
    grind
  have sml : ∀ {q s : Rat}, 89 / 1000 ≤ q → 0 ≤ s → Ab (s * s - q) (300 * uu) → 297 / 1000 ≤ s := fun q1 s0 es => by
    refine le_of_sq s0 ?_
    unfold Ab at es
    grind
  exact ⟨dif_le dp (big S.h1 S.g0 S.ep S.l0 S.el) (big S'.h1 S'.g0 S'.ep S'.l0 S'.el) (by decide +kernel) (by decide +kernel), dif_le dq (sml S.q1 S.s0 S.es) (sml S'.q1 S'.s0 S'.es) (by decide +kernel) (by decide +kernel)⟩
end Go.Proofs.Yticoikchcmmpfaa
