/-
  Where two lines meet: one turn twice.
-/
import Derived.Test.YticoikchcmmpfaaLTurn
namespace Go.Proofs.Yticoikchcmmpfaa
open Go.RowKit
attribute [local go_sem] order_cl cl_zero cl_one cl_two aord_none

/-- One turn twice: the lines do not meet. -/
theorem cross_same {A B : Option Nat} {a b : Rat} (ha : Vl .f32 A a) (hb : Vl .f32 B b) (ba : Ab a 1) (bb : Ab b 1) : aord .f32 (crossX A B A B) (some 0) = some .eq := by
  have hu : uu ≤ 1 / 1000 ∧ 0 < uu := by decide +kernel
  obtain ⟨m, hm, em⟩ := mul32 ha hb 0 (by omega) (B := 1) (by decide +kernel) ((ba.mul bb).mono (by decide +kernel))
  have hcomm : ab .mul .f32 B A = ab .mul .f32 A B := by
    obtain ⟨n1, s1, m1, p1, rfl, e1, _⟩ := ha
    obtain ⟨n2, s2, m2, p2, rfl, e2, _⟩ := hb
    simp only [ab, floatBits, Ieee.Format.mul, e1, e2, Ieee.Datum.product]
    rw [Nat.mul_comm m2 m1, Int.add_comm p2 p1, Bool.xor_comm s2 s1]
  unfold crossX
  rw [hcomm]
  have hz : Vl .f32 (some 0) 0 := ⟨0, false, 0, -149, rfl, by decide, by rw [dv_eq]; simp [Rat.zero_mul, Rat.mul_zero]⟩
  obtain ⟨n, s, m', p, e, er, ev⟩ := hm
  have h0 : ab .sub .f32 (ab .mul .f32 A B) (ab .mul .f32 A B) = some 0 := by
    rw [e]
    have e1 : floatBits .sub .f32 n n = some (FloatKind.f32.format.word false 0) := by
      simp only [floatBits, Ieee.Format.sub, er, Ieee.Datum.opposite, Ieee.Datum.sum]
      have : Ieee.signed s m' (p - min p p).toNat + Ieee.signed (!s) m' (p - min p p).toNat = 0 := by
        cases s <;> simp [Ieee.signed] <;> omega
      simp only [this]
      simp [Ieee.Format.write, Ieee.Format.nearest]
    exact e1
  rw [h0]
  exact (hz.order hz).2.1 rfl

set_option maxRecDepth 8000 in
set_option maxHeartbeats 2000000 in
theorem meetTurnsF {j : Nat} (h1 : 1 ≤ j) (h2 : j ≤ 12) (a b : Nat × Nat) (ha : NumC a) (hb : NumC b) (w : World) :
    Calls Try.prog 9 #[.complex .f32 a.1 a.2, .float .f32 (tT j), .complex .f32 b.1 b.2, .float .f32 (tT j)] w (RetCB (some 0) (some 0) false w) := by
  have cw0 := fun W => wayOf h1 h2 W
  have cp := fun W B cap n E (hB : B = W.heap.size) => two_points W B cap n a b ha hb E hB
  have cn := fun W B cap n E (hB : B = W.heap.size) => two_numbers W B cap n (tT j) (tT j) (by have := (tab_get h1 h2).2.2.2.2.2.2.2.2.2.2.2.1; unfold NumF; rw [vl_cl this]; exact this.isNum) (by have := (tab_get h1 h2).2.2.2.2.2.2.2.2.2.2.2.1; unfold NumF; rw [vl_cl this]; exact this.isNum) E hB
  obtain ⟨_, _, _, _, _, _, _, _, v1, v2, _, _, _, b1, b2⟩ := tab_get h1 h2
  have hc := cross_same v1 v2 b1 b2
  have hc' : (aord .f32 (crossX (some (uR j)) (some (uI j)) (some (uR j)) (some (uI j))) (some 0) != some .eq) = false := by rw [hc]; rfl
  clear ha hb h1 h2 hc v1 v2 b1 b2
  generalize some (uR j) = U1 at *
  generalize some (uI j) = U2 at *
  generalize tT j = t0 at *
  obtain ⟨a1, a2⟩ := a
  obtain ⟨b1, b2⟩ := b
  dsimp only at *
  go_enter Try.func9, Try.ntmps9
  go_wp2_with fail
  refine (cw0 _).mono ?_
  rintro e w1 ⟨u1, u2, rfl, hu1, hu2, d1, rfl⟩
  go_wp2_with fail
  refine (cw0 _).mono ?_
  rintro e w1 ⟨v1, v2, rfl, hv1, hv2, d2, rfl⟩
  go_wp2_with fail
  refine (crossOf _ _ _ _ _).mono ?_
  rintro e w1 ⟨c, rfl, hcc, d3, rfl⟩
  rw [hu1, hu2, hv1, hv2] at hcc
  go_wp2_with fail
  refine (less _ _ _ _ _).mono ?_
  rintro e w1 ⟨x1, x2, rfl, hx1, hx2, d4, rfl⟩
  go_wp2_with fail
  refine (crossOf _ _ _ _ _).mono ?_
  rintro e w1 ⟨y, rfl, hy, d5, rfl⟩
  clear hx1 hx2 hy
  go_wp2_with (refine wpList_flc rfl rfl rfl rfl rfl rfl rfl ?_; intro t d ht)
  clear ht
  refine (scaleC _ _ _ _).mono ?_
  rintro e w1 ⟨m1, m2, rfl, hm1, hm2, d6, rfl⟩
  clear hm1 hm2
  go_wp2_with fail
  refine (plus _ _ _ _ _).mono ?_
  rintro e w1 ⟨p, q, rfl, hp', hq', d7, rfl⟩
  clear hp' hq'
  go_wp2_with (first | (go_at_call 27; refine (cp _ _ _ _ _ (by simp)).mono ?_; rintro e w' ⟨rfl, d8, rfl⟩) | (go_at_call 28; refine (cn _ _ _ _ _ (by simp)).mono ?_; rintro e w' ⟨rfl, d9, rfl⟩))
  refine (finitePointF _ _ _).mono ?_
  rintro e w1 ⟨r1, r2, rfl, hr1, hr2, d10, rfl⟩
  go_wp2
  refine bodyPost_ret (v := .tuple #[.complex .f32 r1 r2, .bool false]) ?_ rfl ?_
  · simp [results, Try.results9, go_sem]
  refine ⟨r1, r2, rfl, hr1, hr2, ?_⟩
  (repeat (first | with_reducible refine below_drewN ?_ _ | with_reducible refine Below.alloc ?_ (by simp) _ | with_reducible exact Below.refl _ _))

end Go.Proofs.Yticoikchcmmpfaa
