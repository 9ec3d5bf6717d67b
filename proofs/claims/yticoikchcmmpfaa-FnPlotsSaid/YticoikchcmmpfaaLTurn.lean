/-
  Where two lines meet: the program's function and the specification's.
-/
import Derived.Test.YticoikchcmmpfaaLPts
import Derived.Test.YticoikchcmmpfaaLNum5
namespace Go.Proofs.Yticoikchcmmpfaa
open Go.RowKit
attribute [local go_sem] order_cl cl_zero cl_one cl_two aord_none

theorem tab_get {j : Nat} (h1 : 1 ≤ j) (h2 : j ≤ 12) : turnX j = some (tT j) ∧ phOk (angX (some (tT j))) (qn j) = true ∧ nar (phX (angX (some (tT j))) (qn j)).1 = some (uR j) ∧ nar (phX (angX (some (tT j))) (qn j)).2 = some (uI j) ∧
    nar (mulRe (some (uR j)) (some (uI j)) (some 0) (some 1065353216)) = some (nR j) ∧ nar (mulIm (some (uR j)) (some (uI j)) (some 0) (some 1065353216)) = some (nI j) ∧
    Fits (mulRe (some (uR j)) (some (uI j)) (some 0) (some 1065353216)) ∧ Fits (mulIm (some (uR j)) (some (uI j)) (some 0) (some 1065353216)) ∧
    Vl .f32 (some (uR j)) (wv (uR j)) ∧ Vl .f32 (some (uI j)) (wv (uI j)) ∧ Vl .f32 (some (nR j)) (wv (nR j)) ∧ Vl .f32 (some (tT j)) (wv (tT j)) ∧ wv (nR j) = -wv (uI j) ∧ Ab (wv (uR j)) 1 ∧ Ab (wv (uI j)) 1 := by
  have h := tab h1 h2
  unfold tabOk at h
  simp only [Bool.and_eq_true, beq_iff_eq, decide_eq_true_eq] at h
  obtain ⟨e1, e2, e3, e4, e5, e6, e7, e8, e9, e10, e11, e12, e13, e14⟩ := h
  exact ⟨e1, e2, e3, e4, e5, e6, fits_of e7, fits_of e8, vl_word e9, vl_word e10, vl_word e11, vl_word e12, e13, ⟨e14.1, e14.2.1⟩, ⟨e14.2.2.1, e14.2.2.2⟩⟩

theorem vl_cl {k : FloatKind} {b : Nat} {v : Rat} (h : Vl k (some b) v) : cl k b = some b := by
  obtain ⟨n, s, m, p, e, hr, _⟩ := h
  cases e
  unfold cl
  rw [hr]
  rfl

theorem wayOf {j : Nat} (h1 : 1 ≤ j) (h2 : j ≤ 12) (w : World) : Calls Try.prog 21 #[.float .f32 (tT j)] w (RetCD (some (uR j)) (some (uI j)) w) := by
  obtain ⟨_, e2, e3, e4, _, _, _, _, _, _, _, e12, _⟩ := tab_get h1 h2
  have hc := vl_cl e12
  have cp := fun (x : Nat) (hx : cl .f64 x = angX (some (tT j))) W => phasor hx (qn j) e2 W
  rw [e3, e4] at cp
  unfold angX at cp
  clear e2 e3 e4 e12
  generalize uR j = u at *
  generalize uI j = v at *
  generalize tT j = t at *
  go_enter Try.func21, Try.ntmps21
  go_wp2_with (first | (refine wpList_flc rfl rfl rfl rfl rfl (show cl .f32 1048576000 = some 1048576000 by decide) hc ?_; intro r d hr) | (refine wpList_widc rfl rfl Try.underlying25 Try.underlying31 rfl hr ?_; intro x d hx))
  refine (cp _ hx _).mono ?_
  rintro e w1 ⟨p, q, rfl, hp, hq, d', rfl⟩
  go_wp2
  go_ret
  exact ⟨_, _, rfl, hp, hq, Drew.n _ _⟩
theorem l05Way {j : Nat} (h1 : 1 ≤ j) (h2 : j ≤ 12) (w : World) : Calls Try.prog 45 #[.float .f32 (tT j)] w (RetCD (some (uR j)) (some (uI j)) w) := by
  obtain ⟨_, e2, e3, e4, _, _, _, _, _, _, _, e12, _⟩ := tab_get h1 h2
  have hc := vl_cl e12
  have cp := fun (x : Nat) (hx : cl .f64 x = angX (some (tT j))) W => l01Phasor hx (qn j) e2 W
  rw [e3, e4] at cp
  unfold angX at cp
  clear e2 e3 e4 e12
  generalize uR j = u at *
  generalize uI j = v at *
  generalize tT j = t at *
  go_enter Try.func45, Try.ntmps45
  go_wp2_with (first | (refine wpList_flc rfl rfl rfl rfl rfl (show cl .f32 1048576000 = some 1048576000 by decide) hc ?_; intro r d hr) | (refine wpList_widc rfl rfl Try.underlying25 Try.underlying31 rfl hr ?_; intro x d hx))
  refine (cp _ hx _).mono ?_
  rintro e w1 ⟨p, q, rfl, hp, hq, d', rfl⟩
  go_wp2
  go_ret
  exact ⟨_, _, rfl, hp, hq, Drew.n _ _⟩

/-- A complex number and an answer, with no more than new memory. -/
def RetCB (X Y : Option Nat) (b : Bool) (w : World) (e : Ending) (w' : World) : Prop := ∃ r q, e = .returned (.tuple #[.complex .f32 r q, .bool b]) ∧ cl .f32 r = X ∧ cl .f32 q = Y ∧ Below w.heap.size w w'

theorem CxF.new (w : World) (z1 z2 : Nat × Nat) (E : TypeId) : CxF (w.alloc (.cells #[.complex .f32 z1.1 z1.2, .complex .f32 z2.1 z2.2] E)) (some ⟨w.heap.size, 0, none⟩) 2 (fun i => if i = 0 then z1 else z2) := by
  refine ⟨by omega, .inr ⟨w.heap.size, 0, rfl, by simp, fun i hi => ?_⟩⟩
  have ho := Own.new w [.complex .f32 z1.1 z1.2, .complex .f32 z2.1 z2.2] E
  have hi' : i = 0 ∨ i = 1 := by omega
  rcases hi' with rfl | rfl
  · exact ho.at rfl
  · exact ho.at rfl
theorem FlF.new (w : World) (z1 z2 : Nat) (E : TypeId) : FlF (w.alloc (.cells #[.float .f32 z1, .float .f32 z2] E)) (some ⟨w.heap.size, 0, none⟩) 2 (fun i => if i = 0 then z1 else z2) := by
  refine ⟨by omega, .inr ⟨w.heap.size, 0, rfl, by simp, fun i hi => ?_⟩⟩
  have ho := Own.new w [.float .f32 z1, .float .f32 z2] E
  have hi' : i = 0 ∨ i = 1 := by omega
  rcases hi' with rfl | rfl
  · exact ho.at rfl
  · exact ho.at rfl
theorem two_points (W : World) (B cap n : Nat) (z1 z2 : Nat × Nat) (h1 : NumC z1) (h2 : NumC z2) (E : TypeId) (hB : B = W.heap.size) : Calls Try.prog 27 #[.slice (some ⟨B, 0, none⟩) 2 cap] ((W.alloc (.cells #[.complex .f32 z1.1 z1.2, .complex .f32 z2.1 z2.2] E)).drewN n) (RetD (.bool true) ((W.alloc (.cells #[.complex .f32 z1.1 z1.2, .complex .f32 z2.1 z2.2] E)).drewN n)) := by
  subst hB
  exact arePoints _ 2 cap (fun i => if i = 0 then z1 else z2) _ (CxF.new W z1 z2 E) (fun i _ => by by_cases h : i = 0 <;> simp [h, h1, h2])
theorem two_numbers (W : World) (B cap n : Nat) (z1 z2 : Nat) (h1 : NumF z1) (h2 : NumF z2) (E : TypeId) (hB : B = W.heap.size) : Calls Try.prog 28 #[.slice (some ⟨B, 0, none⟩) 2 cap] ((W.alloc (.cells #[.float .f32 z1, .float .f32 z2] E)).drewN n) (RetD (.bool true) ((W.alloc (.cells #[.float .f32 z1, .float .f32 z2] E)).drewN n)) := by
  subst hB
  exact areFinite _ 2 cap (fun i => if i = 0 then z1 else z2) _ (FlF.new W z1 z2 E) (fun i _ => by by_cases h : i = 0 <;> simp [h, h1, h2])

def tmX (A U B1 A1 B2 A2 U1 U2 V1 V2 : Option Nat) : Option Nat := ab .add .f32 A (ab .mul .f32 U (ab .quo .f32 (crossX (ab .sub .f32 B1 A1) (ab .sub .f32 B2 A2) V1 V2) (crossX U1 U2 V1 V2)))

set_option maxRecDepth 8000 in
set_option maxHeartbeats 2000000 in
theorem meetTurnsT {j0 j1 : Nat} (h1 : 1 ≤ j0) (h2 : j0 ≤ 12) (h3 : 1 ≤ j1) (h4 : j1 ≤ 12) (a b : Nat × Nat) (ha : NumC a) (hb : NumC b) {A1 A2 B1 B2 : Option Nat} (ea1 : cl .f32 a.1 = A1) (ea2 : cl .f32 a.2 = A2) (eb1 : cl .f32 b.1 = B1) (eb2 : cl .f32 b.2 = B2)
    (hc : (aord .f32 (crossX (some (uR j0)) (some (uI j0)) (some (uR j1)) (some (uI j1))) (some 0) != some .eq) = true)
    (hp : isNum .f32 (tmX A1 (some (uR j0)) B1 A1 B2 A2 (some (uR j0)) (some (uI j0)) (some (uR j1)) (some (uI j1))) = true)
    (hq : isNum .f32 (tmX A2 (some (uI j0)) B1 A1 B2 A2 (some (uR j0)) (some (uI j0)) (some (uR j1)) (some (uI j1))) = true) (w : World) :
    Calls Try.prog 9 #[.complex .f32 a.1 a.2, .float .f32 (tT j0), .complex .f32 b.1 b.2, .float .f32 (tT j1)] w
      (RetCB (tmX A1 (some (uR j0)) B1 A1 B2 A2 (some (uR j0)) (some (uI j0)) (some (uR j1)) (some (uI j1))) (tmX A2 (some (uI j0)) B1 A1 B2 A2 (some (uR j0)) (some (uI j0)) (some (uR j1)) (some (uI j1))) true w) := by
  have cw0 := fun W => wayOf h1 h2 W
  have cw1 := fun W => wayOf h3 h4 W
  have cp := fun W B cap n E (hB : B = W.heap.size) => two_points W B cap n a b ha hb E hB
  have cn := fun W B cap n E (hB : B = W.heap.size) => two_numbers W B cap n (tT j0) (tT j1) (by have := (tab_get h1 h2).2.2.2.2.2.2.2.2.2.2.2.1; unfold NumF; rw [vl_cl this]; exact this.isNum) (by have := (tab_get h3 h4).2.2.2.2.2.2.2.2.2.2.2.1; unfold NumF; rw [vl_cl this]; exact this.isNum) E hB
  unfold tmX at *
  clear ha hb h1 h2 h3 h4
  generalize some (uR j0) = U1 at *
  generalize some (uI j0) = U2 at *
  generalize some (uR j1) = V1 at *
  generalize some (uI j1) = V2 at *
  generalize tT j0 = t0 at *
  generalize tT j1 = t1 at *
  obtain ⟨a1, a2⟩ := a
  obtain ⟨b1, b2⟩ := b
  dsimp only at *
  go_enter Try.func9, Try.ntmps9
  go_wp2_with fail
  refine (cw0 _).mono ?_
  rintro e w1 ⟨u1, u2, rfl, hu1, hu2, d1, rfl⟩
  go_wp2_with fail
  refine (cw1 _).mono ?_
  rintro e w1 ⟨v1, v2, rfl, hv1, hv2, d2, rfl⟩
  go_wp2_with fail
  refine (crossOf _ _ _ _ _).mono ?_
  rintro e w1 ⟨c, rfl, hcc, d3, rfl⟩
  rw [hu1, hu2, hv1, hv2] at hcc
  go_wp2_with fail
  refine (less _ _ _ _ _).mono ?_
  rintro e w1 ⟨x1, x2, rfl, hx1, hx2, d4, rfl⟩
  rw [ea1, eb1] at hx1
  rw [ea2, eb2] at hx2
  go_wp2_with fail
  refine (crossOf _ _ _ _ _).mono ?_
  rintro e w1 ⟨y, rfl, hy, d5, rfl⟩
  rw [hx1, hx2, hv1, hv2] at hy
  go_wp2_with (refine wpList_flc rfl rfl rfl rfl rfl hy hcc ?_; intro t d ht)
  refine (scaleC _ _ _ _).mono ?_
  rintro e w1 ⟨m1, m2, rfl, hm1, hm2, d6, rfl⟩
  rw [hu1, ht] at hm1
  rw [hu2, ht] at hm2
  go_wp2_with fail
  refine (plus _ _ _ _ _).mono ?_
  rintro e w1 ⟨p, q, rfl, hp', hq', d7, rfl⟩
  rw [ea1, hm1] at hp'
  rw [ea2, hm2] at hq'
  go_wp2_with (first | (go_at_call 27; refine (cp _ _ _ _ _ (by simp)).mono ?_; rintro e w' ⟨rfl, d8, rfl⟩) | (go_at_call 28; refine (cn _ _ _ _ _ (by simp)).mono ?_; rintro e w' ⟨rfl, d9, rfl⟩))
  refine (finitePointT (by rw [hp']; exact hp) (by rw [hq']; exact hq) _).mono ?_
  rintro e w1 ⟨r1, r2, rfl, hr1, hr2, d10, rfl⟩
  rw [hp'] at hr1
  rw [hq'] at hr2
  go_wp2
  exact bodyPost_ret (by simp [results, Try.results9, go_sem]) rfl ⟨r1, r2, rfl, hr1, hr2, by repeat (first | with_reducible refine below_drewN ?_ _ | with_reducible refine Below.alloc ?_ (by simp) _ | with_reducible exact Below.refl _ _)⟩

end Go.Proofs.Yticoikchcmmpfaa
