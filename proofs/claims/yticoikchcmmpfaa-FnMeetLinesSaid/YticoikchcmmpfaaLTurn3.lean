/-
  Where two lines meet: one turn twice, the specification.
-/
import Derived.Test.YticoikchcmmpfaaLTurn2
namespace Go.Proofs.Yticoikchcmmpfaa
open Go.RowKit
attribute [local go_sem] order_cl cl_zero cl_one cl_two aord_none

set_option maxRecDepth 8000 in
set_option maxHeartbeats 2000000 in
theorem specTurnsF {j : Nat} (h1 : 1 ≤ j) (h2 : j ≤ 12) (a b : Nat × Nat) (ha : NumC a) (hb : NumC b) (w : World) :
    Calls Try.prog 15 #[.complex .f32 a.1 a.2, .float .f32 (tT j), .complex .f32 b.1 b.2, .float .f32 (tT j)] w (RetCO (some 0) (some 0) false w) := by
  have cw0 := fun W => l05Way h1 h2 W
  have cA := fun W => l01CFinite a.1 a.2 W
  have cB := fun W => l01CFinite b.1 b.2 W
  have cT := fun W => l01Finite (tT j) W
  have ht : isNum .f32 (cl .f32 (tT j)) = true := by have := (tab_get h1 h2).2.2.2.2.2.2.2.2.2.2.2.1; rw [vl_cl this]; exact this.isNum
  rw [ha.1, ha.2] at cA
  rw [hb.1, hb.2] at cB
  rw [ht] at cT
  obtain ⟨_, _, _, _, _, _, _, _, v1, v2, _, _, _, b1, b2⟩ := tab_get h1 h2
  have hc := cross_same v1 v2 b1 b2
  have hc' : (aord .f32 (crossX (some (uR j)) (some (uI j)) (some (uR j)) (some (uI j))) (some 0) == some .eq) = true := by rw [hc]; rfl
  clear ha hb h1 h2 hc v1 v2 b1 b2 ht
  generalize some (uR j) = U1 at *
  generalize some (uI j) = U2 at *
  generalize tT j = t0 at *
  obtain ⟨a1, a2⟩ := a
  obtain ⟨b1, b2⟩ := b
  dsimp only at *
  go_enter Try.func15, Try.ntmps15
  go_wp2_with (first | (go_at_call 36; (first | (with_reducible refine (cA _).mono ?_) | (with_reducible refine (cB _).mono ?_)); rintro e w' ⟨rfl, d8, rfl⟩) | (go_at_call 44; refine (cT _).mono ?_; rintro e w' ⟨rfl, d9, rfl⟩))

  refine (cw0 _).mono ?_
  rintro e w1 ⟨u1, u2, rfl, hu1, hu2, d1, rfl⟩
  go_wp2_with fail
  refine (cw0 _).mono ?_
  rintro e w1 ⟨v1, v2, rfl, hv1, hv2, d2, rfl⟩
  go_wp2_with fail
  refine (l05Cross _ _ _ _ _).mono ?_
  rintro e w1 ⟨c, rfl, hcc, d3, rfl⟩
  rw [hu1, hu2, hv1, hv2] at hcc
  go_wp2
  exact bodyPost_ret (by simp [results, Try.results15, go_sem]) rfl ⟨0, 0, rfl, cl_zero _, cl_zero _, Drew.n _ _⟩
end Go.Proofs.Yticoikchcmmpfaa
