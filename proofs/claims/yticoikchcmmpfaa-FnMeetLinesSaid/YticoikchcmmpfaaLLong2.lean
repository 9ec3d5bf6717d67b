/-
  The point at two distances: the program's function.
-/
import Derived.Test.YticoikchcmmpfaaLLong
namespace Go.Proofs.Yticoikchcmmpfaa
open Go.RowKit
attribute [local go_sem] order_cl cl_zero cl_one cl_two aord_none run_neg_float

set_option maxRecDepth 8000 in
set_option maxHeartbeats 2000000 in
theorem implLongs (a b : Nat × Nat) (r s : Nat) (left yes : Bool) (ha : NumC a) (hb : NumC b) {A1 A2 B1 B2 R S : Option Nat} (ea1 : cl .f32 a.1 = A1) (ea2 : cl .f32 a.2 = A2) (eb1 : cl .f32 b.1 = B1) (eb2 : cl .f32 b.2 = B2) (er : cl .f32 r = R) (es : cl .f32 s = S) (ok : LongsOk A1 A2 B1 B2 R S left yes) (w : World) :
    Calls Try.prog 13 #[.complex .f32 a.1 a.2, .float .f32 r, .complex .f32 b.1 b.2, .float .f32 s, .bool left] w (RetLO (lp1 A1 A2 B1 B2 R S left) (lp2 A1 A2 B1 B2 R S left) yes w) := by
  have cp0 : ∀ (W : World) B cap E, B = W.heap.size → Calls Try.prog 27 #[.slice (some ⟨B, 0, none⟩) 2 cap] (W.alloc (.cells #[.complex .f32 a.1 a.2, .complex .f32 b.1 b.2] E)) (RetD (.bool true) (W.alloc (.cells #[.complex .f32 a.1 a.2, .complex .f32 b.1 b.2] E))) := fun W B cap E hB => two_points W B cap 0 a b ha hb E hB
  obtain ⟨rn, sn, rp, sp, fit, dp, hok, f1, f2, p1, p2⟩ := ok
  have cn := fun W B cap n E (hB : B = W.heap.size) => two_numbers W B cap n r s (by unfold NumF; rw [er]; exact rn) (by unfold NumF; rw [es]; exact sn) E hB
  have rp' : (aord .f32 R (some 0) == some .gt) = true := by rw [rp]; rfl
  have sp' : (aord .f32 S (some 0) == some .gt) = true := by rw [sp]; rfl
  have dp' : (aord .f32 (longX (ab .sub .f32 B1 A1) (ab .sub .f32 B2 A2)) (some 0) == some .gt) = true := by rw [dp]; rfl
  unfold geB at hok
  unfold lp1 lp2
  clear ha hb rn sn rp sp dp
  obtain ⟨a1, a2⟩ := a
  obtain ⟨b1, b2⟩ := b
  dsimp only at *
  go_enter Try.func13, Try.ntmps13
  go_wp2_with (first | (go_at_call 27; refine (cp0 _ _ _ _ (by simp)).mono ?_; rintro e w' ⟨rfl, d8, rfl⟩) | (go_at_call 28; refine (cn _ _ _ _ _ (by simp)).mono ?_; rintro e w' ⟨rfl, d9, rfl⟩))
  refine (less _ _ _ _ _).mono ?_
  rintro e w' ⟨w1, w2, rfl, hw1, hw2, d1, rfl⟩
  rw [ea1, eb1] at hw1
  rw [ea2, eb2] at hw2
  generalize ab .sub .f32 B1 A1 = W1 at *
  generalize ab .sub .f32 B2 A2 = W2 at *
  go_wp2_with fail
  refine (longOf _ _ (by rw [hw1, hw2]; exact fit) _).mono ?_
  rintro e w' ⟨l, rfl, hl, d10, rfl⟩
  rw [hw1, hw2] at hl
  generalize longX W1 W2 = D at *
  clear fit cp0 cn
  have k2 := cl_two32
  have rX : ab .quo .f32 (ab .sub .f32 (ab .add .f32 (ab .mul .f32 D D) (ab .mul .f32 R R)) (ab .mul .f32 S S)) (ab .mul .f32 twoW D) = xX D R S := rfl
  generalize hXX : xX D R S = XX at *
  have rY : ab .sub .f32 (ab .mul .f32 R R) (ab .mul .f32 XX XX) = yX R XX := rfl
  generalize hYY : yX R XX = YY at *
  cases yes with
  | false =>
    simp only [Bool.or_eq_false_iff] at hok
    obtain ⟨hok1, hok2⟩ := hok
    clear f1 f2 p1 p2
    go_wp2_with (refine wpList_flc rfl rfl rfl rfl rfl (by assumption) (by assumption) ?_; intro x d hx; (try rw [rX] at hx); (try rw [rY] at hx))
    exact bodyPost_ret (by simp [results, Try.results13, go_sem]) rfl ⟨0, 0, rfl, (fun h => by cases h), by repeat (first | with_reducible refine below_drewN ?_ _ | with_reducible refine Below.alloc ?_ (by simp) _ | with_reducible exact Below.refl _ _)⟩
  | true =>
    replace f1 := f1 rfl
    replace f2 := f2 rfl
    replace p1 := p1 rfl
    replace p2 := p2 rfl
    go_wp2_with (refine wpList_flc rfl rfl rfl rfl rfl (by assumption) (by assumption) ?_; intro x d hx; (try rw [rX] at hx); (try rw [rY] at hx))
    refine (rootNumber _ _).mono ?_
    rintro e w' ⟨h, rfl, hh, d11, rfl⟩
    rw [hx] at hh
    have hneg := cl_neg hh
    have g1 : ∀ H X Y, highX left YY = H → cl .f32 X = ab .quo .f32 W1 D → cl .f32 Y = ab .quo .f32 W2 D → ∀ x' h', cl .f32 x' = XX → cl .f32 h' = H → ∀ W, Calls Try.prog 30 #[.complex .f32 X Y, .complex .f32 x' h'] W (RetCD (nar (mulRe (ab .quo .f32 W1 D) (ab .quo .f32 W2 D) XX (highX left YY))) (nar (mulIm (ab .quo .f32 W1 D) (ab .quo .f32 W2 D) XX (highX left YY))) W) := by
      intro H X Y hH hX hY x' h' hx' hh' W
      have := mulComplex X Y x' h' (by rw [hX, hY, hx', hh', ← hH]; exact f1) (by rw [hX, hY, hx', hh', ← hH]; exact f2) W
      rw [hX, hY, hx', hh', ← hH] at this
      exact this
    have g2 : ∀ X Y, cl .f32 X = lpX A1 (mulRe (ab .quo .f32 W1 D) (ab .quo .f32 W2 D) XX (highX left YY)) → cl .f32 Y = lpX A2 (mulIm (ab .quo .f32 W1 D) (ab .quo .f32 W2 D) XX (highX left YY)) → ∀ W, Calls Try.prog 23 #[.complex .f32 X Y, .bool true] W (RetCO (lpX A1 (mulRe (ab .quo .f32 W1 D) (ab .quo .f32 W2 D) XX (highX left YY))) (lpX A2 (mulIm (ab .quo .f32 W1 D) (ab .quo .f32 W2 D) XX (highX left YY))) true W) := by
      intro X Y hX hY W
      have := finitePointT (x := X) (y := Y) (by rw [hX]; exact p1) (by rw [hY]; exact p2) W
      rw [hX, hY] at this
      exact this
    clear f1 f2 p1 p2 rX rY hXX hYY dp' hok k2 rp' sp'
    cases left
    all_goals
      go_wp2_with fail
      refine (over _ _ _ _).mono ?_
      rintro e w' ⟨o1, o2, rfl, ho1, ho2, d14, rfl⟩
      rw [hw1, hl] at ho1
      rw [hw2, hl] at ho2
      go_wp2_with fail
      refine (g1 _ _ _ rfl ho1 ho2 _ _ (by assumption) (by assumption) _).mono ?_
      rintro e w' ⟨m1, m2, rfl, hm1, hm2, d12, rfl⟩
      go_wp2_with fail
      refine (plus _ _ _ _ _).mono ?_
      rintro e w' ⟨p1, p2, rfl, hp1, hp2, d15, rfl⟩
      rw [ea1, hm1] at hp1
      rw [ea2, hm2] at hp2
      go_wp2_with fail
      refine (g2 _ _ hp1 hp2 _).mono ?_
      rintro e w' ⟨q1, q2, rfl, hq1, hq2, d13, rfl⟩
      go_wp2
      exact bodyPost_ret (by simp [results, Try.results13, go_sem]) rfl ⟨q1, q2, rfl, fun _ => ⟨hq1, hq2⟩, by repeat (first | with_reducible refine below_drewN ?_ _ | with_reducible refine Below.alloc ?_ (by simp) _ | with_reducible exact Below.refl _ _)⟩
end Go.Proofs.Yticoikchcmmpfaa
