/-
  meanOf, plotArea, isPlot, PlotArea, inside, finite, AngleOf: the walks.
-/
import Derived.Test.YticoikchcmmpfaaPAng2
namespace Go.Proofs.Yticoikchcmmpfaa
open Go.RowKit
attribute [local go_sem] order_cl cl_zero cl_one cl_two aord_none

theorem nx_rem {n k : Nat} (hk : k < n) : ((k : Int) + 1).tmod (n : Int) = ((nx n k : Nat) : Int) := by
  rw [Int.tmod_eq_emod_of_nonneg (by omega)]
  unfold nx
  by_cases h : k + 1 = n
  · rw [if_pos h]
    have : (k : Int) + 1 = n := by omega
    rw [this, Int.emod_self]; rfl
  · rw [if_neg h, Int.emod_eq_of_lt (by omega) (by omega)]
    omega
set_option maxRecDepth 8000 in
theorem meanOf (a : Option Addr) (n cap : Nat) (g : Nat → Nat × Nat) (w : World) (h : CxF w a n g) : Calls Try.prog 53 #[.slice a n cap] w (RetCD (meanX (fun k => cl .f32 (g k).1) n) (meanX (fun k => cl .f32 (g k).2) n) w) := by
  have hm := h.max
  have hlen := cl_intB .f32 (n : Int)
  unfold meanX lenW
  go_enter Try.func53, Try.ntmps53
  go_wp2
  go_loopw [3, 5, 8] (fun s _ i wr => ∃ (k x y : Nat), k ≤ n ∧ i = .int .i64 k ∧ s = .complex .f32 x y ∧ Hid (cl .f32 x = sum32 (fun k => cl .f32 (g k).1) k ∧ cl .f32 y = sum32 (fun k => cl .f32 (g k).2) k) ∧ Drew w wr) (fun _ _ i _ => n - (intOf i).toNat)
  case atStart => exact ⟨0, 0, 0, Nat.zero_le _, rfl, rfl, Lib.hid ⟨cl_zero _, cl_zero _⟩, Drew.refl _⟩
  case round =>
    obtain ⟨k, x, y, hk, rfl, rfl, hs, d, rfl⟩ := hrel
    by_cases hlt : k < n
    · obtain ⟨b, off, rfl, hbb, hck⟩ := h.get hlt
      have hx2 : ∀ r q, cl .f32 r = ab .add .f32 (cl .f32 x) (cl .f32 (g k).1) → cl .f32 q = ab .add .f32 (cl .f32 y) (cl .f32 (g k).2) → Hid (cl .f32 r = sum32 (fun k => cl .f32 (g k).1) (k + 1) ∧ cl .f32 q = sum32 (fun k => cl .f32 (g k).2) (k + 1)) := fun r q hr hq => Lib.hid (by rw [hr, hq, hs.out.1, hs.out.2]; exact ⟨rfl, rfl⟩)
      generalize (g k).1 = z1 at *
      generalize (g k).2 = z2 at *
      go_wp2_with (go_at_call 24; refine (plus _ _ _ _ _).mono ?_; rintro e w1 ⟨r, q, rfl, hr, hq, d1, rfl⟩)
      have hn := hx2 r q hr hq
      go_roundw
      case rel => exact ⟨k + 1, _, _, by omega, by go_num, rfl, hn, Drew.n _ _⟩
      case measure => simp [intOf]; omega
    · obtain rfl : k = n := by omega
      go_wp2_with (go_at_call 43; refine (over _ _ _ _).mono ?_; rintro e w1 ⟨r, q, rfl, hr, hq, d1, rfl⟩)
      rw [hs.out.1, hlen] at hr
      rw [hs.out.2, hlen] at hq
      go_ret
      exact ⟨_, _, rfl, hr, hq, Drew.n _ _⟩
set_option maxRecDepth 8000 in
theorem plotArea (a : Option Addr) (n cap : Nat) (g : Nat → Nat × Nat) (w : World) (h : CxF w a n g) : Calls Try.prog 48 #[.slice a n cap] w (RetF (areaX g n) w) := by
  have hm := h.max
  unfold areaX
  go_enter Try.func48, Try.ntmps48
  go_wp2
  go_loopw [3, 4, 5, 8] (fun s _ _ i wr => ∃ (k x : Nat), k ≤ n ∧ i = .int .i64 k ∧ s = .float .f32 x ∧ Hid (cl .f32 x = sumX g n k) ∧ Drew w wr) (fun _ _ _ i _ => n - (intOf i).toNat)
  case atStart => exact ⟨0, 0, Nat.zero_le _, rfl, rfl, Lib.hid (cl_zero _), Drew.refl _⟩
  case round =>
    obtain ⟨k, x, hk, rfl, rfl, hs, d, rfl⟩ := hrel
    by_cases hlt : k < n
    · obtain ⟨b, off, rfl, hbb, hck⟩ := h.get hlt
      have hnl := nx_lt hlt
      obtain ⟨b', off', eb, _, hck'⟩ := h.get hnl
      cases eb
      have hx2 : ∀ c r, cl .f32 c = crossX (cl .f32 (g k).1) (cl .f32 (g k).2) (cl .f32 (g (nx n k)).1) (cl .f32 (g (nx n k)).2) → cl .f32 r = ab .add .f32 (cl .f32 x) (cl .f32 c) → Hid (cl .f32 r = sumX g n (k + 1)) := fun c r hc hr => Lib.hid (by rw [hr, hc, hs.out]; rfl)
      have ew : IntKind.i64.wrap ((k : Int) + 1) = (k : Int) + 1 := IntWalk.i64_in _ (by omega)
      have ex := nx_rem hlt
      have en : IntKind.i64.wrap ((nx n k : Nat) : Int) = ((nx n k : Nat) : Int) := IntWalk.i64_in _ (by omega)
      have hn0 : (n : Int) ≠ 0 := by omega
      clear hs
      generalize (g (nx n k)).1 = y1 at *
      generalize (g (nx n k)).2 = y2 at *
      generalize nx n k = nk at *
      generalize (g k).1 = z1 at *
      generalize (g k).2 = z2 at *
      go_wp2_with (first | (go_at_call 22; refine (crossOf _ _ _ _ _).mono ?_; rintro e w1 ⟨c, rfl, hc, d1, rfl⟩) | (refine wpList_flc rfl rfl rfl rfl rfl (by exact rfl) (by exact rfl) ?_; intro r d hr))

      have hn := hx2 _ _ hc hr
      go_roundw
      case rel => exact ⟨k + 1, _, by omega, by go_num, rfl, hn, Drew.n _ _⟩
      case measure => simp [intOf]; omega
    · obtain rfl : k = n := by omega
      go_wp2_with (refine wpList_flc rfl rfl rfl rfl rfl (by exact rfl) (by first | exact cl_two32 | exact cl_two | exact rfl) ?_; intro r d hr)
      rw [hs.out] at hr
      go_ret
      exact ⟨_, rfl, hr, Drew.n _ _⟩
theorem isPlot (a : Option Addr) (n cap : Nat) (g : Nat → Nat × Nat) (w : World) (h : CxF w a n g) (hg : ∀ i, i < n → NumC (g i)) (n3 : 3 ≤ n) (n9 : n ≤ 32) : Calls Try.prog 49 #[.slice a n cap] w (RetD (.bool true) w) := by
  have cm := areMarks a n cap g w h hg (by omega) (by omega)
  go_enter Try.func49, Try.ntmps49
  go_wp2_with (go_at_call 29; refine cm.mono ?_; rintro e w1 ⟨rfl, d1, rfl⟩)
  go_ret
  exact ⟨by simp; omega, Drew.n _ _⟩
theorem finiteT (x : Nat) (h : NumF x) (w : World) : Calls Try.prog 47 #[.float .f32 x, .bool true] w (RetD (.tuple #[.float .f32 x, .bool true]) w) := by
  have c := fun W => isFin x W
  unfold NumF at h
  rw [h] at c
  go_enter Try.func47, Try.ntmps47
  go_wp2_with (go_at_call 33; refine (c _).mono ?_; rintro e w' ⟨rfl, d, rfl⟩)
  refine bodyPost_ret (v := .tuple #[.float .f32 x, .bool true]) ?_ rfl ⟨rfl, Drew.n _ _⟩
  simp [results, Try.results47, go_sem]
def RetFT (X : Option Nat) (w : World) (e : Ending) (w' : World) : Prop := ∃ r, e = .returned (.tuple #[.float .f32 r, .bool true]) ∧ cl .f32 r = X ∧ Drew w w'
theorem plotArea2 (a : Option Addr) (n cap : Nat) (g : Nat → Nat × Nat) (w : World) (h : CxF w a n g) (hg : ∀ i, i < n → NumC (g i)) (n3 : 3 ≤ n) (n9 : n ≤ 32) (hf : isNum .f32 (areaX g n) = true) : Calls Try.prog 16 #[.slice a n cap] w (RetFT (areaX g n) w) := by
  have cp := fun W hW => plotArea a n cap g W hW
  have ci := fun W hW => isPlot a n cap g W hW hg n3 n9
  have cf := fun x (hx : cl .f32 x = areaX g n) W => finiteT x (by unfold NumF; rw [hx]; exact hf) W
  clear hf hg
  generalize areaX g n = A at *
  go_enter Try.func16, Try.ntmps16
  go_wp2_with (first | (go_at_call 48; refine (cp _ h).mono ?_; rintro e w' ⟨x, rfl, hx, d, rfl⟩) | (go_at_call 49; refine (ci _ (h.below (below_drewN (Below.refl _ _) _))).mono ?_; rintro e w' ⟨rfl, d2, rfl⟩) | (go_at_call 47; refine (cf _ hx _).mono ?_; rintro e w' ⟨rfl, d3, rfl⟩))
  refine bodyPost_ret (v := .tuple #[.float .f32 x, .bool true]) ?_ rfl ⟨_, rfl, hx, Drew.n _ _⟩
  simp [results, Try.results16, go_sem]
theorem insideT {x : Nat} {X : Option Nat} (hx : cl .f32 x = X) (h1 : (aord .f32 X (some 0) == some .gt || aord .f32 X (some 0) == some .eq) = true) (h2 : (aord .f32 X one == some .lt || aord .f32 X one == some .eq) = true) (w : World) : Calls Try.prog 50 #[.float .f32 x, .float .f32 0, .float .f32 1065353216] w (RetD (.bool true) w) := by
  go_enter Try.func50, Try.ntmps50
  go_wp2
  go_ret
  exact ⟨rfl, Drew.refl _⟩
theorem angleOf (x y : Nat) {vx vy : Rat} (hx : Vl .f32 (cl .f32 x) vx) (hy : Vl .f32 (cl .f32 y) vy) (hne : vx ≠ 0 ∨ vy ≠ 0) (w : World) : Calls Try.prog 54 #[.complex .f32 x y] w (RetAng w) := by
  have c := fun W => angleTurns x y hx hy hne W
  go_enter Try.func54, Try.ntmps54
  go_wp2_with (go_at_call 72; refine (c _).mono ?_; rintro e w' ⟨r, rfl, hr, hb⟩)
  go_ret
  exact ⟨_, rfl, hr, hb⟩
end Go.Proofs.Yticoikchcmmpfaa
