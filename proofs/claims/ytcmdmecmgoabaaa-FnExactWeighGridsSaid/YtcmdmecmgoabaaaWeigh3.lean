/-
  Two grids weighed: where nothing is handed back; and the program's words.
-/
import Derived.Test.YtcmdmecmgoabaaaWeigh2
import Derived.Test.YtcmdmecmgoabaaaQS
namespace Go.Proofs.Ytcmdmecmgoabaaa
open Go.RowKit Go.Shelf
attribute [local go_sem] order_cl cl_zero cl_one cl_two aord_none

set_option maxRecDepth 8000 in
set_option maxHeartbeats 4000000 in
theorem specWeighNo (wa ha : Int) (a : Option Addr) (len cap : Nat) (xs : List Nat) (wb hb : Int) (a' : Option Addr) (len' cap' : Nat) (ys : List Nat) (x y : Nat) (w : World) (zs : List Nat) (h : FlS w a len xs) (h' : FlS w a' len' ys)
    (hk : okW wa ha wb hb xs ys (cl .f32 x) (cl .f32 y) = false) :
    Calls Try.prog 35 #[GV wa ha a len cap, GV wb hb a' len' cap', .float .f32 x, .float .f32 y] w (NewG wa ha zs false w) := by
  unfold GV
  have hb3 : Below w.heap.size w (((w.alloc (.cells #[.int .i64 wa, .int .i64 ha, .slice a len cap] 33)).alloc (.cells #[.int .i64 wb, .int .i64 hb, .slice a' len' cap'] 33)).alloc (.cells #[.int .i64 0, .int .i64 0, .slice none 0 0] 33)) := (((Below.refl _ _).alloc (Nat.le_refl _) _).alloc (by simp) _).alloc (by simp; omega) _
  have o1 := (((Own.new w [.int .i64 wa, .int .i64 ha, .slice a len cap] 33).alloc (.cells #[.int .i64 wb, .int .i64 hb, .slice a' len' cap'] 33)).alloc (.cells #[.int .i64 0, .int .i64 0, .slice none 0 0] 33))
  have o2 := ((Own.new (w.alloc (.cells #[.int .i64 wa, .int .i64 ha, .slice a len cap] 33)) [.int .i64 wb, .int .i64 hb, .slice a' len' cap'] 33).alloc (.cells #[.int .i64 0, .int .i64 0, .slice none 0 0] 33))
  have o3 := Own.new ((w.alloc (.cells #[.int .i64 wa, .int .i64 ha, .slice a len cap] 33)).alloc (.cells #[.int .i64 wb, .int .i64 hb, .slice a' len' cap'] 33)) [.int .i64 0, .int .i64 0, .slice none 0 0] 33
  simp only [World.size_alloc] at o2 o3
  have o2' : Own 33 _ (w.heap.size + 1) [.int .i64 wb, .int .i64 hb, .slice a' len' cap'] := o2
  have eA : ∀ W, Own 33 W w.heap.size [.int .i64 wa, .int .i64 ha, .slice a len cap] → At W w.heap.size wa ha a len cap := fun W o => ⟨o.at (k := 0) rfl, o.at (k := 1) rfl, o.at (k := 2) rfl⟩
  have eB : ∀ W, Own 33 W (w.heap.size + 1) [.int .i64 wb, .int .i64 hb, .slice a' len' cap'] → At W (w.heap.size + 1) wb hb a' len' cap' := fun W o => ⟨o.at (k := 0) rfl, o.at (k := 1) rfl, o.at (k := 2) rfl⟩
  have cA := l06Is _ _ _ _ _ _ _ _ (eA _ o1) (h.below hb3)
  have cB := fun n => l06Is _ _ _ _ _ _ _ _ (eB _ (o2'.drew n)) ((h'.below hb3).drewN n)
  have fx := l01Finite x
  have fy := l01Finite y
  have c10 := o1.at (k := 0) rfl
  have c11 := o1.at (k := 1) rfl
  have c20 := o2'.at (k := 0) rfl
  have c21 := o2'.at (k := 1) rfl
  have s0 := o3.at (k := 0) rfl
  have s1 := o3.at (k := 1) rfl
  have s2 := o3.at (k := 2) rfl
  have t0 := o3.free 0
  have t1 := o3.free 1
  have t2 := o3.free 2
  clear o1 o2 o2' o3 eA eB
  unfold okW at hk
  generalize validB wa ha xs = vA at *
  generalize validB wb hb ys = vB at *
  generalize isNum .f32 (cl .f32 x) = nx at *
  generalize isNum .f32 (cl .f32 y) = ny at *
  have hcases : vA = false ∨ (vA = true ∧ vB = false) ∨ (vA = true ∧ vB = true ∧ wa ≠ wb) ∨ (vA = true ∧ vB = true ∧ wa = wb ∧ ha ≠ hb) ∨ (vA = true ∧ vB = true ∧ wa = wb ∧ ha = hb ∧ nx = false) ∨ (vA = true ∧ vB = true ∧ wa = wb ∧ ha = hb ∧ nx = true ∧ ny = false) := by
    revert hk
    by_cases e1 : wa = wb <;> by_cases e2 : ha = hb <;> cases vA <;> cases vB <;> cases nx <;> cases ny <;> simp [e1, e2]
  clear hk
  rcases hcases with rfl | ⟨rfl, rfl⟩ | ⟨rfl, rfl, e1⟩ | ⟨rfl, rfl, rfl, e2⟩ | ⟨rfl, rfl, rfl, rfl, rfl⟩ | ⟨rfl, rfl, rfl, rfl, rfl, rfl⟩
  all_goals
    go_enter Try.func35, Try.ntmps35
    go_wp2_with fail
    generalize World.alloc (World.alloc (World.alloc w _) _) _ = W0 at *
    refine cA.mono ?_
    rintro e w' ⟨rfl, d, rfl⟩
    go_wp2_with (first
      | (go_at_call 54; refine (cB _).mono ?_; rintro e w' ⟨rfl, d, rfl⟩)
      | (go_at_call 63; (first | (with_reducible refine (fx _).mono ?_) | (with_reducible refine (fy _).mono ?_)); rintro e w' ⟨rfl, d, rfl⟩))
    refine bodyPost_ret (v := .tuple #[.agg #[.int .i64 0, .int .i64 0, .slice none 0 0], .bool false]) (by simp [results, Try.results35, go_sem, s0, s1, s2]) rfl (NewG.no ?_)
    exact below_drewN (((hb3.setCell (by simp; omega) _).setCell (by simp; omega) _).setCell (by simp; omega) _) _

/-- One height of two grids weighed. -/
theorem weighAt (W : World) (i px pa py pb b off b' off' len cap len' cap' x y z z' : Nat) (cX : W.cell? ⟨px, 0, none⟩ = some (.float .f32 x)) (cA : W.cell? ⟨pa, 2, none⟩ = some (.slice (some ⟨b, off, none⟩) len cap)) (eA : W.cell? ⟨b, off + i, none⟩ = some (.float .f32 z))
    (cY : W.cell? ⟨py, 0, none⟩ = some (.float .f32 y)) (cB : W.cell? ⟨pb, 2, none⟩ = some (.slice (some ⟨b', off', none⟩) len' cap')) (eB : W.cell? ⟨b', off' + i, none⟩ = some (.float .f32 z')) (hi : i < len) (hi' : i < len') :
    Calls Try.prog 78 #[.int .i64 (i : Int), .pointer (some ⟨px, 0, none⟩), .pointer (some ⟨pa, 0, none⟩), .pointer (some ⟨py, 0, none⟩), .pointer (some ⟨pb, 0, none⟩)] W (RetF (ab .add .f32 (ab .mul .f32 (cl .f32 x) (cl .f32 z)) (ab .mul .f32 (cl .f32 y) (cl .f32 z'))) W) := by
  go_enter Try.func78, Try.ntmps78
  go_wp2
  refine QS.wp_region (.bool true) (by kernel_rfl) (by kernel_rfl) ?_
  iterate 6 (refine QS.det (fun K hK => ?_); go_simp; refine hK _ ?_; clear hK K)
  refine QS.fl rfl rfl rfl rfl rfl ?_
  intro r1 hr1
  iterate 6 (refine QS.det (fun K hK => ?_); go_simp; refine hK _ ?_; clear hK K)
  refine QS.fl rfl rfl rfl rfl rfl ?_
  intro r2 hr2
  refine QS.fl rfl rfl rfl rfl rfl ?_
  intro r3 hr3
  refine QS.det (fun K hK => ?_); go_simp; refine hK _ ?_; clear hK K
  refine QS.nil ?_
  intro nq
  have HR : Hid (cl .f32 r3 = ab .add .f32 (ab .mul .f32 (cl .f32 x) (cl .f32 z)) (ab .mul .f32 (cl .f32 y) (cl .f32 z'))) := Lib.hid (by rw [hr3, hr1, hr2])
  clear hr1 hr2 hr3
  go_wp2
  go_ret
  exact ⟨_, rfl, HR.out, Drew.n _ _⟩
end Go.Proofs.Ytcmdmecmgoabaaa
