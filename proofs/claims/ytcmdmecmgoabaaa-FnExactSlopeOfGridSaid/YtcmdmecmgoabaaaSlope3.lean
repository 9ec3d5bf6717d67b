/-
  The slope at a place: told twice, whole.
-/
import Derived.Test.YtcmdmecmgoabaaaSlope2
namespace Go.Proofs.Ytcmdmecmgoabaaa
open Go.RowKit
attribute [local go_sem] order_cl cl_zero cl_one cl_two aord_none

theorem l01CFinite (x y : Nat) (w : World) : Calls Try.prog 73 #[.complex .f32 x y] w (RetD (.bool (isNum .f32 (cl .f32 x) && isNum .f32 (cl .f32 y))) w) := by
  have cx := fun W => l01Finite x W
  have cy := fun W => l01Finite y W
  generalize isNum .f32 (cl .f32 x) = bx at *
  generalize isNum .f32 (cl .f32 y) = bz at *
  cases bx
  all_goals
    go_enter Try.func73, Try.ntmps73
    go_wp2_with (go_at_call 63; (first | (with_reducible refine (cx _).mono ?_) | (with_reducible refine (cy _).mono ?_)); rintro e w' ⟨rfl, d, rfl⟩)
    go_ret
    exact ⟨by simp, Drew.n _ _⟩
theorem isFinC (x y : Nat) (w : World) : Calls Try.prog 95 #[.complex .f32 x y] w (RetD (.bool (isNum .f32 (cl .f32 x) && isNum .f32 (cl .f32 y))) w) := by
  have cx := fun W => isFin x W
  have cy := fun W => isFin y W
  generalize isNum .f32 (cl .f32 x) = bx at *
  generalize isNum .f32 (cl .f32 y) = bz at *
  cases bx
  all_goals
    go_enter Try.func95, Try.ntmps95
    go_wp2_with (go_at_call 64; (first | (with_reducible refine (cx _).mono ?_) | (with_reducible refine (cy _).mono ?_)); rintro e w' ⟨rfl, d, rfl⟩)
    go_ret
    exact ⟨by simp, Drew.n _ _⟩

/-- A complex number of two classes and an answer, with no more than new memory. -/
def RetC (X Y : Option Nat) (ok : Bool) (w : World) (e : Ending) (w' : World) : Prop := ∃ r q, e = .returned (.tuple #[.complex .f32 r q, .bool ok]) ∧ cl .f32 r = X ∧ cl .f32 q = Y ∧ Below w.heap.size w w'
def okSl (wide high : Int) (zs : List Nat) (i : Int) : Bool := placeB wide high zs i && (isNum .f32 (slopeX wide zs i.toNat) && isNum .f32 (slopeY wide high zs i.toNat))
def orZ (ok : Bool) (X : Option Nat) : Option Nat := if ok then X else some 0
theorem place_nat {wide high : Int} {zs : List Nat} {i : Int} (h : placeB wide high zs i = true) : validB wide high zs = true ∧ ∃ k : Nat, i = (k : Int) ∧ k < zs.length := by
  unfold placeB at h
  simp only [Bool.and_eq_true, decide_eq_true_eq] at h
  exact ⟨h.1, i.toNat, by omega, by omega⟩

theorem finitePoint (x y : Nat) (w : World) : Calls Try.prog 75 #[.complex .f32 x y, .bool true] w (RetC (orZ (isNum .f32 (cl .f32 x) && isNum .f32 (cl .f32 y)) (cl .f32 x)) (orZ (isNum .f32 (cl .f32 x) && isNum .f32 (cl .f32 y)) (cl .f32 y)) (isNum .f32 (cl .f32 x) && isNum .f32 (cl .f32 y)) w) := by
  have c := fun W => isFinC x y W
  generalize (isNum .f32 (cl .f32 x) && isNum .f32 (cl .f32 y)) = b at *
  cases b
  all_goals
    go_enter Try.func75, Try.ntmps75
    go_wp2_with (go_at_call 95; refine (c _).mono ?_; rintro e w' ⟨rfl, d, rfl⟩)
  · exact bodyPost_ret (by simp [results, Try.results75, go_sem]) rfl ⟨0, 0, rfl, cl_zero _, cl_zero _, below_drewN (Below.refl _ _) _⟩
  · exact bodyPost_ret (by simp [results, Try.results75, go_sem]) rfl ⟨x, y, rfl, rfl, rfl, below_drewN (Below.refl _ _) _⟩

set_option maxRecDepth 8000 in
set_option maxHeartbeats 2000000 in
theorem specSlopeOfGrid (wide high : Int) (a : Option Addr) (len cap : Nat) (zs : List Nat) (i : Int) (w : World) (h : FlS w a len zs) :
    Calls Try.prog 32 #[GV wide high a len cap, .int .i64 i] w (RetC (orZ (okSl wide high zs i) (slopeX wide zs i.toNat)) (orZ (okSl wide high zs i) (slopeY wide high zs i.toNat)) (okSl wide high zs i) w) := by
  have hb : ∀ o, Below w.heap.size w (w.alloc o) := fun o => (Below.refl _ _).alloc (Nat.le_refl _) _
  have L0 := Lies.new (wk := w) (wide := wide) (high := high) (cap := cap) 33 h
  have call := l06Index _ _ _ _ _ _ _ i _ L0.at' L0.fl
  unfold GV okSl
  cases hp : placeB wide high zs i with
  | false =>
    rw [hp] at call
    rw [Bool.false_and]
    go_enter Try.func32, Try.ntmps32
    go_wp2_with (go_at_call 71; refine call.mono ?_; rintro e w' ⟨rfl, d, rfl⟩)
    exact bodyPost_ret (by simp [results, Try.results32, go_sem]) rfl ⟨0, 0, rfl, cl_zero _, cl_zero _, below_drewN (hb _) _⟩
  | true =>
    rw [hp] at call
    rw [Bool.true_and]
    obtain ⟨hv, k, rfl, hk⟩ := place_nat hp
    rw [Int.toNat_natCast]
    have cS := fun n => l06Slope _ _ _ _ _ _ _ k _ (⟨L0.at'.c0, L0.at'.c1, L0.at'.c2⟩ : At ((w.alloc (.cells #[.int .i64 wide, .int .i64 high, .slice a len cap] 33)).drewN n) w.heap.size wide high a len cap) (L0.fl.drewN n) hv hk
    generalize slopeX wide zs k = X at *
    generalize slopeY wide high zs k = Y at *
    go_enter Try.func32, Try.ntmps32
    go_wp2_with (go_at_call 71; refine call.mono ?_; rintro e w' ⟨rfl, d, rfl⟩)
    refine (cS d).mono ?_
    rintro e w' ⟨r, q, rfl, hr, hq, d2, rfl⟩
    subst hr
    subst hq
    have cF := fun W => l01CFinite r q W
    generalize hok : (isNum .f32 (cl .f32 r) && isNum .f32 (cl .f32 q)) = ok at *
    cases ok
    all_goals
      go_wp2_with (go_at_call 73; refine (cF _).mono ?_; rintro e w' ⟨rfl, d3, rfl⟩)
    · exact bodyPost_ret (by simp [results, Try.results32, go_sem]) rfl ⟨0, 0, rfl, cl_zero _, cl_zero _, below_drewN (hb _) _⟩
    · exact bodyPost_ret (by simp [results, Try.results32, go_sem]) rfl ⟨r, q, rfl, rfl, rfl, below_drewN (hb _) _⟩

set_option maxRecDepth 8000 in
set_option maxHeartbeats 2000000 in
theorem isPlaceOf (wide high : Int) (a : Option Addr) (len cap : Nat) (zs : List Nat) (i : Int) (w : World) (h : FlS w a len zs) :
    Calls Try.prog 74 #[GV wide high a len cap, .int .i64 i] w (RetB (.bool (placeB wide high zs i)) w) := by
  have hb : ∀ o, Below w.heap.size w (w.alloc o) := fun o => (Below.refl _ _).alloc (Nat.le_refl _) _
  have L0 := Lies.new (wk := w) (wide := wide) (high := high) (cap := cap) 33 h
  have call := implValidGrid wide high a len cap zs _ L0.fl
  have hl := h.len
  subst hl
  unfold GV at call
  unfold GV placeB
  cases hv : validB wide high zs with
  | false =>
    rw [hv] at call
    go_enter Try.func74, Try.ntmps74
    go_wp2_with (go_at_call 20; refine call.mono ?_; rintro e w' ⟨rfl, hb1⟩)
    go_ret
    exact ⟨rfl, (hb _).trans (hb1.mono (by simp))⟩
  | true =>
    rw [hv] at call
    have hn2 := (partsV hv).2.2
    have cN := fun W => inI i 0 ((zs.length : Int) - 1) W
    generalize decide (0 ≤ i ∧ i ≤ (zs.length : Int) - 1) = b at *
    go_enter Try.func74, Try.ntmps74
    go_wp2_with fail
    refine call.mono ?_
    rintro e w1 ⟨rfl, hb1⟩
    obtain ⟨c0, c1, c2⟩ := (L0.next hb1).at'
    have hbw := (hb (.cells #[.int .i64 wide, .int .i64 high, .slice a zs.length cap] 33)).trans (hb1.mono (by simp))
    go_wp2_with (first | (go_at_call 57; refine (lengthF _ _ _ _).mono ?_; rintro e w' ⟨rfl, rfl⟩) | (go_at_call 89; refine (cN _).mono ?_; rintro e w' ⟨rfl, rfl⟩))
    go_ret
    exact ⟨by simp, hbw⟩

/-- A complex number of two classes, with no more than new memory. -/
def RetCB (X Y : Option Nat) (w : World) (e : Ending) (w' : World) : Prop := ∃ r q, e = .returned (.complex .f32 r q) ∧ cl .f32 r = X ∧ cl .f32 q = Y ∧ Below w.heap.size w w'

set_option maxRecDepth 8000 in
set_option maxHeartbeats 4000000 in
theorem slope (wide high : Int) (a : Option Addr) (len cap : Nat) (zs : List Nat) (i : Nat) (w : World) (h : FlS w a len zs) (hv : validB wide high zs = true) (hi : i < zs.length) :
    Calls Try.prog 76 #[GV wide high a len cap, .int .i64 (i : Int)] w (RetCB (slopeX wide zs i) (slopeY wide high zs i) w) := by
  obtain ⟨⟨hw, hh⟩, hn, hn2⟩ := partsV hv
  obtain ⟨hx, hy, x0, x1, y0, y1⟩ := placeS hw hn hi
  have hl := h.len
  subst hl
  have cX : ∀ W, Below w.heap.size w W → Calls Try.prog 96 #[GV wide high a zs.length cap, .int .i64 (i : Int), .int .i64 ((i : Int).tmod wide), .int .i64 wide, .int .i64 1] W (RetX (slopeX wide zs i) W) := fun W hb =>
    along wide high a zs.length cap i 1 _ wide zs W (h.below hb) hn2 hi (by omega) hx hw x0 x1
  have cY : ∀ W, Below w.heap.size w W → Calls Try.prog 96 #[GV wide high a zs.length cap, .int .i64 (i : Int), .int .i64 ((i : Int).tdiv wide), .int .i64 high, .int .i64 wide] W (RetX (slopeY wide high zs i) W) := fun W hb => by
    have := along wide high a zs.length cap i wide.toNat _ high zs W (h.below hb) hn2 hi (by omega) hy hh y0 y1
    rw [Int.toNat_of_nonneg (show 0 ≤ wide by omega)] at this
    exact this
  have hw0 : wide ≠ 0 := by omega
  have hwz : (wide == 0) = false := by simp; omega
  generalize slopeX wide zs i = X at *
  generalize slopeY wide high zs i = Y at *
  obtain ⟨x, hx'⟩ : ∃ x, (i : Int).tmod wide = x := ⟨_, rfl⟩
  obtain ⟨y, hy'⟩ : ∃ y, (i : Int).tdiv wide = y := ⟨_, rfl⟩
  rw [hx'] at cX hx
  rw [hy'] at cY hy
  have hq : IntKind.i64.wrap y = y := IntWalk.i64_in _ (by omega)
  clear x0 x1 y0 y1 hn
  have hb1 : Below w.heap.size w (w.alloc (.cells #[.int .i64 wide, .int .i64 high, .slice a zs.length cap] 33)) := (Below.refl _ _).alloc (Nat.le_refl _) _
  have L0 := Lies.new (wk := w) (wide := wide) (high := high) (cap := cap) 33 h
  unfold GV at cX cY
  unfold GV
  go_enter Try.func76, Try.ntmps76
  go_wp2
  generalize w.alloc (.cells #[.int .i64 wide, .int .i64 high, .slice a zs.length cap] 33) = w1 at *
  have sOf : ∀ W, Below w1.heap.size w1 W → W.cell? ⟨w.heap.size, 0, none⟩ = some (.int .i64 wide) ∧ W.cell? ⟨w.heap.size, 1, none⟩ = some (.int .i64 high) ∧ W.cell? ⟨w.heap.size, 2, none⟩ = some (.slice a zs.length cap) := fun W hb => ⟨(L0.next hb).at'.c0, (L0.next hb).at'.c1, (L0.next hb).at'.c2⟩
  have hD : Below w1.heap.size w1 w1.drew := below_drewN (Below.refl _ _) 1
  go_region_held3 (fun W => W.cell? ⟨w.heap.size, 0, none⟩ = some (.int .i64 wide) ∧ W.cell? ⟨w.heap.size, 1, none⟩ = some (.int .i64 high) ∧ W.cell? ⟨w.heap.size, 2, none⟩ = some (.slice a zs.length cap))
    (first | exact sOf _ hD | exact sOf _ hB3 | exact sOf _ hB4)
    (first
      | (go_at_call 96; have k3 := hB3.size; refine (cY _ (hb1.trans (hB3.mono hb1.size))).mono ?_; rintro e w4 ⟨q, rfl, hq', hb4⟩; have hB4 := hB3.trans (hb4.mono k3))
      | (go_at_call 96; refine (cX _ (hb1.trans (hD.mono hb1.size))).mono ?_; rintro e w3 ⟨r, rfl, hr, hb3⟩; have hB3 : Below w1.heap.size w1 w3 := hD.trans hb3))
  all_goals
    go_wp2
    go_ret
    exact ⟨_, _, rfl, hr, hq', hb1.trans (hB4.mono hb1.size)⟩

set_option maxRecDepth 8000 in
set_option maxHeartbeats 2000000 in
theorem implSlopeOfGrid (wide high : Int) (a : Option Addr) (len cap : Nat) (zs : List Nat) (i : Int) (w : World) (h : FlS w a len zs) :
    Calls Try.prog 33 #[GV wide high a len cap, .int .i64 i] w (RetC (orZ (okSl wide high zs i) (slopeX wide zs i.toNat)) (orZ (okSl wide high zs i) (slopeY wide high zs i.toNat)) (okSl wide high zs i) w) := by
  have hb : ∀ o, Below w.heap.size w (w.alloc o) := fun o => (Below.refl _ _).alloc (Nat.le_refl _) _
  have L0 := Lies.new (wk := w) (wide := wide) (high := high) (cap := cap) 33 h
  have call := isPlaceOf wide high a len cap zs i _ L0.fl
  unfold GV at call
  unfold GV okSl
  cases hp : placeB wide high zs i with
  | false =>
    rw [hp] at call
    rw [Bool.false_and]
    go_enter Try.func33, Try.ntmps33
    go_wp2_with (go_at_call 74; refine call.mono ?_; rintro e w' ⟨rfl, hb1⟩)
    exact bodyPost_ret (by simp [results, Try.results33, go_sem]) rfl ⟨0, 0, rfl, cl_zero _, cl_zero _, (hb _).trans (hb1.mono (by simp))⟩
  | true =>
    rw [hp] at call
    rw [Bool.true_and]
    obtain ⟨hv, k, rfl, hk⟩ := place_nat hp
    rw [Int.toNat_natCast]
    have cS := fun (W : World) (hF : FlS W a len zs) => slope wide high a len cap zs k W hF hv hk
    unfold GV at cS
    generalize slopeX wide zs k = X at *
    generalize slopeY wide high zs k = Y at *
    go_enter Try.func33, Try.ntmps33
    go_wp2_with fail
    refine call.mono ?_
    rintro e w1 ⟨rfl, hb1⟩
    have L1 := L0.next hb1
    have hbw := (hb (.cells #[.int .i64 wide, .int .i64 high, .slice a len cap] 33)).trans (hb1.mono (by simp))
    obtain ⟨c0, c1, c2⟩ := L1.at'
    go_wp2_with fail
    refine (cS w1 L1.fl).mono ?_
    rintro e w2 ⟨r, q, rfl, hr, hq, hb2⟩
    subst hr
    subst hq
    have hB2 := hbw.trans (hb2.mono hbw.size)
    have cF := finitePoint r q w2
    generalize (isNum .f32 (cl .f32 r) && isNum .f32 (cl .f32 q)) = ok at *
    generalize cl .f32 r = X at *
    generalize cl .f32 q = Y at *
    go_wp2_with (go_at_call 75; refine cF.mono ?_; rintro e w3 ⟨r', q', rfl, hr', hq', hb3⟩)
    exact bodyPost_ret (by simp [results, Try.results33, go_sem]) rfl ⟨r', q', rfl, hr', hq', hB2.trans (hb3.mono hB2.size)⟩

/-- Two complex numbers of the same classes are the same to the law. -/
theorem sameComplexT (a b c d : Nat) (h1 : cl .f64 a = cl .f64 c) (h2 : cl .f64 b = cl .f64 d) (w : World) : Calls Try.prog 34 #[.complex .f64 a b, .complex .f64 c d] w (RetD (.bool true) w) := by
  have c1 := fun W => sameFloat a c h1 W
  have c2 := fun W => sameFloat b d h2 W
  go_enter Try.func34, Try.ntmps34
  go_wp2_with (go_at_call 16; (first | (with_reducible refine (c1 _).mono ?_) | (with_reducible refine (c2 _).mono ?_)); rintro e w' ⟨rfl, d, rfl⟩)
  go_ret
  exact ⟨rfl, Drew.n _ _⟩
end Go.Proofs.Ytcmdmecmgoabaaa
