/-
  The slope at a place: the specification's words.
-/
import Derived.Test.YtcmdmecmgoabaaaSlope
namespace Go.Proofs.Ytcmdmecmgoabaaa
open Go.RowKit
attribute [local go_sem] order_cl cl_zero cl_one cl_two aord_none

theorem partsV {wide high : Int} {zs : List Nat} (h : validB wide high zs = true) : ((2 ≤ wide ∧ wide ≤ 16) ∧ (2 ≤ high ∧ high ≤ 16)) ∧ (zs.length : Int) = wide * high ∧ zs.length ≤ 256 := by
  unfold validB at h
  simp only [Bool.and_eq_true, beq_iff_eq] at h
  have hs := h.1.1
  have hm := sides_mul hs
  unfold sidesB at hs
  simp only [Bool.and_eq_true, decide_eq_true_eq] at hs
  exact ⟨hs, h.1.2, by omega⟩
/-- Where a place stands, and what lies beside it. -/
theorem placeS {wide high : Int} {i n : Nat} (hw : 2 ≤ wide ∧ wide ≤ 16) (hn : (n : Int) = wide * high) (hi : i < n) :
    (0 ≤ (i : Int).tmod wide ∧ (i : Int).tmod wide ≤ wide - 1) ∧ (0 ≤ (i : Int).tdiv wide ∧ (i : Int).tdiv wide ≤ high - 1) ∧ ((i : Int).tmod wide ≠ 0 → 1 ≤ i) ∧ ((i : Int).tmod wide ≠ wide - 1 → i + 1 < n) ∧ ((i : Int).tdiv wide ≠ 0 → wide.toNat ≤ i) ∧ ((i : Int).tdiv wide ≠ high - 1 → i + wide.toNat < n) := by
  have e := Int.mul_tdiv_add_tmod (i : Int) wide
  have x0 := Int.tmod_nonneg (a := (i : Int)) wide (by omega)
  have x1 := Int.tmod_lt_of_pos (i : Int) (show 0 < wide by omega)
  have y0 := Int.tdiv_nonneg (a := (i : Int)) (b := wide) (by omega) (by omega)
  have y1 : (i : Int).tdiv wide < high := by
    rw [Int.tdiv_eq_ediv_of_nonneg (by omega)]
    exact Int.ediv_lt_of_lt_mul (by omega) (by rw [Int.mul_comm, ← hn]; omega)
  generalize (i : Int).tmod wide = x at *
  generalize (i : Int).tdiv wide = y at *
  have m1 : wide * (y + 1) ≤ wide * high := Int.mul_le_mul_of_nonneg_left (by omega) (by omega)
  rw [Int.mul_add, Int.mul_one, ← hn] at m1
  have m0 : 0 ≤ wide * y := Int.mul_nonneg (by omega) y0
  refine ⟨⟨x0, by omega⟩, ⟨y0, by omega⟩, fun _ => by omega, fun _ => by omega, fun hy => ?_, fun hy => ?_⟩
  · have m2 : wide * 1 ≤ wide * y := Int.mul_le_mul_of_nonneg_left (by omega) (by omega)
    omega
  · have m2 : wide * (y + 2) ≤ wide * high := Int.mul_le_mul_of_nonneg_left (by omega) (by omega)
    rw [Int.mul_add, ← hn] at m2
    omega

def placeB (wide high : Int) (zs : List Nat) (i : Int) : Bool := validB wide high zs && decide (0 ≤ i ∧ i ≤ (zs.length : Int) - 1)
def slopeX (wide : Int) (zs : List Nat) (i : Nat) : Option Nat := partF zs i 1 ((i : Int).tmod wide) wide
def slopeY (wide high : Int) (zs : List Nat) (i : Nat) : Option Nat := partF zs i wide.toNat ((i : Int).tdiv wide) high

set_option maxRecDepth 8000 in
set_option maxHeartbeats 2000000 in
theorem l06Index (p : Nat) (wide high : Int) (a : Option Addr) (len cap : Nat) (zs : List Nat) (i : Int) (w : World) (hp : At w p wide high a len cap) (h : FlS w a len zs) :
    Calls Try.prog 71 #[.pointer (some ⟨p, 0, none⟩), .int .i64 i] w (RetD (.bool (placeB wide high zs i)) w) := by
  have cI : ∀ n, Calls Try.prog 54 #[.pointer (some ⟨p, 0, none⟩)] (w.drewN n) (RetD (.bool (validB wide high zs)) (w.drewN n)) := fun n => l06Is p wide high a len cap zs (w.drewN n) ⟨hp.c0, hp.c1, hp.c2⟩ (h.drewN n)
  obtain ⟨c0, c1, c2⟩ := hp
  unfold placeB
  cases hv : validB wide high zs with
  | false =>
    rw [hv] at cI
    go_enter Try.func71, Try.ntmps71
    go_wp2
    go_quiet ((go_at_call 54; exact q_ret (cI _)))
    go_wp2
    go_ret
    exact ⟨rfl, Drew.n _ _⟩
  | true =>
    rw [hv] at cI
    obtain ⟨⟨hw, hh⟩, hn, hn2⟩ := partsV hv
    have hwr : IntKind.i64.wrap (wide * high) = (zs.length : Int) := by rw [← hn]; exact IntWalk.i64_in _ (by omega)
    have hw1 : IntKind.i64.wrap ((zs.length : Int) - 1) = (zs.length : Int) - 1 := IntWalk.i64_in _ (by omega)
    have cN := fun W => inS i 0 ((zs.length : Int) - 1) W
    clear hn
    generalize decide (0 ≤ i ∧ i ≤ (zs.length : Int) - 1) = b at *
    go_enter Try.func71, Try.ntmps71
    go_wp2
    go_quiet ((first | (go_at_call 54; exact q_ret (cI _)) | (go_at_call 93; exact q_same (cN _))))
    go_wp2
    go_ret
    exact ⟨by simp, Drew.n _ _⟩

/-- A call that hands back a complex number of two classes, and only draws. -/
def RetCD (X Y : Option Nat) (w : World) (e : Ending) (w' : World) : Prop := ∃ r q, e = .returned (.complex .f32 r q) ∧ cl .f32 r = X ∧ cl .f32 q = Y ∧ Drew w w'

set_option maxRecDepth 8000 in
set_option maxHeartbeats 4000000 in
theorem l06Slope (p : Nat) (wide high : Int) (a : Option Addr) (len cap : Nat) (zs : List Nat) (i : Nat) (w : World) (hp : At w p wide high a len cap) (h : FlS w a len zs) (hv : validB wide high zs = true) (hi : i < zs.length) :
    Calls Try.prog 72 #[.pointer (some ⟨p, 0, none⟩), .int .i64 (i : Int)] w (RetCD (slopeX wide zs i) (slopeY wide high zs i) w) := by
  obtain ⟨⟨hw, hh⟩, hn, hn2⟩ := partsV hv
  obtain ⟨hx, hy, x0, x1, y0, y1⟩ := placeS hw hn hi
  have hl := h.len
  subst hl
  have cX : ∀ n, Calls Try.prog 94 #[.pointer (some ⟨p, 0, none⟩), .int .i64 (i : Int), .int .i64 ((i : Int).tmod wide), .int .i64 wide, .int .i64 1] (w.drewN n) (RetF (slopeX wide zs i) (w.drewN n)) := fun n =>
    l06Part p wide high a zs.length cap i 1 _ wide zs (w.drewN n) ⟨hp.c0, hp.c1, hp.c2⟩ (h.drewN n) hn2 hi hw x0 x1
  have cY : ∀ n, Calls Try.prog 94 #[.pointer (some ⟨p, 0, none⟩), .int .i64 (i : Int), .int .i64 ((i : Int).tdiv wide), .int .i64 high, .int .i64 wide] (w.drewN n) (RetF (slopeY wide high zs i) (w.drewN n)) := fun n => by
    have := l06Part p wide high a zs.length cap i wide.toNat _ high zs (w.drewN n) ⟨hp.c0, hp.c1, hp.c2⟩ (h.drewN n) hn2 hi hh y0 y1
    rw [Int.toNat_of_nonneg (show 0 ≤ wide by omega)] at this
    exact this
  obtain ⟨c0, c1, c2⟩ := hp
  have hw0 : wide ≠ 0 := by omega
  have hwz : (wide == 0) = false := by simp; omega
  generalize slopeX wide zs i = X at *
  generalize slopeY wide high zs i = Y at *
  obtain ⟨x, hx'⟩ : ∃ x, (i : Int).tmod wide = x := ⟨_, rfl⟩
  obtain ⟨y, hy'⟩ : ∃ y, (i : Int).tdiv wide = y := ⟨_, rfl⟩
  rw [hx'] at cX hx
  rw [hy'] at cY hy
  have hq : IntKind.i64.wrap y = y := IntWalk.i64_in _ (by omega)
  clear x0 x1 y0 y1 hn
  go_enter Try.func72, Try.ntmps72
  go_wp2
  go_region_held3 (fun W => W.cell? ⟨p, 0, none⟩ = some (.int .i64 wide) ∧ W.cell? ⟨p, 1, none⟩ = some (.int .i64 high)) (go_keep) ((go_at_call 94; refine (cX 1).mono ?_; rintro e w1 ⟨r, rfl, hr, d, rfl⟩))
  all_goals go_wp2
  go_region_held3 (fun W => W.cell? ⟨p, 0, none⟩ = some (.int .i64 wide) ∧ W.cell? ⟨p, 1, none⟩ = some (.int .i64 high)) (go_keep) ((go_at_call 94; refine (cY (1 + d + 1)).mono ?_; rintro e w1 ⟨q, rfl, hq', d', rfl⟩))
  all_goals
    go_wp2
    go_ret
    exact ⟨_, _, rfl, hr, hq', Drew.n _ _⟩
end Go.Proofs.Ytcmdmecmgoabaaa
