/-
  When two grids are the same, to the bit.
-/
import Derived.Test.YtcmdmecmgoabaaaGrid
import Derived.Shelf.Abstract
namespace Go.Proofs.Ytcmdmecmgoabaaa
open Go.RowKit Go.Shelf
attribute [local go_sem] order_cl cl_zero cl_one cl_two aord_none

/-- The bits of a number, all not-a-numbers alike. -/
def codeB (z : Nat) : Int := if (cl .f32 z).isNone = true then 2143289344 else wrap64 (z : Int)

theorem bits_call (z : Nat) (W : World) : (callFunc 103 #[.float .f32 z]).run Try.prog W = .ok (.value (.int .u32 z)) W := by
  rw [run_callFunc_extern Try.func103 (by kernel_rfl) (by kernel_rfl) (by kernel_rfl) (e := Extern.MathFloatBits.float32bits) (by kernel_rfl) _ W]
  rfl

set_option maxRecDepth 8000 in
theorem bitsOf (z : Nat) (w : World) : Calls Try.prog 91 #[.float .f32 z] w (fun e w' => e = .returned (.int .i64 (codeB z)) ∧ w = w') := by
  cases hz : cl .f32 z with
  | none =>
    have hc : codeB z = 2143289344 := by unfold codeB; rw [hz]; simp
    rw [hc]
    go_enter Try.func91, Try.ntmps91
    go_wp2
    go_ret
    exact ⟨rfl, rfl⟩
  | some z' =>
    have hc : codeB z = wrap64 (z : Int) := by unfold codeB; rw [hz]; simp
    rw [hc]
    obtain rfl := cl_some hz
    clear hc
    have hs := aord_self hz
    have hb := bits_call z'
    go_enter Try.func91, Try.ntmps91
    go_wp2
    go_ret
    exact ⟨rfl, rfl⟩
set_option maxRecDepth 8000 in
theorem l01Bits (z : Nat) (w : World) : Calls Try.prog 108 #[.float .f32 z] w (fun e w' => e = .returned (.int .i64 (codeB z)) ∧ w = w') := by
  cases hz : cl .f32 z with
  | none =>
    have hc : codeB z = 2143289344 := by unfold codeB; rw [hz]; simp
    rw [hc]
    go_enter Try.func108, Try.ntmps108
    go_wp2
    go_ret
    exact ⟨rfl, rfl⟩
  | some z' =>
    have hc : codeB z = wrap64 (z : Int) := by unfold codeB; rw [hz]; simp
    rw [hc]
    obtain rfl := cl_some hz
    clear hc
    have hs := aord_self hz
    have hb := bits_call z'
    go_enter Try.func108, Try.ntmps108
    go_wp2
    go_ret
    exact ⟨rfl, rfl⟩

theorem sameNumber (x y : Nat) (w : World) : Calls Try.prog 62 #[.float .f32 x, .float .f32 y] w (fun e w' => e = .returned (.bool (codeB x == codeB y)) ∧ w = w') := by
  have cx := bitsOf x w
  have cy := bitsOf y w
  generalize codeB x = a at *
  generalize codeB y = b at *
  go_enter Try.func62, Try.ntmps62
  go_wp2_with (go_at_call 91; (first | (with_reducible refine cx.mono ?_) | (with_reducible refine cy.mono ?_)); rintro e w' ⟨rfl, rfl⟩)
  go_ret
  exact ⟨rfl, rfl⟩
theorem l01Same (x y : Nat) (w : World) : Calls Try.prog 102 #[.float .f32 x, .float .f32 y] w (fun e w' => e = .returned (.bool (codeB x == codeB y)) ∧ w = w') := by
  have cx := l01Bits x w
  have cy := l01Bits y w
  generalize codeB x = a at *
  generalize codeB y = b at *
  go_enter Try.func102, Try.ntmps102
  go_wp2_with (go_at_call 108; (first | (with_reducible refine cx.mono ?_) | (with_reducible refine cy.mono ?_)); rintro e w' ⟨rfl, rfl⟩)
  go_ret
  exact ⟨rfl, rfl⟩

/-- The first k are the same, to the bit. -/
def SameTo (xs ys : List Nat) (k : Nat) : Prop := ∀ i, i < k → codeB (xs.getD i 0) = codeB (ys.getD i 0)
open Classical in
noncomputable def sameAllB (xs ys : List Nat) : Bool := decide (xs.length = ys.length) && decide (SameTo xs ys xs.length)

theorem SameTo.at {xs ys : List Nat} {k x y : Nat} (hx : xs.getD k 0 = x) (hy : ys.getD k 0 = y) : (SameTo xs ys k → codeB x = codeB y → SameTo xs ys (k + 1)) ∧ (codeB x ≠ codeB y → ∀ n, k < n → ¬ SameTo xs ys n) := by
  refine ⟨fun h e i hi => ?_, fun e n hn h => e ?_⟩
  · by_cases hik : i = k
    · subst hik; rw [hx, hy]; exact e
    · exact h i (by omega)
  · have := h k hn
    rw [hx, hy] at this
    exact this

theorem l01SameAll (a a' : Option Addr) (len len' cap cap' : Nat) (xs ys : List Nat) (w : World) (h : FlS w a len xs) (h' : FlS w a' len' ys) :
    Calls Try.prog 90 #[.slice a len cap, .slice a' len' cap'] w (RetD (.bool (sameAllB xs ys)) w) := by
  have hm := h.max
  have hm' := h'.max
  have hl := h.len
  have hl' := h'.len
  by_cases hll : len = len'
  · subst hll
    go_enter Try.func90, Try.ntmps90
    go_wp2
    go_loopw [5] (fun i wr => ∃ k : Nat, k ≤ len ∧ i = .int .i64 k ∧ Drew w wr ∧ Hid (SameTo xs ys k)) (fun i _ => len - (intOf i).toNat)
    case atStart => exact ⟨0, Nat.zero_le _, rfl, Drew.refl _, fun i hi => absurd hi (Nat.not_lt_zero _)⟩
    case round =>
      obtain ⟨k, hk, rfl, ⟨d, rfl⟩, hs⟩ := hrel
      by_cases hlt : k < len
      · obtain ⟨b, off, x, rfl, hbb, hck, hx⟩ := h.get hlt
        obtain ⟨b', off', y, rfl, hbb', hck', hy⟩ := h'.get hlt
        have st := Lib.hid (SameTo.at hx.out hy.out)
        have k1 : (w.drewN d).cell? ⟨b, off + k, none⟩ = some (.float .f32 x) := hck
        have k2 : (w.drewN d).cell? ⟨b', off' + k, none⟩ = some (.float .f32 y) := hck'
        have hD : Hid (∀ n, Drew w ((w.drewN d).drewN n)) := Lib.hid fun n => ⟨_, World.drewN_drewN _ _ _⟩
        clear hck hck'
        generalize w.drewN d = wd at *
        have call : ∀ W, Calls Try.prog 102 #[.float .f32 x, .float .f32 y] W (fun e w' => e = .returned (.bool (codeB x == codeB y)) ∧ W = w') := fun W => l01Same x y W
        by_cases he : codeB x = codeB y
        · have he' : (codeB x == codeB y) = true := by simp [he]
          rw [he'] at call
          have hE := Lib.hid he
          clear he he'
          go_wp2
          go_quiet ((go_at_call 102; exact q_same (call _)))
          go_wp2
          go_roundw
          case rel => exact ⟨k + 1, by omega, by go_num, hD.out _, Lib.hid (st.out.1 hs.out hE.out)⟩
          case measure => simp [intOf]; omega
        · have he' : (codeB x == codeB y) = false := by simp [he]
          rw [he'] at call
          go_wp2
          go_quiet ((go_at_call 102; exact q_same (call _)))
          go_wp2
          go_ret
          refine ⟨?_, hD.out _⟩
          have : sameAllB xs ys = false := by unfold sameAllB; simp [st.out.2 he xs.length (by omega)]
          rw [this]
          rfl
      · go_wp2
        go_ret
        refine ⟨?_, Drew.n _ _⟩
        obtain rfl : k = len := by omega
        have : sameAllB xs ys = true := by unfold sameAllB; rw [hl, hl']; simp [hs.out]
        rw [this]
        rfl
  · go_enter Try.func90, Try.ntmps90
    go_wp2
    go_ret
    have : sameAllB xs ys = false := by unfold sameAllB; rw [hl, hl']; simp [hll]
    exact ⟨by rw [this]; rfl, Drew.n _ 0⟩

theorem equalFunc (a a' : Option Addr) (len len' cap cap' : Nat) (xs ys : List Nat) (w : World) (h : FlS w a len xs) (h' : FlS w a' len' ys) :
    Calls Try.prog 61 #[.slice a len cap, .slice a' len' cap', .func (.func 62) #[] #[]] w (fun e w' => e = .returned (.bool (sameAllB xs ys)) ∧ w = w') := by
  have hm := h.max
  have hm' := h'.max
  have hl := h.len
  have hl' := h'.len
  by_cases hll : len = len'
  · subst hll
    go_enter Try.func61, Try.ntmps61
    go_wp2
    go_loopw [7, 8, 9, 17] (fun _ _ _ i wr => ∃ k : Nat, k ≤ len ∧ i = .int .i64 k ∧ w = wr ∧ Hid (SameTo xs ys k)) (fun _ _ _ i _ => len - (intOf i).toNat)
    case atStart => exact ⟨0, Nat.zero_le _, rfl, rfl, fun i hi => absurd hi (Nat.not_lt_zero _)⟩
    case round =>
      obtain ⟨k, hk, rfl, rfl, hs⟩ := hrel
      by_cases hlt : k < len
      · obtain ⟨b, off, x, rfl, hbb, hck, hx⟩ := h.get hlt
        obtain ⟨b', off', y, rfl, hbb', hck', hy⟩ := h'.get hlt
        have st := Lib.hid (SameTo.at hx.out hy.out)
        have call := sameNumber x y w
        by_cases he : codeB x = codeB y
        · have he' : (codeB x == codeB y) = true := by simp [he]
          rw [he'] at call
          go_wp2_with (go_at_call 62; refine call.mono ?_; rintro e w' ⟨rfl, rfl⟩)
          go_roundw
          case rel => exact ⟨k + 1, by omega, by go_num, trivial, Lib.hid (st.out.1 hs.out he)⟩
          case measure => simp [intOf]; omega
        · have he' : (codeB x == codeB y) = false := by simp [he]
          rw [he'] at call
          go_wp2_with (go_at_call 62; refine call.mono ?_; rintro e w' ⟨rfl, rfl⟩)
          go_ret
          have : sameAllB xs ys = false := by unfold sameAllB; simp [st.out.2 he xs.length (by omega)]
          exact ⟨by rw [this]; rfl, rfl⟩
      · go_wp2
        go_ret
        obtain rfl : k = len := by omega
        have : sameAllB xs ys = true := by unfold sameAllB; rw [hl, hl']; simp [hs.out]
        exact ⟨by rw [this]; rfl, rfl⟩
  · go_enter Try.func61, Try.ntmps61
    go_wp2
    go_ret
    have : sameAllB xs ys = false := by unfold sameAllB; rw [hl, hl']; simp [hll]
    exact ⟨by rw [this]; rfl, rfl⟩
end Go.Proofs.Ytcmdmecmgoabaaa
