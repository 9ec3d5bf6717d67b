/-
  Slices of complex numbers and of numbers, told by their words; all of them finite.
-/
import Derived.Test.YticoikchcmmpfaaLTab
import Derived.Shelf.Abstract
namespace Go.Proofs.Yticoikchcmmpfaa
open Go.RowKit
attribute [local go_sem] order_cl cl_zero cl_one cl_two aord_none

/-- A slice of complex numbers that reads as the words g i. -/
def CxF (w : World) (a : Option Addr) (len : Nat) (g : Nat → Nat × Nat) : Prop :=
  len ≤ 1048576 ∧ (len = 0 ∨ ∃ b off, a = some ⟨b, off, none⟩ ∧ b < w.heap.size ∧ ∀ i, i < len → w.cell? ⟨b, off + i, none⟩ = some (.complex .f32 (g i).1 (g i).2))
theorem CxF.below {w w' : World} {a : Option Addr} {len : Nat} {g : Nat → Nat × Nat} (h : CxF w a len g) (hb : Below w.heap.size w w') : CxF w' a len g := by
  obtain ⟨h2, h3⟩ := h
  refine ⟨h2, ?_⟩
  rcases h3 with h3 | ⟨b, off, ha, hlt, hc⟩
  · exact .inl h3
  · exact .inr ⟨b, off, ha, Nat.lt_of_lt_of_le hlt hb.size, fun i hi => (hb.cell (p := ⟨b, off + i, none⟩) hlt).trans (hc i hi)⟩
theorem CxF.max {w : World} {a : Option Addr} {len : Nat} {g : Nat → Nat × Nat} (h : CxF w a len g) : len ≤ 1048576 := h.1
theorem CxF.get {w : World} {a : Option Addr} {len : Nat} {g : Nat → Nat × Nat} (h : CxF w a len g) {k : Nat} (hk : k < len) : ∃ b off, a = some ⟨b, off, none⟩ ∧ b < w.heap.size ∧ w.cell? ⟨b, off + k, none⟩ = some (.complex .f32 (g k).1 (g k).2) := by
  rcases h.2 with h3 | ⟨b, off, ha, hlt, hc⟩
  · omega
  · exact ⟨b, off, ha, hlt, hc k hk⟩
def FlF (w : World) (a : Option Addr) (len : Nat) (g : Nat → Nat) : Prop :=
  len ≤ 1048576 ∧ (len = 0 ∨ ∃ b off, a = some ⟨b, off, none⟩ ∧ b < w.heap.size ∧ ∀ i, i < len → w.cell? ⟨b, off + i, none⟩ = some (.float .f32 (g i)))
theorem FlF.below {w w' : World} {a : Option Addr} {len : Nat} {g : Nat → Nat} (h : FlF w a len g) (hb : Below w.heap.size w w') : FlF w' a len g := by
  obtain ⟨h2, h3⟩ := h
  refine ⟨h2, ?_⟩
  rcases h3 with h3 | ⟨b, off, ha, hlt, hc⟩
  · exact .inl h3
  · exact .inr ⟨b, off, ha, Nat.lt_of_lt_of_le hlt hb.size, fun i hi => (hb.cell (p := ⟨b, off + i, none⟩) hlt).trans (hc i hi)⟩
theorem FlF.max {w : World} {a : Option Addr} {len : Nat} {g : Nat → Nat} (h : FlF w a len g) : len ≤ 1048576 := h.1
theorem FlF.get {w : World} {a : Option Addr} {len : Nat} {g : Nat → Nat} (h : FlF w a len g) {k : Nat} (hk : k < len) : ∃ b off, a = some ⟨b, off, none⟩ ∧ b < w.heap.size ∧ w.cell? ⟨b, off + k, none⟩ = some (.float .f32 (g k)) := by
  rcases h.2 with h3 | ⟨b, off, ha, hlt, hc⟩
  · omega
  · exact ⟨b, off, ha, hlt, hc k hk⟩

def NumC (z : Nat × Nat) : Prop := isNum .f32 (cl .f32 z.1) = true ∧ isNum .f32 (cl .f32 z.2) = true
def NumF (z : Nat) : Prop := isNum .f32 (cl .f32 z) = true

theorem notPoint (z : Nat × Nat) (h : NumC z) (W : World) : Calls Try.prog 60 #[.complex .f32 z.1 z.2] W (RetD (.bool false) W) := by
  have c := fun W => isFinC z.1 z.2 W
  rw [h.1, h.2] at c
  go_enter Try.func60, Try.ntmps60
  go_wp2_with (go_at_call 34; refine (c _).mono ?_; rintro e w' ⟨rfl, d, rfl⟩)
  go_ret
  exact ⟨rfl, Drew.n _ _⟩

theorem noIndex (a : Option Addr) (len cap : Nat) (g : Nat → Nat × Nat) (w : World) (h : CxF w a len g) (hg : ∀ i, i < len → NumC (g i)) :
    Calls Try.prog 77 #[.slice a len cap, .func (.func 60) #[] #[]] w (RetD (.int .i64 (-1)) w) := by
  have hm := h.max
  have eg : ∀ args w, (callFunc 60 args).run Try.prog w = .ok (.enter 60 args) w := enters_of Try.func60 (by kernel_rfl) rfl
  go_enter Try.func77, Try.ntmps77
  go_wp2
  go_loopw [5, 8] (fun _ i wr => ∃ k : Nat, k ≤ len ∧ i = .int .i64 k ∧ Drew w wr) (fun _ i _ => len - (intOf i).toNat)
  case atStart => exact ⟨0, Nat.zero_le _, rfl, Drew.refl _⟩
  case round =>
    obtain ⟨k, hk, rfl, d, rfl⟩ := hrel
    by_cases hlt : k < len
    · obtain ⟨b, off, rfl, hbb, hck⟩ := h.get hlt
      have hcall := fun W => notPoint _ (hg k hlt) W
      generalize (g k).1 = x at *
      generalize (g k).2 = y at *
      go_wp2_with (go_at_fn 60; refine (hcall _).mono ?_; rintro e w' ⟨rfl, d', rfl⟩)
      go_roundw
      case rel => exact ⟨k + 1, by omega, by go_num, Drew.n _ _⟩
      case measure => simp [intOf]; omega
    · go_wp2
      go_ret
      exact ⟨rfl, Drew.n _ _⟩

theorem noneOf (a : Option Addr) (len cap : Nat) (g : Nat → Nat × Nat) (w : World) (h : CxF w a len g) (hg : ∀ i, i < len → NumC (g i)) :
    Calls Try.prog 59 #[.slice a len cap, .func (.func 60) #[] #[]] w (RetD (.bool false) w) := by
  have hcon := noIndex a len cap g w h hg
  go_enter Try.func59, Try.ntmps59
  go_wp2_with (go_at_call 77; refine hcon.mono ?_; rintro e w' ⟨rfl, d, rfl⟩)
  go_ret
  exact ⟨rfl, Drew.n _ _⟩

theorem arePoints (a : Option Addr) (len cap : Nat) (g : Nat → Nat × Nat) (w : World) (h : CxF w a len g) (hg : ∀ i, i < len → NumC (g i)) :
    Calls Try.prog 27 #[.slice a len cap] w (RetD (.bool true) w) := by
  have hcon := noneOf a len cap g w h hg
  go_enter Try.func27, Try.ntmps27
  go_wp2_with (go_at_call 59; refine hcon.mono ?_; rintro e w' ⟨rfl, d, rfl⟩)
  go_ret
  exact ⟨rfl, Drew.n _ _⟩

theorem lengthC (a : Option Addr) (len cap : Nat) (w : World) : Calls Try.prog 62 #[.slice a len cap] w (fun e w' => e = .returned (.int .i64 len) ∧ w = w') := by
  go_enter Try.func62, Try.ntmps62
  go_wp2
  go_ret
  exact ⟨rfl, rfl⟩

theorem withinT {n a b : Int} (h1 : a ≤ n) (h2 : n ≤ b) (w : World) : Calls Try.prog 61 #[.int .i64 n, .int .i64 a, .int .i64 b] w (fun e w' => e = .returned (.bool true) ∧ w = w') := by
  go_enter Try.func61, Try.ntmps61
  go_wp2
  go_ret
  exact ⟨rfl, rfl⟩

theorem areMarks (a : Option Addr) (len cap : Nat) (g : Nat → Nat × Nat) (w : World) (h : CxF w a len g) (hg : ∀ i, i < len → NumC (g i)) (l1 : 1 ≤ len) (l2 : len ≤ 32) :
    Calls Try.prog 29 #[.slice a len cap] w (RetD (.bool true) w) := by
  have cp := arePoints a len cap g w h hg
  have cw := fun W => withinT (n := (len : Int)) (a := 1) (b := 32) (by omega) (by omega) W
  go_enter Try.func29, Try.ntmps29
  go_wp2_with (first | (go_at_call 62; refine (lengthC _ _ _ _).mono ?_; rintro e w' ⟨rfl, rfl⟩) | (go_at_call 61; refine (cw _).mono ?_; rintro e w' ⟨rfl, rfl⟩) | (go_at_call 27; refine cp.mono ?_; rintro e w' ⟨rfl, d, rfl⟩))
  go_ret
  exact ⟨rfl, Drew.n _ _⟩

theorem areFinite (a : Option Addr) (len cap : Nat) (g : Nat → Nat) (w : World) (h : FlF w a len g) (hg : ∀ i, i < len → NumF (g i)) : Calls Try.prog 28 #[.slice a len cap] w (RetD (.bool true) w) := by
  have hm := h.max
  go_enter Try.func28, Try.ntmps28
  go_wp2
  go_loopw [7] (fun i wr => ∃ k : Nat, k ≤ len ∧ i = .int .i64 k ∧ Drew w wr) (fun i _ => len - (intOf i).toNat)
  case atStart => exact ⟨0, Nat.zero_le _, rfl, Drew.refl _⟩
  case round =>
    obtain ⟨k, hk, rfl, d, rfl⟩ := hrel
    by_cases hlt : k < len
    · obtain ⟨b, off, rfl, hb, hck⟩ := h.get hlt
      have c := fun W => isFin (g k) W
      have hz : isNum .f32 (cl .f32 (g k)) = true := hg k hlt
      rw [hz] at c
      generalize g k = z at *
      go_wp2_with (go_at_call 33; refine (c _).mono ?_; rintro e w' ⟨rfl, d, rfl⟩)
      go_roundw
      case rel => exact ⟨k + 1, by omega, by go_num, Drew.n _ _⟩
      case measure => simp [intOf]; omega
    · go_wp2
      go_ret
      exact ⟨rfl, Drew.n _ _⟩
end Go.Proofs.Yticoikchcmmpfaa
