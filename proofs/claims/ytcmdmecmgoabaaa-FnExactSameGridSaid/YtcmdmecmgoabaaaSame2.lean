/-
  When two grids are the same: the specification and the program.
-/
import Derived.Test.YtcmdmecmgoabaaaSame
namespace Go.Proofs.Ytcmdmecmgoabaaa
open Go.RowKit Go.Shelf

noncomputable def sameB (wa ha wb hb : Int) (xs ys : List Nat) : Bool := (wa == wb) && (ha == hb) && sameAllB xs ys

theorem l06Same (p q : Nat) (wa ha wb hb : Int) (a a' : Option Addr) (len len' cap cap' : Nat) (xs ys : List Nat) (w : World) (hp : At w p wa ha a len cap) (hq : At w q wb hb a' len' cap') (h : FlS w a len xs) (h' : FlS w a' len' ys) :
    Calls Try.prog 60 #[.pointer (some ⟨p, 0, none⟩), .pointer (some ⟨q, 0, none⟩)] w (RetD (.bool (sameB wa ha wb hb xs ys)) w) := by
  obtain ⟨h0, h1, h2⟩ := hp
  obtain ⟨g0, g1, g2⟩ := hq
  unfold sameB
  cases e1 : (wa == wb)
  · go_enter Try.func60, Try.ntmps60
    go_wp2
    go_quiet (fail)
    go_wp2
    go_ret
    exact ⟨rfl, Drew.n _ _⟩
  · cases e2 : (ha == hb)
    · go_enter Try.func60, Try.ntmps60
      go_wp2
      go_quiet (fail)
      go_wp2
      go_ret
      exact ⟨rfl, Drew.n _ _⟩
    · have call := fun n => l01SameAll a a' len len' cap cap' xs ys (w.drewN n) (h.drewN n) (h'.drewN n)
      generalize sameAllB xs ys = b at *
      go_enter Try.func60, Try.ntmps60
      go_wp2
      go_quiet ((go_at_call 90; exact q_ret (call _)))
      go_wp2
      go_ret
      exact ⟨by simp, Drew.n _ _⟩

theorem specSameGrid (wa ha wb hb : Int) (a a' : Option Addr) (len len' cap cap' : Nat) (xs ys : List Nat) (w : World) (h : FlS w a len xs) (h' : FlS w a' len' ys) :
    Calls Try.prog 22 #[GV wa ha a len cap, GV wb hb a' len' cap'] w (RetB (.bool (sameB wa ha wb hb xs ys)) w) := by
  unfold GV
  have L1 := Lies.new (wk := w) (wide := wa) (high := ha) (cap := cap) 33 h
  have h1 := h'.below ((Below.refl w.heap.size w).alloc (Nat.le_refl _) (.cells #[.int .i64 wa, .int .i64 ha, .slice a len cap] 33))
  have L2 := Lies.new (wide := wb) (high := hb) (cap := cap') 33 h1
  have L3 := L1.next ((Below.refl _ _).alloc (Nat.le_refl _) (.cells #[.int .i64 wb, .int .i64 hb, .slice a' len' cap'] 33))
  have call := l06Same _ _ wa ha wb hb a a' len len' cap cap' xs ys _ L3.at' L2.at' L3.fl L2.fl
  have hB : Below w.heap.size w ((w.alloc (.cells #[.int .i64 wa, .int .i64 ha, .slice a len cap] 33)).alloc (.cells #[.int .i64 wb, .int .i64 hb, .slice a' len' cap'] 33)) := ((Below.refl _ _).alloc (Nat.le_refl _) _).alloc (by simp) _
  simp only [World.size_alloc] at call
  generalize sameB wa ha wb hb xs ys = b at *
  clear L1 L2 L3 h1
  go_enter Try.func22, Try.ntmps22
  go_wp2_with (go_at_call 60; refine call.mono ?_; rintro e w' ⟨rfl, d, rfl⟩)
  go_ret
  exact ⟨rfl, below_drewN hB _⟩

theorem implSameGrid (wa ha wb hb : Int) (a a' : Option Addr) (len len' cap cap' : Nat) (xs ys : List Nat) (w : World) (h : FlS w a len xs) (h' : FlS w a' len' ys) :
    Calls Try.prog 23 #[GV wa ha a len cap, GV wb hb a' len' cap'] w (RetB (.bool (sameB wa ha wb hb xs ys)) w) := by
  have hB : Below w.heap.size w ((w.alloc (.cells #[.int .i64 wa, .int .i64 ha, .slice a len cap] 33)).alloc (.cells #[.int .i64 wb, .int .i64 hb, .slice a' len' cap'] 33)) := ((Below.refl _ _).alloc (Nat.le_refl _) _).alloc (by simp) _
  have call := equalFunc a a' len len' cap cap' xs ys _ (h.below hB) (h'.below hB)
  unfold sameB GV
  cases e1 : (wa == wb)
  · go_enter Try.func23, Try.ntmps23
    go_wp2
    go_ret
    exact ⟨rfl, hB⟩
  · cases e2 : (ha == hb)
    · go_enter Try.func23, Try.ntmps23
      go_wp2
      go_ret
      exact ⟨rfl, hB⟩
    · generalize sameAllB xs ys = b at *
      go_enter Try.func23, Try.ntmps23
      go_wp2_with (go_at_call 61; refine call.mono ?_; rintro e w' ⟨rfl, rfl⟩)
      go_ret
      exact ⟨by simp, hB⟩
end Go.Proofs.Ytcmdmecmgoabaaa
