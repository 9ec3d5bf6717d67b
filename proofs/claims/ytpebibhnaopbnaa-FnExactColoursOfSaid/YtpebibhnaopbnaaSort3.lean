/-
  Stretches that change places, and rotations.
-/
import Derived.Test.YtpebibhnaopbnaaSort2
namespace Go.Proofs.Ytpebibhnaopbnaa
open Go.RowKit Go.Shelf

/-- The row behind a call whose work is known to the number. -/
def Moves (w0 : World) (q n lo hi : Nat) (D E : Nat → Nat) (e : Ending) (w' : World) : Prop := e = .returned (.tuple #[]) ∧ RowS w0 w' q n E ∧ Turned n lo hi D E
theorem addw {x j : Nat} (h : x + j ≤ 1000000) : IntKind.i64.wrap ((x : Int) + (j : Int)) = ((x + j : Nat) : Int) := by rw [IntWalk.i64_in _ (by omega)]; omega
theorem subw {x j : Nat} (h : j ≤ x) (h2 : x ≤ 1000000) : IntKind.i64.wrap ((x : Int) - (j : Int)) = ((x - j : Nat) : Int) := by rw [IntWalk.i64_in _ (by omega)]; omega

set_option maxRecDepth 8000 in
set_option maxHeartbeats 4000000 in
theorem swapRange (fv : Value) (n : Nat) (hn : n ≤ 32) (q c : Nat) (w0 : World) (x y k lo hi : Nat) (h1 : x + k ≤ y) (h2 : y + k ≤ hi) (h3 : lo ≤ x) (h4 : hi ≤ n) (D : Nat → Nat) (w : World) (hR : RowS w0 w q n D) :
    Calls Try.prog 41 #[.slice (some ⟨q, 0, none⟩) n c, .int .i64 (x : Int), .int .i64 (y : Int), .int .i64 (k : Int), fv] w (Moves w0 q n lo hi D (swr D x y k)) := by
  go_enter Try.func41, Try.ntmps41
  go_wp2
  go_loopw [10] (fun t wr => ∃ j : Nat, t = .int .i64 (j : Int) ∧ j ≤ k ∧ RowS w0 wr q n (swr D x y j) ∧ Hid (Turned n lo hi D (swr D x y j))) (fun t _ => k - (intOf t).toNat)
  case atStart => exact ⟨0, rfl, Nat.zero_le _, by rw [swr_zero]; exact hR, by show Turned n lo hi D _; rw [swr_zero]; exact Turned.refl _ _ _ _⟩
  case round =>
    obtain ⟨j, rfl, hj, hE, hT⟩ := hrel
    clear hR
    by_cases hlt : j < k
    · have hw1 := addw (x := x) (j := j) (by omega)
      have hw2 := addw (x := y) (j := j) (by omega)
      have hxn : x + j < n := by omega
      have hyn : y + j < n := by omega
      have hstep := Lib.hid (swr_step D (x := x) (y := y) (j := j) (by omega))
      have hTs := Lib.hid (hT.out.trans (Turned.swp (swr D x y j) h4 (i := x + j) (j := y + j) ⟨by omega, by omega⟩ ⟨by omega, by omega⟩))
      generalize swr D x y j = E at *
      generalize x + j = X at *
      generalize y + j = Y at *
      go_wp2
--SWAP
      refine region_till (fun W => W.cell? ⟨q, X, none⟩ = some (.int .i64 (E X : Int)) ∧ W.cell? ⟨q, Y, none⟩ = some (.int .i64 (E Y : Int))) 21 (by kernel_rfl) ?_
      have hS0 : (fun W : World => W.cell? ⟨q, X, none⟩ = some (.int .i64 (E X : Int)) ∧ W.cell? ⟨q, Y, none⟩ = some (.int .i64 (E Y : Int))) wr.drew := ⟨(hE.drewN 1).get hxn, (hE.drewN 1).get hyn⟩
      refine anyTill.take0 (i := 0) (v := .slice (some ⟨q, 0, none⟩) n c) rfl (by kernel_rfl) (by kernel_rfl) (by kernel_rfl) (by kernel_rfl) (fun _ _ _ h => h) (fun _ => hS0) (by rfl) (by intro w; go_simp) ?_
      try simp only [Act.put, List.setIfInBounds_toArray, List.set_cons_zero, List.set_cons_succ]
      refine anyTill.take0 (i := 1) (v := .int .i64 (x : Int)) rfl (by kernel_rfl) (by kernel_rfl) (by kernel_rfl) (by kernel_rfl) (fun _ _ _ h => h) (fun _ => hS0) (by rfl) (by intro w; go_simp) ?_
      try simp only [Act.put, List.setIfInBounds_toArray, List.set_cons_zero, List.set_cons_succ]
      refine anyTill.take0 (i := 2) (v := .int .i64 (j : Int)) rfl (by kernel_rfl) (by kernel_rfl) (by kernel_rfl) (by kernel_rfl) (fun _ _ _ h => h) (fun _ => hS0) (by rfl) (by intro w; go_simp) ?_
      try simp only [Act.put, List.setIfInBounds_toArray, List.set_cons_zero, List.set_cons_succ]
      refine anyTill.take0 (i := 3) (v := .int .i64 (X : Int)) rfl (by kernel_rfl) (by kernel_rfl) (by kernel_rfl) (by kernel_rfl) (fun _ _ _ h => h) (fun _ => hS0) (by rfl) (by intro w; go_simp) ?_
      try simp only [Act.put, List.setIfInBounds_toArray, List.set_cons_zero, List.set_cons_succ]
      refine anyTill.take0 (i := 4) (v := .slice (some ⟨q, 0, none⟩) n c) rfl (by kernel_rfl) (by kernel_rfl) (by kernel_rfl) (by kernel_rfl) (fun _ _ _ h => h) (fun _ => hS0) (by rfl) (by intro w; go_simp) ?_
      try simp only [Act.put, List.setIfInBounds_toArray, List.set_cons_zero, List.set_cons_succ]
      refine anyTill.take0 (i := 5) (v := .int .i64 (y : Int)) rfl (by kernel_rfl) (by kernel_rfl) (by kernel_rfl) (by kernel_rfl) (fun _ _ _ h => h) (fun _ => hS0) (by rfl) (by intro w; go_simp) ?_
      try simp only [Act.put, List.setIfInBounds_toArray, List.set_cons_zero, List.set_cons_succ]
      refine anyTill.take0 (i := 6) (v := .int .i64 (j : Int)) rfl (by kernel_rfl) (by kernel_rfl) (by kernel_rfl) (by kernel_rfl) (fun _ _ _ h => h) (fun _ => hS0) (by rfl) (by intro w; go_simp) ?_
      try simp only [Act.put, List.setIfInBounds_toArray, List.set_cons_zero, List.set_cons_succ]
      refine anyTill.take0 (i := 7) (v := .int .i64 (Y : Int)) rfl (by kernel_rfl) (by kernel_rfl) (by kernel_rfl) (by kernel_rfl) (fun _ _ _ h => h) (fun _ => hS0) (by rfl) (by intro w; go_simp) ?_
      try simp only [Act.put, List.setIfInBounds_toArray, List.set_cons_zero, List.set_cons_succ]
      refine anyTill.take0 (i := 8) (v := .slice (some ⟨q, 0, none⟩) n c) rfl (by kernel_rfl) (by kernel_rfl) (by kernel_rfl) (by kernel_rfl) (fun _ _ _ h => h) (fun _ => hS0) (by rfl) (by intro w; go_simp) ?_
      try simp only [Act.put, List.setIfInBounds_toArray, List.set_cons_zero, List.set_cons_succ]
      refine anyTill.take0 (i := 9) (v := .int .i64 (y : Int)) rfl (by kernel_rfl) (by kernel_rfl) (by kernel_rfl) (by kernel_rfl) (fun _ _ _ h => h) (fun _ => hS0) (by rfl) (by intro w; go_simp) ?_
      try simp only [Act.put, List.setIfInBounds_toArray, List.set_cons_zero, List.set_cons_succ]
      refine anyTill.take0 (i := 10) (v := .int .i64 (j : Int)) rfl (by kernel_rfl) (by kernel_rfl) (by kernel_rfl) (by kernel_rfl) (fun _ _ _ h => h) (fun _ => hS0) (by rfl) (by intro w; go_simp) ?_
      try simp only [Act.put, List.setIfInBounds_toArray, List.set_cons_zero, List.set_cons_succ]
      refine anyTill.take0 (i := 11) (v := .int .i64 (Y : Int)) rfl (by kernel_rfl) (by kernel_rfl) (by kernel_rfl) (by kernel_rfl) (fun _ _ _ h => h) (fun _ => hS0) (by rfl) (by intro w; go_simp) ?_
      try simp only [Act.put, List.setIfInBounds_toArray, List.set_cons_zero, List.set_cons_succ]
      refine anyTill.take0 (i := 12) (v := .pointer (some ⟨q, Y, none⟩)) rfl (by kernel_rfl) (by kernel_rfl) (by kernel_rfl) (by kernel_rfl) (fun _ _ _ h => h) (fun _ => hS0) (by rfl) (by intro w; go_simp) ?_
      try simp only [Act.put, List.setIfInBounds_toArray, List.set_cons_zero, List.set_cons_succ]
      refine anyTill.take (i := 13) (v := .int .i64 (E Y : Int)) rfl (by kernel_rfl) (by kernel_rfl) (by kernel_rfl) (by kernel_rfl) (fun _ _ _ h => h) hS0 (by rfl) (by intro w hSw; obtain ⟨s0, s1⟩ := hSw; go_simp) ?_
      try simp only [Act.put, List.setIfInBounds_toArray, List.set_cons_zero, List.set_cons_succ]
      refine anyTill.take0 (i := 14) (v := .slice (some ⟨q, 0, none⟩) n c) rfl (by kernel_rfl) (by kernel_rfl) (by kernel_rfl) (by kernel_rfl) (fun _ _ _ h => h) (fun _ => hS0) (by rfl) (by intro w; go_simp) ?_
      try simp only [Act.put, List.setIfInBounds_toArray, List.set_cons_zero, List.set_cons_succ]
      refine anyTill.take0 (i := 15) (v := .int .i64 (x : Int)) rfl (by kernel_rfl) (by kernel_rfl) (by kernel_rfl) (by kernel_rfl) (fun _ _ _ h => h) (fun _ => hS0) (by rfl) (by intro w; go_simp) ?_
      try simp only [Act.put, List.setIfInBounds_toArray, List.set_cons_zero, List.set_cons_succ]
      refine anyTill.take0 (i := 16) (v := .int .i64 (j : Int)) rfl (by kernel_rfl) (by kernel_rfl) (by kernel_rfl) (by kernel_rfl) (fun _ _ _ h => h) (fun _ => hS0) (by rfl) (by intro w; go_simp) ?_
      try simp only [Act.put, List.setIfInBounds_toArray, List.set_cons_zero, List.set_cons_succ]
      refine anyTill.take0 (i := 17) (v := .int .i64 (X : Int)) rfl (by kernel_rfl) (by kernel_rfl) (by kernel_rfl) (by kernel_rfl) (fun _ _ _ h => h) (fun _ => hS0) (by rfl) (by intro w; go_simp) ?_
      try simp only [Act.put, List.setIfInBounds_toArray, List.set_cons_zero, List.set_cons_succ]
      refine anyTill.take0 (i := 18) (v := .pointer (some ⟨q, X, none⟩)) rfl (by kernel_rfl) (by kernel_rfl) (by kernel_rfl) (by kernel_rfl) (fun _ _ _ h => h) (fun _ => hS0) (by rfl) (by intro w; go_simp) ?_
      try simp only [Act.put, List.setIfInBounds_toArray, List.set_cons_zero, List.set_cons_succ]
      refine anyTill.take (i := 19) (v := .int .i64 (E X : Int)) rfl (by kernel_rfl) (by kernel_rfl) (by kernel_rfl) (by kernel_rfl) (fun _ _ _ h => h) hS0 (by rfl) (by intro w hSw; obtain ⟨s0, s1⟩ := hSw; go_simp) ?_
      try simp only [Act.put, List.setIfInBounds_toArray, List.set_cons_zero, List.set_cons_succ]
      refine anyTill.take0 (i := 20) (v := .pointer (some ⟨q, X, none⟩)) rfl (by kernel_rfl) (by kernel_rfl) (by kernel_rfl) (by kernel_rfl) (fun _ _ _ h => h) (fun _ => hS0) (by rfl) (by intro w; go_simp) ?_
      try simp only [Act.put, List.setIfInBounds_toArray, List.set_cons_zero, List.set_cons_succ]
      have kx := hE.get hxn
      have fx := hE.free X
      refine anyTill.ready (rs := [21]) (by kernel_rfl) (by simp) ?_
      refine ReadyTill.cons rfl (fun K hK => ?_) ReadyTill.nil
      go_simp
      refine hK _ _ (fun h => absurd h (by simp)) ?_
      clear hK K
      try simp only [Act.put, List.setIfInBounds_toArray, List.set_cons_zero, List.set_cons_succ]
      have hR1 := hE.put hxn (E Y)
      have ky := hR1.get hyn
      have fy := hR1.free Y
      refine anyTill.take0 (i := 22) (v := .pointer (some ⟨q, Y, none⟩)) rfl (by kernel_rfl) (by kernel_rfl) (by kernel_rfl) (by kernel_rfl) (fun _ _ _ h => h) (fun h => absurd h (by simp)) (by rfl) (by intro w; go_simp) ?_
      try simp only [Act.put, List.setIfInBounds_toArray, List.set_cons_zero, List.set_cons_succ]
      refine anyTill.ready (rs := [23]) (by kernel_rfl) (by simp) ?_
      refine ReadyTill.cons rfl (fun K hK => ?_) ReadyTill.nil
      go_simp
      refine hK _ _ (fun h => absurd h (by simp)) ?_
      clear hK K
      try simp only [Act.put, List.setIfInBounds_toArray, List.set_cons_zero, List.set_cons_succ]
      refine anyTill.done (by kernel_rfl) ?_ _
      have hR2 := (hR1.put hyn (E X)).drewN 1
      rw [fput_swp] at hR2
--PAWS
      rw [hstep.out] at hR2 hTs
      go_wp2
      go_roundw
      case rel => exact ⟨j + 1, by go_num, by omega, hR2, hTs⟩
      case measure => simp [intOf]; omega
    · obtain rfl : j = k := by omega
      go_wp2
      exact bodyPost_ret (by simp [results, Try.results41, go_sem]) rfl ⟨rfl, hE, hT.out⟩

set_option maxRecDepth 8000 in
set_option maxHeartbeats 4000000 in
theorem rotate (fv : Value) (n : Nat) (hn : n ≤ 32) (q c : Nat) (w0 : World) (s m e : Nat) (h1 : s < m) (h2 : m < e) (h3 : e ≤ n) (D : Nat → Nat) (w : World) (hR : RowS w0 w q n D) :
    Calls Try.prog 40 #[.slice (some ⟨q, 0, none⟩) n c, .int .i64 (s : Int), .int .i64 (m : Int), .int .i64 (e : Int), fv] w (Moves w0 q n s e D (rot D s m e)) := by
  have hw1 := subw (x := m) (j := s) (by omega) (by omega)
  have hw2 := subw (x := e) (j := m) (by omega) (by omega)
  have hst := Lib.hid (RotI.start D (s := s) (m := m) (e := e) (by omega) (by omega))
  generalize hT0 : rot D s m e = T at *
  go_enter Try.func40, Try.ntmps40
  go_wp2
  go_loopw [10, 11] (fun t u wr => ∃ (i j : Nat) (E : Nat → Nat), t = .int .i64 (i : Int) ∧ u = .int .i64 (j : Int) ∧ 1 ≤ i ∧ 1 ≤ j ∧ i ≤ m - s ∧ j ≤ e - m ∧ RowS w0 wr q n E ∧ Hid (Turned n s e D E) ∧ Hid (RotI T E m i j)) (fun t u _ => (intOf t).toNat + (intOf u).toNat)
  case atStart => exact ⟨m - s, e - m, D, by rw [← hw1], by rw [← hw2], by omega, by omega, Nat.le_refl _, Nat.le_refl _, hR, Turned.refl _ _ _ _, hst.out⟩
  case round =>
    obtain ⟨i, j, E, rfl, rfl, hi, hj, him, hje, hE, hT, hI⟩ := hrel
    clear hR hst
    have hw3 := subw (x := m) (j := i) (by omega) (by omega)
    by_cases heq : i = j
    · subst heq
      have hcall := swapRange fv n hn q c w0 (m - i) m i s e (by omega) (by omega) (by omega) h3 E wr hE
      rw [hI.out.stop (by omega)] at hcall
      generalize m - i = x1 at *
      go_wp2_with (go_at_call 41; refine hcall.mono ?_; rintro e w1 ⟨rfl, hR1, hT1⟩)
      exact bodyPost_ret (by simp [results, Try.results40, go_sem]) rfl ⟨rfl, hR1, hT.out.trans hT1⟩
    · have hne : ((i : Int) == (j : Int)) = false := by simp; omega
      by_cases hgt : j < i
      · have hgt' : (j : Int) < (i : Int) := by omega
        have hcall := swapRange fv n hn q c w0 (m - i) m j s e (by omega) (by omega) (by omega) h3 E wr hE
        have hI1 := Lib.hid (hI.out.left (by omega) hgt)
        have hw4 := subw (x := i) (j := j) (by omega) (by omega)
        have hx3 : 1 ≤ i - j ∧ i - j ≤ m - s ∧ i - j < i := by omega
        generalize swr E (m - i) m j = E1 at *
        generalize m - i = x1 at *
        generalize i - j = x3 at *
        go_wp2_with (go_at_call 41; refine hcall.mono ?_; rintro e w1 ⟨rfl, hR1, hT1⟩)
        go_roundw
        case rel => exact ⟨x3, j, E1, rfl, rfl, by omega, hj, by omega, hje, hR1, hT.out.trans hT1, hI1⟩
        case measure => simp [intOf]; omega
      · have hgt' : ¬ (j : Int) < (i : Int) := by omega
        have hcall := swapRange fv n hn q c w0 (m - i) (m + j - i) i s e (by omega) (by omega) (by omega) h3 E wr hE
        have hI1 := Lib.hid (hI.out.right (by omega) (by omega))
        have hw4 := subw (x := j) (j := i) (by omega) (by omega)
        have hx3 : 1 ≤ j - i ∧ j - i ≤ e - m ∧ j - i < j := by omega
        have hw5 := addw (x := m) (j := j) (by omega)
        have hw6 := subw (x := m + j) (j := i) (by omega) (by omega)
        generalize swr E (m - i) (m + j - i) i = E1 at *
        generalize m - i = x1 at *
        generalize hx2 : m + j - i = x2 at *
        generalize hx5 : m + j = x5 at *
        generalize j - i = x3 at *
        clear hx2 hx5
        go_wp2_with (go_at_call 41; refine hcall.mono ?_; rintro e w1 ⟨rfl, hR1, hT1⟩)
        go_roundw
        case rel => exact ⟨i, x3, E1, rfl, rfl, hi, by omega, him, by omega, hR1, hT.out.trans hT1, hI1⟩
        case measure => simp [intOf]; omega
end Go.Proofs.Ytpebibhnaopbnaa
