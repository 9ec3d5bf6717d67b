/-
  The row that is sorted, and the insertion sort.
-/
import Derived.Test.YtpebibhnaopbnaaSort1
import Derived.Test.YtpebibhnaopbnaaRep
namespace Go.Proofs.Ytpebibhnaopbnaa
open Go.RowKit Go.Shelf

def rowL (n : Nat) (D : Nat → Nat) : List Int := (List.range n).map fun p => ((D p : Nat) : Int)
theorem rowL_len (n : Nat) (D : Nat → Nat) : (rowL n D).length = n := by simp [rowL]
theorem rowL_get {n i : Nat} (D : Nat → Nat) (h : i < n) : (rowL n D).getD i 0 = (D i : Int) := by simp [rowL, List.getD_eq_getElem?_getD, h]
def fput (D : Nat → Nat) (i v : Nat) : Nat → Nat := fun p => if p = i then v else D p
theorem fput_swp (D : Nat → Nat) (i j : Nat) : fput (fput D i (D j)) j (D i) = swp D i j := by
  funext p
  unfold fput swp
  by_cases e1 : p = j
  · rw [if_pos e1]
    by_cases e2 : p = i
    · rw [if_pos e2, ← e1, ← e2]
    · rw [if_neg e2, if_pos e1]
  · rw [if_neg e1]
    by_cases e2 : p = i
    · rw [if_pos e2, if_pos e2]
    · rw [if_neg e2, if_neg e2, if_neg e1]
theorem rowL_put {n i : Nat} (D : Nat → Nat) (h : i < n) (v : Nat) : (rowL n D).set i (v : Int) = rowL n (fput D i v) := by
  refine List.ext_getElem? fun j => ?_
  by_cases e : i = j
  · subst e
    rw [List.getElem?_set_self (by rw [rowL_len]; exact h)]
    simp [rowL, h, fput]
  · rw [List.getElem?_set_ne e]
    by_cases hj : j < n
    · simp [rowL, hj, fput, Ne.symm e]
    · simp [rowL, hj]

/-- The row lies in block q; nothing else that was there in w0 has turned. -/
structure RowS (w0 w : World) (q n : Nat) (D : Nat → Nat) : Prop where
  own : Own 3 w q (ints (rowL n D))
  alt : w0.grownBy w (some q)
section
variable {w0 w w1 : World} {q n : Nat} {D : Nat → Nat}
theorem RowS.get (h : RowS w0 w q n D) {i : Nat} (hi : i < n) : w.cell? ⟨q, i, none⟩ = some (.int .i64 (D i : Int)) := by
  have := h.own.at (ints_get (xs := rowL n D) (k := i) (by rw [rowL_len]; exact hi))
  rwa [rowL_get D hi] at this
theorem RowS.free (h : RowS w0 w q n D) (i : Nat) : w.frozen? ⟨q, i, none⟩ = false := h.own.free i
theorem RowS.next (h : RowS w0 w q n D) (hb : Below w.heap.size w w1) : RowS w0 w1 q n D := ⟨h.own.below hb, h.alt.trans (alt_of_below hb q)⟩
theorem RowS.drewN (h : RowS w0 w q n D) (d : Nat) : RowS w0 (w.drewN d) q n D := h.next (below_drewN (Below.refl _ _) d)
theorem RowS.put (h : RowS w0 w q n D) {i : Nat} (hi : i < n) (v : Nat) : RowS w0 (w.setCell ⟨q, i, none⟩ (.int .i64 (v : Int))) q n (fput D i v) := by
  refine ⟨?_, alt_set h.alt _ _⟩
  have := h.own.set i (.int .i64 (v : Int))
  rwa [ints_set, rowL_put D hi] at this
end
/-- What is asked of a comparison: by how much the second number's degree is the greater; it only reads. -/
def CmpD (g : Nat) (lb : Array Value) (n : Nat) (dg : Nat → Nat) (q : Nat) (w0 : World) : Prop :=
  ∀ (W : World) (x y : Nat), x < n → y < n → w0.grownBy W (some q) → Calls Try.prog g (#[.int .i64 (x : Int), .int .i64 (y : Int)] ++ lb) W (RetD (.int .i64 ((dg y : Int) - (dg x : Int))) W)
def NoRes : Value := .tuple #[]

/-- The row behind a call that sorts. -/
def Sorts (w0 : World) (q n a b : Nat) (dg D : Nat → Nat) (e : Ending) (w' : World) : Prop :=
  e = .returned (.tuple #[]) ∧ ∃ D', RowS w0 w' q n D' ∧ Turned n a b D D' ∧ SortedOn dg D' a b

set_option maxRecDepth 8000 in
set_option maxHeartbeats 4000000 in
theorem insertionSort (g : Nat) (lb : Array Value) (eg : Goes g) (n : Nat) (hn : n ≤ 32) (dg : Nat → Nat) (hdg : ∀ x, dg x ≤ 100000) (q c : Nat) (w0 : World) (hcmp : CmpD g lb n dg q w0)
    (a b : Nat) (hab : a ≤ b) (hbn : b ≤ n) (D : Nat → Nat) (w : World) (hR : RowS w0 w q n D) (hI : InjB n D) (hasc : ∀ p r, a ≤ p → p < r → r < b → D p < D r) :
    Calls Try.prog 38 #[.slice (some ⟨q, 0, none⟩) n c, .int .i64 (a : Int), .int .i64 (b : Int), .func (.func g) #[] lb] w (Sorts w0 q n a b dg D) := by
  have hw1 : IntKind.i64.wrap ((a : Int) + 1) = ((a + 1 : Nat) : Int) := by rw [IntWalk.i64_in _ (by omega)]; simp
  unfold Goes at eg
  go_enter Try.func38, Try.ntmps38
  go_wp2
  go_loopw [8, 9] (fun t _ wr => ∃ (i : Nat) (E : Nat → Nat), t = .int .i64 (i : Int) ∧ a + 1 ≤ i ∧ (i ≤ b ∨ i = a + 1) ∧ RowS w0 wr q n E ∧ Hid (Turned n a b D E) ∧ Hid (OutI dg E a i b)) (fun t _ _ => b - (intOf t).toNat)
  case atStart => exact ⟨a + 1, D, by simp, by omega, .inr rfl, hR, Turned.refl _ _ _ _, ⟨fun p r h1 h2 h3 => by omega, fun p r h1 h2 h3 h4 => hasc p r h1 h2 h4⟩⟩
  case round =>
    obtain ⟨i, E, rfl, hi1, hi2, hE, hT, hO⟩ := hrel
    clear hR
    by_cases hlt : i < b
    · go_wp2
      generalize wr = wo at *
      go_loopw [9] (fun t wr => ∃ (j : Nat) (E2 : Nat → Nat), t = .int .i64 (j : Int) ∧ a ≤ j ∧ j ≤ i ∧ RowS w0 wr q n E2 ∧ Hid (Turned n a b D E2) ∧ Hid (InI dg E2 a i j b)) (fun t _ => (intOf t).toNat)
      case atStart => exact ⟨i, E, rfl, by omega, Nat.le_refl _, hE, hT, hO.out.start hlt⟩
      case round =>
        obtain ⟨j, E2, rfl, hj1, hj2, hE2, hT2, hIn⟩ := hrel
        clear hE
        by_cases hja : a < j
        · have hja' : (a : Int) < (j : Int) := by omega
          have hjn : j < n := by omega
          have hj1n : j - 1 < n := by omega
          have hw2 : IntKind.i64.wrap ((j : Int) - 1) = ((j - 1 : Nat) : Int) := by rw [IntWalk.i64_in _ (by omega)]; omega
          have hE2I := (hT2.out.2.2 hI).1
          have c0 := hE2.get hjn
          have c1 := hE2.get hj1n
          have hcall := fun d => hcmp (wr.drewN d) (E2 j) (E2 (j - 1)) (hE2I j hjn) (hE2I (j - 1) hj1n) (hE2.drewN d).alt
          have hd1 := hdg (E2 j)
          have hd2 := hdg (E2 (j - 1))
          by_cases hd : dg (E2 (j - 1)) < dg (E2 j)
          · have hstep := Lib.hid (hIn.out.step hja hj2 hd)
            have hTs := Lib.hid (hT2.out.trans (Turned.swp E2 hbn ⟨by omega, by omega⟩ (show a ≤ j - 1 ∧ j - 1 < b by omega)))
            have hneg : ((dg (E2 (j - 1)) : Int) - (dg (E2 j) : Int)) < 0 := by omega
            generalize ((dg (E2 (j - 1)) : Int) - (dg (E2 j) : Int)) = cv at *
            go_wp2
            go_quiet ((go_at_fn g; exact q_ret (hcall _)))
            go_wp2
            generalize hwd : wr.drewN nq = wd at *
            have hRd : RowS w0 wd q n E2 := hwd ▸ hE2.drewN nq
            clear hE2 hcall c0 c1 hwd
--SWAP
            refine region_till (fun W => W.cell? ⟨q, j, none⟩ = some (.int .i64 (E2 j : Int)) ∧ W.cell? ⟨q, j - 1, none⟩ = some (.int .i64 (E2 (j - 1) : Int))) 15 (by kernel_rfl) ?_
            have hS0 : (fun W : World => W.cell? ⟨q, j, none⟩ = some (.int .i64 (E2 j : Int)) ∧ W.cell? ⟨q, j - 1, none⟩ = some (.int .i64 (E2 (j - 1) : Int))) wd.drew := ⟨(hRd.drewN 1).get hjn, (hRd.drewN 1).get hj1n⟩
            refine anyTill.take0 (i := 0) (v := .slice (some ⟨q, 0, none⟩) n c) rfl (by kernel_rfl) (by kernel_rfl) (by kernel_rfl) (by kernel_rfl) (fun _ _ _ h => h) (fun _ => hS0) (by rfl) (by intro w; go_simp) ?_
            try simp only [Act.put, List.setIfInBounds_toArray, List.set_cons_zero, List.set_cons_succ]
            refine anyTill.take0 (i := 1) (v := .int .i64 (j : Int)) rfl (by kernel_rfl) (by kernel_rfl) (by kernel_rfl) (by kernel_rfl) (fun _ _ _ h => h) (fun _ => hS0) (by rfl) (by intro w; go_simp) ?_
            try simp only [Act.put, List.setIfInBounds_toArray, List.set_cons_zero, List.set_cons_succ]
            refine anyTill.take0 (i := 2) (v := .slice (some ⟨q, 0, none⟩) n c) rfl (by kernel_rfl) (by kernel_rfl) (by kernel_rfl) (by kernel_rfl) (fun _ _ _ h => h) (fun _ => hS0) (by rfl) (by intro w; go_simp) ?_
            try simp only [Act.put, List.setIfInBounds_toArray, List.set_cons_zero, List.set_cons_succ]
            refine anyTill.take0 (i := 3) (v := .int .i64 (j : Int)) rfl (by kernel_rfl) (by kernel_rfl) (by kernel_rfl) (by kernel_rfl) (fun _ _ _ h => h) (fun _ => hS0) (by rfl) (by intro w; go_simp) ?_
            try simp only [Act.put, List.setIfInBounds_toArray, List.set_cons_zero, List.set_cons_succ]
            refine anyTill.take0 (i := 4) (v := .int .i64 ((j - 1 : Nat) : Int)) rfl (by kernel_rfl) (by kernel_rfl) (by kernel_rfl) (by kernel_rfl) (fun _ _ _ h => h) (fun _ => hS0) (by rfl) (by intro w; go_simp) ?_
            try simp only [Act.put, List.setIfInBounds_toArray, List.set_cons_zero, List.set_cons_succ]
            refine anyTill.take0 (i := 5) (v := .slice (some ⟨q, 0, none⟩) n c) rfl (by kernel_rfl) (by kernel_rfl) (by kernel_rfl) (by kernel_rfl) (fun _ _ _ h => h) (fun _ => hS0) (by rfl) (by intro w; go_simp) ?_
            try simp only [Act.put, List.setIfInBounds_toArray, List.set_cons_zero, List.set_cons_succ]
            refine anyTill.take0 (i := 6) (v := .int .i64 (j : Int)) rfl (by kernel_rfl) (by kernel_rfl) (by kernel_rfl) (by kernel_rfl) (fun _ _ _ h => h) (fun _ => hS0) (by rfl) (by intro w; go_simp) ?_
            try simp only [Act.put, List.setIfInBounds_toArray, List.set_cons_zero, List.set_cons_succ]
            refine anyTill.take0 (i := 7) (v := .int .i64 ((j - 1 : Nat) : Int)) rfl (by kernel_rfl) (by kernel_rfl) (by kernel_rfl) (by kernel_rfl) (fun _ _ _ h => h) (fun _ => hS0) (by rfl) (by intro w; go_simp) ?_
            try simp only [Act.put, List.setIfInBounds_toArray, List.set_cons_zero, List.set_cons_succ]
            refine anyTill.take0 (i := 8) (v := .pointer (some ⟨q, j - 1, none⟩)) rfl (by kernel_rfl) (by kernel_rfl) (by kernel_rfl) (by kernel_rfl) (fun _ _ _ h => h) (fun _ => hS0) (by rfl) (by intro w; go_simp) ?_
            try simp only [Act.put, List.setIfInBounds_toArray, List.set_cons_zero, List.set_cons_succ]
            refine anyTill.take (i := 9) (v := .int .i64 (E2 (j - 1) : Int)) rfl (by kernel_rfl) (by kernel_rfl) (by kernel_rfl) (by kernel_rfl) (fun _ _ _ h => h) hS0 (by rfl) (by intro w hSw; obtain ⟨s0, s1⟩ := hSw; go_simp) ?_
            try simp only [Act.put, List.setIfInBounds_toArray, List.set_cons_zero, List.set_cons_succ]
            refine anyTill.take0 (i := 10) (v := .slice (some ⟨q, 0, none⟩) n c) rfl (by kernel_rfl) (by kernel_rfl) (by kernel_rfl) (by kernel_rfl) (fun _ _ _ h => h) (fun _ => hS0) (by rfl) (by intro w; go_simp) ?_
            try simp only [Act.put, List.setIfInBounds_toArray, List.set_cons_zero, List.set_cons_succ]
            refine anyTill.take0 (i := 11) (v := .int .i64 (j : Int)) rfl (by kernel_rfl) (by kernel_rfl) (by kernel_rfl) (by kernel_rfl) (fun _ _ _ h => h) (fun _ => hS0) (by rfl) (by intro w; go_simp) ?_
            try simp only [Act.put, List.setIfInBounds_toArray, List.set_cons_zero, List.set_cons_succ]
            refine anyTill.take0 (i := 12) (v := .pointer (some ⟨q, j, none⟩)) rfl (by kernel_rfl) (by kernel_rfl) (by kernel_rfl) (by kernel_rfl) (fun _ _ _ h => h) (fun _ => hS0) (by rfl) (by intro w; go_simp) ?_
            try simp only [Act.put, List.setIfInBounds_toArray, List.set_cons_zero, List.set_cons_succ]
            refine anyTill.take (i := 13) (v := .int .i64 (E2 j : Int)) rfl (by kernel_rfl) (by kernel_rfl) (by kernel_rfl) (by kernel_rfl) (fun _ _ _ h => h) hS0 (by rfl) (by intro w hSw; obtain ⟨s0, s1⟩ := hSw; go_simp) ?_
            try simp only [Act.put, List.setIfInBounds_toArray, List.set_cons_zero, List.set_cons_succ]
            refine anyTill.take0 (i := 14) (v := .pointer (some ⟨q, j, none⟩)) rfl (by kernel_rfl) (by kernel_rfl) (by kernel_rfl) (by kernel_rfl) (fun _ _ _ h => h) (fun _ => hS0) (by rfl) (by intro w; go_simp) ?_
            try simp only [Act.put, List.setIfInBounds_toArray, List.set_cons_zero, List.set_cons_succ]
            have kx := hRd.get hjn
            have fx := hRd.free j
            refine anyTill.ready (rs := [15]) (by kernel_rfl) (by simp) ?_
            refine ReadyTill.cons rfl (fun K hK => ?_) ReadyTill.nil
            go_simp
            refine hK _ _ (fun h => absurd h (by simp)) ?_
            clear hK K
            try simp only [Act.put, List.setIfInBounds_toArray, List.set_cons_zero, List.set_cons_succ]
            have hR1 := hRd.put hjn (E2 (j - 1))
            have ky := hR1.get hj1n
            have fy := hR1.free (j - 1)
            refine anyTill.take0 (i := 16) (v := .pointer (some ⟨q, j - 1, none⟩)) rfl (by kernel_rfl) (by kernel_rfl) (by kernel_rfl) (by kernel_rfl) (fun _ _ _ h => h) (fun h => absurd h (by simp)) (by rfl) (by intro w; go_simp) ?_
            try simp only [Act.put, List.setIfInBounds_toArray, List.set_cons_zero, List.set_cons_succ]
            refine anyTill.ready (rs := [17]) (by kernel_rfl) (by simp) ?_
            refine ReadyTill.cons rfl (fun K hK => ?_) ReadyTill.nil
            go_simp
            refine hK _ _ (fun h => absurd h (by simp)) ?_
            clear hK K
            try simp only [Act.put, List.setIfInBounds_toArray, List.set_cons_zero, List.set_cons_succ]
            refine anyTill.done (by kernel_rfl) ?_ _
            have hR2 := (hR1.put hj1n (E2 j)).drewN 1
            rw [fput_swp] at hR2
--PAWS
            go_wp2
            go_roundw
            case rel => exact ⟨j - 1, _, hw2 ▸ rfl, by omega, by omega, hR2, hTs, hstep⟩
            case measure => simp [intOf]; omega
          · have hstop := Lib.hid (hIn.out.stop hj1 hj2 (.inr hd))
            have hneg : ¬ ((dg (E2 (j - 1)) : Int) - (dg (E2 j) : Int)) < 0 := by omega
            generalize ((dg (E2 (j - 1)) : Int) - (dg (E2 j) : Int)) = cv at *
            go_wp2
            go_quiet ((go_at_fn g; exact q_ret (hcall _)))
            go_wp2
            go_roundw
            case rel => exact ⟨i + 1, _, by go_num, by omega, by omega, hE2.drewN _, hT2, hstop⟩
            case measure => simp [intOf]; omega
        · have hja' : ¬ (a : Int) < (j : Int) := by omega
          have hstop := Lib.hid (hIn.out.stop hj1 hj2 (.inl (by omega)))
          go_wp2
          go_quiet (fail)
          go_wp2
          go_roundw
          case rel => exact ⟨i + 1, _, by go_num, by omega, by omega, hE2.drewN _, hT2, hstop⟩
          case measure => simp [intOf]; omega
    · have hsorted : SortedOn dg E a b := fun p r h1 h2 h3 => hO.out.1 p r h1 h2 (by omega)
      go_wp2
      exact bodyPost_ret (by simp [results, Try.results38, go_sem]) rfl ⟨rfl, E, hE, hT.out, hsorted⟩
end Go.Proofs.Ytpebibhnaopbnaa
