/-
  Two sorted stretches are merged (Go's symMerge).
-/
import Derived.Test.YtpebibhnaopbnaaSort3
namespace Go.Proofs.Ytpebibhnaopbnaa
open Go.RowKit Go.Shelf

theorem halfs {i j : Nat} (h : i + j ≤ 100000) : ∃ S m : Nat, m = (i + j) / 2 ∧ Hid (IntKind.i64.wrap ((i : Int) + (j : Int)) = (S : Int) ∧ IntKind.u64.wrap (S : Int) = (S : Int) ∧ (S : Int) / 2 = (m : Int) ∧ IntKind.u64.wrap (m : Int) = (m : Int) ∧ IntKind.i64.wrap (m : Int) = (m : Int) ∧ wrap64 (m : Int) = (m : Int)) :=
  ⟨i + j, (i + j) / 2, rfl, Lib.hid ⟨addw (by omega), IntWalk.u64_in _ (by omega), by omega, IntWalk.u64_in _ (by omega), IntWalk.i64_in _ (by omega), by unfold wrap64; omega⟩⟩
theorem rot_none {D : Nat → Nat} {a m b mid s e : Nat} (h : Mid a m b mid s e) (hs : s = m ∨ m = e) : rot D s m e = D := by
  have := h.mid_e
  have := h.sum
  have := h.sm
  have := h.me
  funext p
  unfold rot
  rcases hs with rfl | rfl
  · by_cases c1 : s ≤ p ∧ p < s + (e - s)
    · rw [if_pos c1]; simp
    · rw [if_neg c1, if_neg (by omega)]
  · rw [if_neg (by omega)]
    by_cases c1 : s + (m - m) ≤ p ∧ p < m
    · rw [if_pos c1]; simp
    · rw [if_neg c1]

/-- Two sorted stretches that are merged by the call. -/
def MergeAt (g : Nat) (lb : Array Value) (n : Nat) (dg : Nat → Nat) (q c : Nat) (w0 : World) (a m b : Nat) : Prop :=
  ∀ (D : Nat → Nat) (w : World), RowS w0 w q n D → InjB n D → SortedOn dg D a m → SortedOn dg D m b → Cross D a m b →
    Calls Try.prog 39 #[.slice (some ⟨q, 0, none⟩) n c, .int .i64 (a : Int), .int .i64 (m : Int), .int .i64 (b : Int), .func (.func g) #[] lb] w (Sorts w0 q n a b dg D)

set_option maxRecDepth 8000 in
set_option maxHeartbeats 24000000 in
theorem merge_l (g : Nat) (lb : Array Value) (eg : Goes g) (n : Nat) (hn : n ≤ 32) (dg : Nat → Nat) (hdg : ∀ x, dg x ≤ 100000) (q c : Nat) (w0 : World) (hcmp : CmpD g lb n dg q w0) (a m b : Nat) (ham : a < m) (hmb : m < b) (hbn : b ≤ n) (h1 : m - a = 1) : MergeAt g lb n dg q c w0 a m b := by
  unfold MergeAt
  intro D w hR hI hs1 hs2 hc
  unfold Goes at eg
  have hDn := hI.1
  have wma := subw (x := m) (j := a) (by omega) (by omega)
  have wbm := subw (x := b) (j := m) (by omega) (by omega)
  have hm1 := Lib.hid (show m = a + 1 by omega)
  have e1 : ((m - a : Nat) : Int) = 1 := by omega
  rw [e1] at wma
  clear e1 h1
  go_enter Try.func39, Try.ntmps39
  go_wp2
  go_loopw [10, 11, 12] (fun t u _ wr => ∃ i j : Nat, t = .int .i64 (i : Int) ∧ u = .int .i64 (j : Int) ∧ m ≤ i ∧ i ≤ j ∧ j ≤ b ∧ RowS w0 wr q n D ∧ Hid (i = m ∨ dg (D a) < dg (D (i - 1))) ∧ Hid (j = b ∨ ¬ dg (D a) < dg (D j))) (fun t u _ _ => (intOf u).toNat - (intOf t).toNat)
  case atStart => exact ⟨m, b, rfl, rfl, Nat.le_refl _, by omega, Nat.le_refl _, hR, .inl rfl, .inl rfl⟩
  case round =>
    obtain ⟨i, j, rfl, rfl, hi, hij, hjb, hE, hA, hB⟩ := hrel
    clear hR
    by_cases hlt : i < j
    · obtain ⟨S, h, hh, kk⟩ := halfs (i := i) (j := j) (by omega)
      have hhr : i ≤ h ∧ h < j := by omega
      clear hh
      have hhn : h < n := by omega
      have han : a < n := by omega
      have c0 := hE.get hhn
      have c1 := hE.get han
      have hcall := fun d => hcmp (wr.drewN d) (D h) (D a) (hDn h hhn) (hDn a han) (hE.drewN d).alt
      have hd1 := hdg (D h)
      have hd2 := hdg (D a)
      by_cases hdd : dg (D a) < dg (D h)
      · have hneg : ((dg (D a) : Int) - (dg (D h) : Int)) < 0 := by omega
        generalize ((dg (D a) : Int) - (dg (D h) : Int)) = cv at *
        obtain ⟨k1, k2, k3, k4, k5, k6⟩ := kk.out
        go_wp2
        clear k1 k2 k3 k4 k5 k6 kk
        go_quiet ((go_at_fn g; exact q_ret (hcall _)))
        go_wp2
        go_roundw
        case rel => exact ⟨h + 1, j, by go_num, rfl, by omega, by omega, hjb, hE.drewN _, Lib.hid (.inr (by rw [Nat.add_sub_cancel]; exact hdd)), hB⟩
        case measure => simp [intOf]; omega
      · have hneg : ¬ ((dg (D a) : Int) - (dg (D h) : Int)) < 0 := by omega
        generalize ((dg (D a) : Int) - (dg (D h) : Int)) = cv at *
        obtain ⟨k1, k2, k3, k4, k5, k6⟩ := kk.out
        go_wp2
        clear k1 k2 k3 k4 k5 k6 kk
        go_quiet ((go_at_fn g; exact q_ret (hcall _)))
        go_wp2
        go_roundw
        case rel => exact ⟨i, h, rfl, rfl, hi, by omega, by omega, hE.drewN _, hA, Lib.hid (.inr hdd)⟩
        case measure => simp [intOf]; omega
    · obtain rfl : i = j := by omega
      have hfin := Lib.hid (merge_one_left (dg := dg) (D := D) (a := a) (i := i) (b := b) (by rw [← hm1.out]; exact hs2) (by rw [← hm1.out]; exact hc) (by rw [← hm1.out]; exact hi) hjb (by rw [← hm1.out]; exact hA.out) hB.out)
      have wi1 : IntKind.i64.wrap ((i : Int) - 1) = ((i - 1 : Nat) : Int) := subw (x := i) (j := 1) (by omega) (by omega)
      go_wp2
      generalize wr = wq at *
      go_loopw [13] (fun t wr => ∃ k : Nat, t = .int .i64 (k : Int) ∧ a ≤ k ∧ k ≤ i - 1 ∧ RowS w0 wr q n (shl D a k) ∧ Hid (Turned n a b D (shl D a k))) (fun t _ => i - (intOf t).toNat)
      case atStart => exact ⟨a, rfl, Nat.le_refl _, by omega, by rw [shl_zero]; exact hE, by show Turned n a b D _; rw [shl_zero]; exact Turned.refl _ _ _ _⟩
      case round =>
        obtain ⟨k, rfl, hk1, hk2, hE2, hT⟩ := hrel
        clear hE
        by_cases hlt2 : k < i - 1
        · have hx : k < n := by omega
          obtain ⟨k', hk'⟩ : ∃ k', k' = k + 1 := ⟨_, rfl⟩
          have hy : k' < n := by omega
          have wk : IntKind.i64.wrap ((k : Int) + 1) = (k' : Int) := by rw [hk']; exact addw (x := k) (j := 1) (by omega)
          have hst := Lib.hid (shl_step D (a := a) (k := k) hk1)
          have hTs := Lib.hid (hT.out.trans (Turned.swp (shl D a k) hbn (i := k) (j := k + 1) ⟨by omega, by omega⟩ ⟨by omega, by omega⟩))
          have hlt3 : (k : Int) < ((i - 1 : Nat) : Int) := by omega
          have hki : k < i := by omega
          rw [← hk'] at hst hTs
          generalize shl D a k = E at *
          generalize i - 1 = i1 at *
          have hk2' : k < k' ∧ k' ≤ i1 := by omega
          clear hk'
          go_wp2
          refine region_till (fun W => W.cell? ⟨q, k, none⟩ = some (.int .i64 (E k : Int)) ∧ W.cell? ⟨q, k', none⟩ = some (.int .i64 (E (k') : Int))) 15 (by kernel_rfl) ?_
          have hS0 : (fun W : World => W.cell? ⟨q, k, none⟩ = some (.int .i64 (E k : Int)) ∧ W.cell? ⟨q, k', none⟩ = some (.int .i64 (E (k') : Int))) wr.drew := ⟨(hE2.drewN 1).get hx, (hE2.drewN 1).get hy⟩
          refine anyTill.take0 (i := 0) (v := .slice (some ⟨q, 0, none⟩) n c) rfl (by kernel_rfl) (by kernel_rfl) (by kernel_rfl) (by kernel_rfl) (fun _ _ _ h => h) (fun _ => hS0) (by rfl) (by intro w; go_simp) ?_
          try simp only [Act.put, List.setIfInBounds_toArray, List.set_cons_zero, List.set_cons_succ]
          refine anyTill.take0 (i := 1) (v := .int .i64 (k : Int)) rfl (by kernel_rfl) (by kernel_rfl) (by kernel_rfl) (by kernel_rfl) (fun _ _ _ h => h) (fun _ => hS0) (by rfl) (by intro w; go_simp) ?_
          try simp only [Act.put, List.setIfInBounds_toArray, List.set_cons_zero, List.set_cons_succ]
          refine anyTill.take0 (i := 2) (v := .slice (some ⟨q, 0, none⟩) n c) rfl (by kernel_rfl) (by kernel_rfl) (by kernel_rfl) (by kernel_rfl) (fun _ _ _ h => h) (fun _ => hS0) (by rfl) (by intro w; go_simp) ?_
          try simp only [Act.put, List.setIfInBounds_toArray, List.set_cons_zero, List.set_cons_succ]
          refine anyTill.take0 (i := 3) (v := .int .i64 (k : Int)) rfl (by kernel_rfl) (by kernel_rfl) (by kernel_rfl) (by kernel_rfl) (fun _ _ _ h => h) (fun _ => hS0) (by rfl) (by intro w; go_simp) ?_
          try simp only [Act.put, List.setIfInBounds_toArray, List.set_cons_zero, List.set_cons_succ]
          refine anyTill.take0 (i := 4) (v := .int .i64 (k' : Int)) rfl (by kernel_rfl) (by kernel_rfl) (by kernel_rfl) (by kernel_rfl) (fun _ _ _ h => h) (fun _ => hS0) (by rfl) (by intro w; go_simp) ?_
          try simp only [Act.put, List.setIfInBounds_toArray, List.set_cons_zero, List.set_cons_succ]
          refine anyTill.take0 (i := 5) (v := .slice (some ⟨q, 0, none⟩) n c) rfl (by kernel_rfl) (by kernel_rfl) (by kernel_rfl) (by kernel_rfl) (fun _ _ _ h => h) (fun _ => hS0) (by rfl) (by intro w; go_simp) ?_
          try simp only [Act.put, List.setIfInBounds_toArray, List.set_cons_zero, List.set_cons_succ]
          refine anyTill.take0 (i := 6) (v := .int .i64 (k : Int)) rfl (by kernel_rfl) (by kernel_rfl) (by kernel_rfl) (by kernel_rfl) (fun _ _ _ h => h) (fun _ => hS0) (by rfl) (by intro w; go_simp) ?_
          try simp only [Act.put, List.setIfInBounds_toArray, List.set_cons_zero, List.set_cons_succ]
          refine anyTill.take0 (i := 7) (v := .int .i64 (k' : Int)) rfl (by kernel_rfl) (by kernel_rfl) (by kernel_rfl) (by kernel_rfl) (fun _ _ _ h => h) (fun _ => hS0) (by rfl) (by intro w; go_simp) ?_
          try simp only [Act.put, List.setIfInBounds_toArray, List.set_cons_zero, List.set_cons_succ]
          refine anyTill.take0 (i := 8) (v := .pointer (some ⟨q, k', none⟩)) rfl (by kernel_rfl) (by kernel_rfl) (by kernel_rfl) (by kernel_rfl) (fun _ _ _ h => h) (fun _ => hS0) (by rfl) (by intro w; go_simp) ?_
          try simp only [Act.put, List.setIfInBounds_toArray, List.set_cons_zero, List.set_cons_succ]
          refine anyTill.take (i := 9) (v := .int .i64 (E (k') : Int)) rfl (by kernel_rfl) (by kernel_rfl) (by kernel_rfl) (by kernel_rfl) (fun _ _ _ h => h) hS0 (by rfl) (by intro w hSw; obtain ⟨s0, s1⟩ := hSw; go_simp) ?_
          try simp only [Act.put, List.setIfInBounds_toArray, List.set_cons_zero, List.set_cons_succ]
          refine anyTill.take0 (i := 10) (v := .slice (some ⟨q, 0, none⟩) n c) rfl (by kernel_rfl) (by kernel_rfl) (by kernel_rfl) (by kernel_rfl) (fun _ _ _ h => h) (fun _ => hS0) (by rfl) (by intro w; go_simp) ?_
          try simp only [Act.put, List.setIfInBounds_toArray, List.set_cons_zero, List.set_cons_succ]
          refine anyTill.take0 (i := 11) (v := .int .i64 (k : Int)) rfl (by kernel_rfl) (by kernel_rfl) (by kernel_rfl) (by kernel_rfl) (fun _ _ _ h => h) (fun _ => hS0) (by rfl) (by intro w; go_simp) ?_
          try simp only [Act.put, List.setIfInBounds_toArray, List.set_cons_zero, List.set_cons_succ]
          refine anyTill.take0 (i := 12) (v := .pointer (some ⟨q, k, none⟩)) rfl (by kernel_rfl) (by kernel_rfl) (by kernel_rfl) (by kernel_rfl) (fun _ _ _ h => h) (fun _ => hS0) (by rfl) (by intro w; go_simp) ?_
          try simp only [Act.put, List.setIfInBounds_toArray, List.set_cons_zero, List.set_cons_succ]
          refine anyTill.take (i := 13) (v := .int .i64 (E k : Int)) rfl (by kernel_rfl) (by kernel_rfl) (by kernel_rfl) (by kernel_rfl) (fun _ _ _ h => h) hS0 (by rfl) (by intro w hSw; obtain ⟨s0, s1⟩ := hSw; go_simp) ?_
          try simp only [Act.put, List.setIfInBounds_toArray, List.set_cons_zero, List.set_cons_succ]
          refine anyTill.take0 (i := 14) (v := .pointer (some ⟨q, k, none⟩)) rfl (by kernel_rfl) (by kernel_rfl) (by kernel_rfl) (by kernel_rfl) (fun _ _ _ h => h) (fun _ => hS0) (by rfl) (by intro w; go_simp) ?_
          try simp only [Act.put, List.setIfInBounds_toArray, List.set_cons_zero, List.set_cons_succ]
          have kx := hE2.get hx
          have fx := hE2.free k
          refine anyTill.ready (rs := [15]) (by kernel_rfl) (by simp) ?_
          refine ReadyTill.cons rfl (fun K hK => ?_) ReadyTill.nil
          go_simp
          refine hK _ _ (fun h => absurd h (by simp)) ?_
          clear hK K
          try simp only [Act.put, List.setIfInBounds_toArray, List.set_cons_zero, List.set_cons_succ]
          have hR1 := hE2.put hx (E (k'))
          have ky := hR1.get hy
          have fy := hR1.free (k')
          refine anyTill.take0 (i := 16) (v := .pointer (some ⟨q, k', none⟩)) rfl (by kernel_rfl) (by kernel_rfl) (by kernel_rfl) (by kernel_rfl) (fun _ _ _ h => h) (fun h => absurd h (by simp)) (by rfl) (by intro w; go_simp) ?_
          try simp only [Act.put, List.setIfInBounds_toArray, List.set_cons_zero, List.set_cons_succ]
          refine anyTill.ready (rs := [17]) (by kernel_rfl) (by simp) ?_
          refine ReadyTill.cons rfl (fun K hK => ?_) ReadyTill.nil
          go_simp
          refine hK _ _ (fun h => absurd h (by simp)) ?_
          clear hK K
          try simp only [Act.put, List.setIfInBounds_toArray, List.set_cons_zero, List.set_cons_succ]
          refine anyTill.done (by kernel_rfl) ?_ _
          have hR2 := (hR1.put hy (E k)).drewN 1
          rw [fput_swp] at hR2
          rw [hst.out] at hR2 hTs
          go_wp2
          go_roundw
          case rel => exact ⟨k', rfl, by omega, by omega, hR2, hTs⟩
          case measure => simp [intOf]; omega
        · obtain rfl : k = i - 1 := by omega
          have hlt3 : ¬ ((i - 1 : Nat) : Int) < ((i - 1 : Nat) : Int) := by omega
          generalize i - 1 = i1 at *
          go_wp2
          exact bodyPost_ret (by simp [results, Try.results39, go_sem]) rfl ⟨rfl, _, hE2, hT.out, hfin.out⟩

set_option maxRecDepth 8000 in
set_option maxHeartbeats 24000000 in
theorem merge_r (g : Nat) (lb : Array Value) (eg : Goes g) (n : Nat) (hn : n ≤ 32) (dg : Nat → Nat) (hdg : ∀ x, dg x ≤ 100000) (q c : Nat) (w0 : World) (hcmp : CmpD g lb n dg q w0) (a m b : Nat) (ham : a < m) (hmb : m < b) (hbn : b ≤ n) (h1 : ¬ m - a = 1) (h2 : b - m = 1) : MergeAt g lb n dg q c w0 a m b := by
  unfold MergeAt
  intro D w hR hI hs1 hs2 hc
  unfold Goes at eg
  have hDn := hI.1
  have wma := subw (x := m) (j := a) (by omega) (by omega)
  have wbm := subw (x := b) (j := m) (by omega) (by omega)
  have e1 : (((m - a : Nat) : Int) == 1) = false := by simp; omega
  have hb1 := Lib.hid (show b = m + 1 by omega)
  have e2 : ((b - m : Nat) : Int) = 1 := by omega
  rw [e2] at wbm
  clear e2 h2
  generalize m - a = ma at *
  go_enter Try.func39, Try.ntmps39
  go_wp2
  go_loopw [14, 15, 16] (fun t u _ wr => ∃ i j : Nat, t = .int .i64 (i : Int) ∧ u = .int .i64 (j : Int) ∧ a ≤ i ∧ i ≤ j ∧ j ≤ m ∧ RowS w0 wr q n D ∧ Hid (i = a ∨ ¬ dg (D (i - 1)) < dg (D m)) ∧ Hid (j = m ∨ dg (D j) < dg (D m))) (fun t u _ _ => (intOf u).toNat - (intOf t).toNat)
  case atStart => exact ⟨a, m, rfl, rfl, Nat.le_refl _, by omega, Nat.le_refl _, hR, .inl rfl, .inl rfl⟩
  case round =>
    obtain ⟨i, j, rfl, rfl, hi, hij, hjb, hE, hA, hB⟩ := hrel
    clear hR
    by_cases hlt : i < j
    · obtain ⟨S, h, hh, kk⟩ := halfs (i := i) (j := j) (by omega)
      have hhr : i ≤ h ∧ h < j := by omega
      clear hh
      have hhn : h < n := by omega
      have hmn : m < n := by omega
      have c0 := hE.get hhn
      have c1 := hE.get hmn
      have hcall := fun d => hcmp (wr.drewN d) (D m) (D h) (hDn m hmn) (hDn h hhn) (hE.drewN d).alt
      have hd1 := hdg (D h)
      have hd2 := hdg (D m)
      by_cases hdd : dg (D h) < dg (D m)
      · have hneg : ((dg (D h) : Int) - (dg (D m) : Int)) < 0 := by omega
        have hneg2 : ¬ 0 ≤ ((dg (D h) : Int) - (dg (D m) : Int)) := by omega
        generalize ((dg (D h) : Int) - (dg (D m) : Int)) = cv at *
        obtain ⟨k1, k2, k3, k4, k5, k6⟩ := kk.out
        go_wp2
        clear k1 k2 k3 k4 k5 k6 kk
        go_quiet ((go_at_fn g; exact q_ret (hcall _)))
        go_wp2
        go_roundw
        case rel => exact ⟨i, h, rfl, rfl, hi, by omega, by omega, hE.drewN _, hA, Lib.hid (.inr hdd)⟩
        case measure => simp [intOf]; omega
      · have hneg : ¬ ((dg (D h) : Int) - (dg (D m) : Int)) < 0 := by omega
        have hneg2 : 0 ≤ ((dg (D h) : Int) - (dg (D m) : Int)) := by omega
        generalize ((dg (D h) : Int) - (dg (D m) : Int)) = cv at *
        have hneg3 : (!decide (cv < 0)) = true := by simp; omega
        obtain ⟨k1, k2, k3, k4, k5, k6⟩ := kk.out
        go_wp2
        clear k1 k2 k3 k4 k5 k6 kk
        go_quiet ((go_at_fn g; exact q_ret (hcall _)))
        go_wp2
        go_roundw
        case rel => exact ⟨h + 1, j, by go_num, rfl, by omega, by omega, hjb, hE.drewN _, Lib.hid (.inr (by rw [Nat.add_sub_cancel]; exact hdd)), hB⟩
        case measure => simp [intOf]; omega
    · obtain rfl : i = j := by omega
      have hfin := Lib.hid (merge_one_right (dg := dg) (D := D) (a := a) (i := i) (m := m) hs1 (by rw [← hb1.out]; exact hc) hi hjb hA.out hB.out)
      rw [← hb1.out] at hfin
      go_wp2
      generalize wr = wq at *
      go_loopw [17] (fun t wr => ∃ k : Nat, t = .int .i64 (k : Int) ∧ i ≤ k ∧ k ≤ m ∧ RowS w0 wr q n (shr D m k) ∧ Hid (Turned n a b D (shr D m k))) (fun t _ => (intOf t).toNat)
      case atStart => exact ⟨m, rfl, hjb, Nat.le_refl _, by rw [shr_zero]; exact hE, by show Turned n a b D _; rw [shr_zero]; exact Turned.refl _ _ _ _⟩
      case round =>
        obtain ⟨k, rfl, hk1, hk2, hE2, hT⟩ := hrel
        clear hE
        by_cases hlt2 : i < k
        · have hx : k < n := by omega
          obtain ⟨k', hk'⟩ : ∃ k', k' = k - 1 := ⟨_, rfl⟩
          have hy : k' < n := by omega
          have wk : IntKind.i64.wrap ((k : Int) - 1) = (k' : Int) := by rw [hk']; exact subw (x := k) (j := 1) (by omega) (by omega)
          have hst := Lib.hid (shr_step D (m := m) (k := k) hk2 (by omega))
          have hTs := Lib.hid (hT.out.trans (Turned.swp (shr D m k) hbn (i := k) (j := k - 1) ⟨by omega, by omega⟩ ⟨by omega, by omega⟩))
          have hlt3 : (i : Int) < (k : Int) := by omega
          rw [← hk'] at hst hTs
          generalize shr D m k = E at *
          have hk3 : i ≤ k' ∧ k' < k := by omega
          clear hk'
          go_wp2
          refine region_till (fun W => W.cell? ⟨q, k, none⟩ = some (.int .i64 (E k : Int)) ∧ W.cell? ⟨q, k', none⟩ = some (.int .i64 (E (k') : Int))) 15 (by kernel_rfl) ?_
          have hS0 : (fun W : World => W.cell? ⟨q, k, none⟩ = some (.int .i64 (E k : Int)) ∧ W.cell? ⟨q, k', none⟩ = some (.int .i64 (E (k') : Int))) wr.drew := ⟨(hE2.drewN 1).get hx, (hE2.drewN 1).get hy⟩
          refine anyTill.take0 (i := 0) (v := .slice (some ⟨q, 0, none⟩) n c) rfl (by kernel_rfl) (by kernel_rfl) (by kernel_rfl) (by kernel_rfl) (fun _ _ _ h => h) (fun _ => hS0) (by rfl) (by intro w; go_simp) ?_
          try simp only [Act.put, List.setIfInBounds_toArray, List.set_cons_zero, List.set_cons_succ]
          refine anyTill.take0 (i := 1) (v := .int .i64 (k : Int)) rfl (by kernel_rfl) (by kernel_rfl) (by kernel_rfl) (by kernel_rfl) (fun _ _ _ h => h) (fun _ => hS0) (by rfl) (by intro w; go_simp) ?_
          try simp only [Act.put, List.setIfInBounds_toArray, List.set_cons_zero, List.set_cons_succ]
          refine anyTill.take0 (i := 2) (v := .slice (some ⟨q, 0, none⟩) n c) rfl (by kernel_rfl) (by kernel_rfl) (by kernel_rfl) (by kernel_rfl) (fun _ _ _ h => h) (fun _ => hS0) (by rfl) (by intro w; go_simp) ?_
          try simp only [Act.put, List.setIfInBounds_toArray, List.set_cons_zero, List.set_cons_succ]
          refine anyTill.take0 (i := 3) (v := .int .i64 (k : Int)) rfl (by kernel_rfl) (by kernel_rfl) (by kernel_rfl) (by kernel_rfl) (fun _ _ _ h => h) (fun _ => hS0) (by rfl) (by intro w; go_simp) ?_
          try simp only [Act.put, List.setIfInBounds_toArray, List.set_cons_zero, List.set_cons_succ]
          refine anyTill.take0 (i := 4) (v := .int .i64 (k' : Int)) rfl (by kernel_rfl) (by kernel_rfl) (by kernel_rfl) (by kernel_rfl) (fun _ _ _ h => h) (fun _ => hS0) (by rfl) (by intro w; go_simp) ?_
          try simp only [Act.put, List.setIfInBounds_toArray, List.set_cons_zero, List.set_cons_succ]
          refine anyTill.take0 (i := 5) (v := .slice (some ⟨q, 0, none⟩) n c) rfl (by kernel_rfl) (by kernel_rfl) (by kernel_rfl) (by kernel_rfl) (fun _ _ _ h => h) (fun _ => hS0) (by rfl) (by intro w; go_simp) ?_
          try simp only [Act.put, List.setIfInBounds_toArray, List.set_cons_zero, List.set_cons_succ]
          refine anyTill.take0 (i := 6) (v := .int .i64 (k : Int)) rfl (by kernel_rfl) (by kernel_rfl) (by kernel_rfl) (by kernel_rfl) (fun _ _ _ h => h) (fun _ => hS0) (by rfl) (by intro w; go_simp) ?_
          try simp only [Act.put, List.setIfInBounds_toArray, List.set_cons_zero, List.set_cons_succ]
          refine anyTill.take0 (i := 7) (v := .int .i64 (k' : Int)) rfl (by kernel_rfl) (by kernel_rfl) (by kernel_rfl) (by kernel_rfl) (fun _ _ _ h => h) (fun _ => hS0) (by rfl) (by intro w; go_simp) ?_
          try simp only [Act.put, List.setIfInBounds_toArray, List.set_cons_zero, List.set_cons_succ]
          refine anyTill.take0 (i := 8) (v := .pointer (some ⟨q, k', none⟩)) rfl (by kernel_rfl) (by kernel_rfl) (by kernel_rfl) (by kernel_rfl) (fun _ _ _ h => h) (fun _ => hS0) (by rfl) (by intro w; go_simp) ?_
          try simp only [Act.put, List.setIfInBounds_toArray, List.set_cons_zero, List.set_cons_succ]
          refine anyTill.take (i := 9) (v := .int .i64 (E (k') : Int)) rfl (by kernel_rfl) (by kernel_rfl) (by kernel_rfl) (by kernel_rfl) (fun _ _ _ h => h) hS0 (by rfl) (by intro w hSw; obtain ⟨s0, s1⟩ := hSw; go_simp) ?_
          try simp only [Act.put, List.setIfInBounds_toArray, List.set_cons_zero, List.set_cons_succ]
          refine anyTill.take0 (i := 10) (v := .slice (some ⟨q, 0, none⟩) n c) rfl (by kernel_rfl) (by kernel_rfl) (by kernel_rfl) (by kernel_rfl) (fun _ _ _ h => h) (fun _ => hS0) (by rfl) (by intro w; go_simp) ?_
          try simp only [Act.put, List.setIfInBounds_toArray, List.set_cons_zero, List.set_cons_succ]
          refine anyTill.take0 (i := 11) (v := .int .i64 (k : Int)) rfl (by kernel_rfl) (by kernel_rfl) (by kernel_rfl) (by kernel_rfl) (fun _ _ _ h => h) (fun _ => hS0) (by rfl) (by intro w; go_simp) ?_
          try simp only [Act.put, List.setIfInBounds_toArray, List.set_cons_zero, List.set_cons_succ]
          refine anyTill.take0 (i := 12) (v := .pointer (some ⟨q, k, none⟩)) rfl (by kernel_rfl) (by kernel_rfl) (by kernel_rfl) (by kernel_rfl) (fun _ _ _ h => h) (fun _ => hS0) (by rfl) (by intro w; go_simp) ?_
          try simp only [Act.put, List.setIfInBounds_toArray, List.set_cons_zero, List.set_cons_succ]
          refine anyTill.take (i := 13) (v := .int .i64 (E k : Int)) rfl (by kernel_rfl) (by kernel_rfl) (by kernel_rfl) (by kernel_rfl) (fun _ _ _ h => h) hS0 (by rfl) (by intro w hSw; obtain ⟨s0, s1⟩ := hSw; go_simp) ?_
          try simp only [Act.put, List.setIfInBounds_toArray, List.set_cons_zero, List.set_cons_succ]
          refine anyTill.take0 (i := 14) (v := .pointer (some ⟨q, k, none⟩)) rfl (by kernel_rfl) (by kernel_rfl) (by kernel_rfl) (by kernel_rfl) (fun _ _ _ h => h) (fun _ => hS0) (by rfl) (by intro w; go_simp) ?_
          try simp only [Act.put, List.setIfInBounds_toArray, List.set_cons_zero, List.set_cons_succ]
          have kx := hE2.get hx
          have fx := hE2.free k
          refine anyTill.ready (rs := [15]) (by kernel_rfl) (by simp) ?_
          refine ReadyTill.cons rfl (fun K hK => ?_) ReadyTill.nil
          go_simp
          refine hK _ _ (fun h => absurd h (by simp)) ?_
          clear hK K
          try simp only [Act.put, List.setIfInBounds_toArray, List.set_cons_zero, List.set_cons_succ]
          have hR1 := hE2.put hx (E (k'))
          have ky := hR1.get hy
          have fy := hR1.free (k')
          refine anyTill.take0 (i := 16) (v := .pointer (some ⟨q, k', none⟩)) rfl (by kernel_rfl) (by kernel_rfl) (by kernel_rfl) (by kernel_rfl) (fun _ _ _ h => h) (fun h => absurd h (by simp)) (by rfl) (by intro w; go_simp) ?_
          try simp only [Act.put, List.setIfInBounds_toArray, List.set_cons_zero, List.set_cons_succ]
          refine anyTill.ready (rs := [17]) (by kernel_rfl) (by simp) ?_
          refine ReadyTill.cons rfl (fun K hK => ?_) ReadyTill.nil
          go_simp
          refine hK _ _ (fun h => absurd h (by simp)) ?_
          clear hK K
          try simp only [Act.put, List.setIfInBounds_toArray, List.set_cons_zero, List.set_cons_succ]
          refine anyTill.done (by kernel_rfl) ?_ _
          have hR2 := (hR1.put hy (E k)).drewN 1
          rw [fput_swp] at hR2
          rw [hst.out] at hR2 hTs
          go_wp2
          go_roundw
          case rel => exact ⟨k', rfl, by omega, by omega, hR2, hTs⟩
          case measure => simp [intOf]; omega
        · obtain rfl : k = i := by omega
          have hlt3 : ¬ (k : Int) < (k : Int) := by omega
          go_wp2
          exact bodyPost_ret (by simp [results, Try.results39, go_sem]) rfl ⟨rfl, _, hE2, hT.out, hfin.out⟩

set_option maxRecDepth 8000 in
set_option maxHeartbeats 24000000 in
theorem merge_hi (g : Nat) (lb : Array Value) (eg : Goes g) (n : Nat) (hn : n ≤ 32) (dg : Nat → Nat) (hdg : ∀ x, dg x ≤ 100000) (q c : Nat) (w0 : World) (hcmp : CmpD g lb n dg q w0) (a m b : Nat) (ham : a < m) (hmb : m < b) (hbn : b ≤ n) (h1 : ¬ m - a = 1) (h2 : ¬ b - m = 1) (hside : (a + b) / 2 < m) (ih : ∀ (a' m' b' : Nat), b' - a' < b - a → a' < m' → m' < b' → b' ≤ n → MergeAt g lb n dg q c w0 a' m' b') : MergeAt g lb n dg q c w0 a m b := by
  unfold MergeAt
  intro D w hR hI hs1 hs2 hc
  unfold Goes at eg
  have hDn := hI.1
  have wma := subw (x := m) (j := a) (by omega) (by omega)
  have wbm := subw (x := b) (j := m) (by omega) (by omega)
  have e1 : (((m - a : Nat) : Int) == 1) = false := by simp; omega
  have e2 : (((b - m : Nat) : Int) == 1) = false := by simp; omega
  obtain ⟨S, mid, hmid, kk⟩ := halfs (i := a) (j := b) (by omega)
  have hmm : a < mid ∧ mid < b := by omega
  have hmidw := addw (x := mid) (j := m) (by omega)
  obtain ⟨s0, r0, h0⟩ : ∃ s0 r0, (mid < m ∧ s0 = mid + m - b ∧ r0 = mid) ∨ (m ≤ mid ∧ s0 = a ∧ r0 = m) := by
    by_cases h : mid < m
    · exact ⟨_, _, .inl ⟨h, rfl, rfl⟩⟩
    · exact ⟨_, _, .inr ⟨by omega, rfl, rfl⟩⟩
  have hmids := fun s (hs : s0 ≤ s) (hr : s ≤ r0) => mid_bounds (a := a) (m := m) (b := b) hmid (by omega) (by omega) h0 hs hr
  have hs0r : s0 ≤ r0 := by omega
  have hb0 : a ≤ s0 ∧ r0 ≤ m ∧ mid + m ≤ 1000 := by omega
  have hcr : ∀ c, s0 ≤ c → c < r0 → a ≤ c ∧ c < m ∧ m ≤ mid + m - 1 - c ∧ mid + m - 1 - c < b ∧ c ≤ mid + m - 1 := fun c h1 h2 => by omega
  have hs0b := Lib.hid (show s0 = a ∨ mid + m - s0 = b by omega)
  have hr0b := Lib.hid (show r0 = m ∨ r0 = mid by omega)
  have hcond : (mid < m ∧ s0 = mid + m - b ∧ r0 = mid ∧ b ≤ mid + m) ∨ (m ≤ mid ∧ s0 = a ∧ r0 = m) := by omega
  have hpw : IntKind.i64.wrap (((mid + m : Nat) : Int) - 1) = ((mid + m - 1 : Nat) : Int) := subw (x := mid + m) (j := 1) (by omega) (by omega)
  obtain ⟨nn, hnn⟩ : ∃ nn, nn = mid + m := ⟨_, rfl⟩
  obtain ⟨pp, hpp⟩ : ∃ pp, pp = mid + m - 1 := ⟨_, rfl⟩
  rw [← hpp] at hpw
  rw [← hnn] at hmidw hpw
  have hnp := Lib.hid (show nn = pp + 1 by omega)
  rw [← hpp] at hcr
  have hnb : mid < m → IntKind.i64.wrap ((nn : Int) - (b : Int)) = (s0 : Int) := fun h => by
    rw [subw (x := nn) (j := b) (by omega) (by omega)]
    congr 1
    omega
  have hends : ∀ s, s0 ≤ s → s ≤ r0 → IntKind.i64.wrap ((nn : Int) - (s : Int)) = ((nn - s : Nat) : Int) := fun s h1 h2 => subw (by omega) (by omega)
  have hmid2 : ∀ s, s0 ≤ s → s ≤ r0 → Mid a m b mid s (nn - s) := fun s h1 h2 => by rw [hnn]; exact hmids s h1 h2
  have hppb : pp ≤ 1000 ∧ nn ≤ 1000 := by omega
  rw [← hnn] at hs0b
  have hm2 : 2 * mid ≤ a + b ∧ a + b ≤ 2 * mid + 1 := by omega
  clear hmids hmid hnn hpp
  generalize hma : m - a = ma at *
  generalize hbm : b - m = bm at *
  clear hma hbm
  have ihH := Lib.hid ih
  clear ih
  have h : mid < m := by omega
  have h' : r0 = mid := by omega
  have hnb1 := hnb h
  have hr0 := Lib.hid h'
  have hlt0 : (mid : Int) < (m : Int) := by omega
  clear hnb h h'
  obtain ⟨k1, k2, k3, k4, k5, k6⟩ := kk.out
  go_enter Try.func39, Try.ntmps39
  go_wp2
  clear k1 k2 k3 k4 k5 k6 kk hpw hmidw wma wbm
  clear hnb1
  go_loopw [20, 21, 23] (fun t u _ wr => ∃ st r : Nat, t = .int .i64 (st : Int) ∧ u = .int .i64 (r : Int) ∧ s0 ≤ st ∧ st ≤ r ∧ r ≤ r0 ∧ RowS w0 wr q n D ∧ Hid (st = s0 ∨ (s0 < st ∧ lt' dg (D (st - 1)) (D (pp - (st - 1))))) ∧ Hid (r = r0 ∨ lt' dg (D (pp - r)) (D r))) (fun t u _ _ => (intOf u).toNat - (intOf t).toNat)
  case atStart => exact ⟨s0, r0, rfl, by rw [hr0.out], Nat.le_refl _, hs0r, Nat.le_refl _, hR, .inl rfl, .inl rfl⟩
  case round =>
    obtain ⟨st, r, rfl, rfl, hst, hsr, hrr, hE, hA, hB⟩ := hrel
    clear hR
    by_cases hlt : st < r
    · obtain ⟨S, h, hh, kk⟩ := halfs (i := st) (j := r) (by omega)
      have hhr : st ≤ h ∧ h < r := by omega
      clear hh
      have hb := hcr h (by omega) (by omega)
      obtain ⟨ph, hph⟩ : ∃ ph, ph = pp - h := ⟨_, rfl⟩
      have hphw : IntKind.i64.wrap ((pp : Int) - (h : Int)) = (ph : Int) := by rw [hph]; exact subw hb.2.2.2.2 (Nat.le_trans hppb.1 (by decide))
      have hphH := Lib.hid hph
      rw [← hph] at hb
      clear hph
      have hhn : h < n := by omega
      have hpn : ph < n := by omega
      have c0 := hE.get hhn
      have c1 := hE.get hpn
      have hcall := fun d => hcmp (wr.drewN d) (D ph) (D h) (hDn ph hpn) (hDn h hhn) (hE.drewN d).alt
      have hd1 := hdg (D h)
      have hd2 := hdg (D ph)
      have hcross := Lib.hid (hc h ph hb.1 hb.2.1 hb.2.2.1 hb.2.2.2.1)
      by_cases hdd : dg (D h) < dg (D ph)
      · have hneg : ((dg (D h) : Int) - (dg (D ph) : Int)) < 0 := by omega
        generalize ((dg (D h) : Int) - (dg (D ph) : Int)) = cv at *
        have hneg3 : (!decide (cv < 0)) = false := by simp; omega
        obtain ⟨k1, k2, k3, k4, k5, k6⟩ := kk.out
        go_upto_region 35 with fail
        clear k1 k2 k3 k4 k5 k6 kk
        go_quiet ((go_at_fn g; exact q_ret (hcall _)))
        clear hphw
        go_wp2
        go_roundw
        case rel => exact ⟨st, h, rfl, rfl, hst, by omega, by omega, hE.drewN _, hA, Lib.hid (.inr (by rw [← hphH.out]; exact .inl hdd))⟩
        case measure => simp [intOf]; omega
      · have hneg : ¬ ((dg (D h) : Int) - (dg (D ph) : Int)) < 0 := by omega
        generalize ((dg (D h) : Int) - (dg (D ph) : Int)) = cv at *
        have hneg3 : (!decide (cv < 0)) = true := by simp; omega
        obtain ⟨k1, k2, k3, k4, k5, k6⟩ := kk.out
        go_upto_region 35 with fail
        clear k1 k2 k3 k4 k5 k6 kk
        go_quiet ((go_at_fn g; exact q_ret (hcall _)))
        clear hphw
        go_wp2
        go_roundw
        case rel => exact ⟨h + 1, r, by go_num, rfl, by omega, by omega, hrr, hE.drewN _, Lib.hid (.inr ⟨by omega, by rw [Nat.add_sub_cancel, ← hphH.out]; have := hcross.out; unfold lt'; omega⟩), hB⟩
        case measure => simp [intOf]; omega
    · obtain rfl : st = r := by omega
      have hew := hends st hst hrr
      have hM := hmid2 st hst hrr
      obtain ⟨e, he⟩ : ∃ e, e = nn - st := ⟨_, rfl⟩
      rw [← he] at hew hM
      have hnp2 := hnp.out
      have hp1 : st = a ∨ e = b ∨ lt' dg (D (st - 1)) (D e) := by
        rcases hA.out with h | ⟨h, h'⟩
        · have := hs0b.out; omega
        · rw [show pp - (st - 1) = e by omega] at h'; exact .inr (.inr h')
      have hp2 : st = m ∨ st = mid ∨ lt' dg (D (e - 1)) (D st) := by
        rcases hB.out with h | h'
        · have := hr0b.out; omega
        · rw [show pp - st = e - 1 by omega] at h'; exact .inr (.inr h')
      have hparts := merge_parts hM hs1 hs2 hp1 hp2
      have hL := merge_left hM hs1 hs2 hc
      have hRt := merge_right hM hs1 hs2 hc
      have b1 := hM.am
      have b2 := hM.sm
      have b3 := hM.smid
      have b4 := hM.me
      have b5 := hM.eb
      have b6 := hM.sum
      clear hA hB hp1 hp2 he hnp2 hends hmid2 hcr hs0b hr0b hst hrr hs0r hnp hppb
      generalize st = s at *
      clear hcond
      have q1 : ¬ s = m := by omega
      by_cases q2 : m = e
      · generalize hEE : rot D s m e = E at *
        have x1 : (s : Int) < (m : Int) := by omega
        have x2 : ¬ (m : Int) < (e : Int) := by omega
        have hnone := rot_none (D := D) hM (.inr (by omega))
        clear q2
        rw [hEE] at hnone
        clear hEE
        have hR1 : RowS w0 wr q n E := by rw [hnone]; exact hE
        have hT1 : Turned n s e D E := by rw [hnone]; exact Turned.refl _ _ _ _
        clear hnone hE
        go_upto_region 41 with fail
        generalize wr = w1 at *
        have hJ1 := hT1.2.2 hI
        have y1 : (a : Int) < (s : Int) := by omega
        have y2 : ¬ (s : Int) < (mid : Int) := by omega
        have hS2 : SortedOn dg E a mid := fun p r p1 p2 p3 => hL.1 p r p1 p2 (by omega)
        obtain ⟨D2, hR2, hT2, hS2⟩ : ∃ D2, RowS w0 w1 q n D2 ∧ Turned n a mid E D2 ∧ SortedOn dg D2 a mid := ⟨E, hR1, Turned.refl _ _ _ _, hS2⟩
        clear hR1
        go_upto_region 43 with fail
        generalize w1 = w2 at *
        have hD2 : ∀ p, mid ≤ p → D2 p = E p := fun p hp => hT2.2.1 p (.inr hp)
        have z1 : (mid : Int) < (e : Int) := by omega
        have z2 : (e : Int) < (b : Int) := by omega
        have hC := ihH.out mid e b (by omega) (by omega) (by omega) hbn D2 w2 hR2 (hT2.2.2 hJ1) (fun p r p1 p2 p3 => by rw [hD2 p (by omega), hD2 r (by omega)]; exact hRt.1 p r p1 p2 p3) (fun p r p1 p2 p3 => by rw [hD2 p (by omega), hD2 r (by omega)]; exact hRt.2.1 p r p1 p2 p3) (fun p r p1 p2 p3 p4 => by rw [hD2 p (by omega), hD2 r (by omega)]; exact hRt.2.2 p r p1 p2 p3 p4)
        clear hD2
        go_wp2_with (go_at_call 39; refine hC.mono ?_; rintro ee w3 ⟨rfl, D3, hR3, hT3, hS3⟩)
        exact bodyPost_ret (by simp [results, Try.results39, go_sem]) rfl ⟨rfl, D3, hR3, ((hT1.mono (by omega) (by omega)).trans (hT2.mono (Nat.le_refl _) (by omega))).trans (hT3.mono (by omega) (Nat.le_refl _)), merge_join (by omega) (by omega) hparts hT2 hT3 hS2 hS3⟩
      · by_cases q3 : a < s
        · by_cases q4 : e < b
          · generalize hEE : rot D s m e = E at *
            have x1 : (s : Int) < (m : Int) := by omega
            have x2 : (m : Int) < (e : Int) := by omega
            have hrot := rotate (.func (.func g) #[] lb) n hn q c w0 s m e (by omega) (by omega) (by omega) D wr hE
            rw [hEE] at hrot
            clear hEE
            go_upto_region 41 with (go_at_call 40; refine hrot.mono ?_; rintro ee w1 ⟨rfl, hR1, hT1⟩)
            clear hrot hE
            have hJ1 := hT1.2.2 hI
            have y1 : (a : Int) < (s : Int) := by omega
            have y2 : (s : Int) < (mid : Int) := by omega
            have hB := ihH.out a s mid (by omega) (by omega) (by omega) (by omega) E w1 hR1 hJ1 hL.1 hL.2.1 hL.2.2
            go_upto_region 43 with (go_at_call 39; refine hB.mono ?_; rintro ee w2 ⟨rfl, D2, hR2, hT2, hS2⟩)
            clear hB hR1
            have hD2 : ∀ p, mid ≤ p → D2 p = E p := fun p hp => hT2.2.1 p (.inr hp)
            have z1 : (mid : Int) < (e : Int) := by omega
            have z2 : (e : Int) < (b : Int) := by omega
            have hC := ihH.out mid e b (by omega) (by omega) (by omega) hbn D2 w2 hR2 (hT2.2.2 hJ1) (fun p r p1 p2 p3 => by rw [hD2 p (by omega), hD2 r (by omega)]; exact hRt.1 p r p1 p2 p3) (fun p r p1 p2 p3 => by rw [hD2 p (by omega), hD2 r (by omega)]; exact hRt.2.1 p r p1 p2 p3) (fun p r p1 p2 p3 p4 => by rw [hD2 p (by omega), hD2 r (by omega)]; exact hRt.2.2 p r p1 p2 p3 p4)
            clear hD2
            go_wp2_with (go_at_call 39; refine hC.mono ?_; rintro ee w3 ⟨rfl, D3, hR3, hT3, hS3⟩)
            exact bodyPost_ret (by simp [results, Try.results39, go_sem]) rfl ⟨rfl, D3, hR3, ((hT1.mono (by omega) (by omega)).trans (hT2.mono (Nat.le_refl _) (by omega))).trans (hT3.mono (by omega) (Nat.le_refl _)), merge_join (by omega) (by omega) hparts hT2 hT3 hS2 hS3⟩
          · generalize hEE : rot D s m e = E at *
            have x1 : (s : Int) < (m : Int) := by omega
            have x2 : (m : Int) < (e : Int) := by omega
            have hrot := rotate (.func (.func g) #[] lb) n hn q c w0 s m e (by omega) (by omega) (by omega) D wr hE
            rw [hEE] at hrot
            clear hEE
            go_upto_region 41 with (go_at_call 40; refine hrot.mono ?_; rintro ee w1 ⟨rfl, hR1, hT1⟩)
            clear hrot hE
            have hJ1 := hT1.2.2 hI
            have y1 : (a : Int) < (s : Int) := by omega
            have y2 : (s : Int) < (mid : Int) := by omega
            have hB := ihH.out a s mid (by omega) (by omega) (by omega) (by omega) E w1 hR1 hJ1 hL.1 hL.2.1 hL.2.2
            go_upto_region 43 with (go_at_call 39; refine hB.mono ?_; rintro ee w2 ⟨rfl, D2, hR2, hT2, hS2⟩)
            clear hB hR1
            have hD2 : ∀ p, mid ≤ p → D2 p = E p := fun p hp => hT2.2.1 p (.inr hp)
            have z1 : (mid : Int) < (e : Int) := by omega
            have z2 : ¬ (e : Int) < (b : Int) := by omega
            have hS3 : SortedOn dg D2 mid b := fun p r p1 p2 p3 => by rw [hD2 p (by omega), hD2 r (by omega)]; exact hRt.1 p r p1 p2 (by omega)
            clear hD2
            obtain ⟨D3, hR3, hT3, hS3⟩ : ∃ D3, RowS w0 w2 q n D3 ∧ Turned n mid b D2 D3 ∧ SortedOn dg D3 mid b := ⟨D2, hR2, Turned.refl _ _ _ _, hS3⟩
            go_wp2
            exact bodyPost_ret (by simp [results, Try.results39, go_sem]) rfl ⟨rfl, D3, hR3, ((hT1.mono (by omega) (by omega)).trans (hT2.mono (Nat.le_refl _) (by omega))).trans (hT3.mono (by omega) (Nat.le_refl _)), merge_join (by omega) (by omega) hparts hT2 hT3 hS2 hS3⟩
        · have q4 : ¬ e < b := by omega
          generalize hEE : rot D s m e = E at *
          have x1 : (s : Int) < (m : Int) := by omega
          have x2 : (m : Int) < (e : Int) := by omega
          have hrot := rotate (.func (.func g) #[] lb) n hn q c w0 s m e (by omega) (by omega) (by omega) D wr hE
          rw [hEE] at hrot
          clear hEE
          go_upto_region 41 with (go_at_call 40; refine hrot.mono ?_; rintro ee w1 ⟨rfl, hR1, hT1⟩)
          clear hrot hE
          have hJ1 := hT1.2.2 hI
          have y1 : ¬ (a : Int) < (s : Int) := by omega
          have hS2 : SortedOn dg E a mid := fun p r p1 p2 p3 => hL.2.1 p r (by omega) p2 p3
          obtain ⟨D2, hR2, hT2, hS2⟩ : ∃ D2, RowS w0 w1 q n D2 ∧ Turned n a mid E D2 ∧ SortedOn dg D2 a mid := ⟨E, hR1, Turned.refl _ _ _ _, hS2⟩
          clear hR1
          go_upto_region 43 with fail
          generalize w1 = w2 at *
          have hD2 : ∀ p, mid ≤ p → D2 p = E p := fun p hp => hT2.2.1 p (.inr hp)
          have z1 : (mid : Int) < (e : Int) := by omega
          have z2 : ¬ (e : Int) < (b : Int) := by omega
          have hS3 : SortedOn dg D2 mid b := fun p r p1 p2 p3 => by rw [hD2 p (by omega), hD2 r (by omega)]; exact hRt.1 p r p1 p2 (by omega)
          clear hD2
          obtain ⟨D3, hR3, hT3, hS3⟩ : ∃ D3, RowS w0 w2 q n D3 ∧ Turned n mid b D2 D3 ∧ SortedOn dg D3 mid b := ⟨D2, hR2, Turned.refl _ _ _ _, hS3⟩
          go_wp2
          exact bodyPost_ret (by simp [results, Try.results39, go_sem]) rfl ⟨rfl, D3, hR3, ((hT1.mono (by omega) (by omega)).trans (hT2.mono (Nat.le_refl _) (by omega))).trans (hT3.mono (by omega) (Nat.le_refl _)), merge_join (by omega) (by omega) hparts hT2 hT3 hS2 hS3⟩

set_option maxRecDepth 8000 in
set_option maxHeartbeats 24000000 in
theorem merge_lo (g : Nat) (lb : Array Value) (eg : Goes g) (n : Nat) (hn : n ≤ 32) (dg : Nat → Nat) (hdg : ∀ x, dg x ≤ 100000) (q c : Nat) (w0 : World) (hcmp : CmpD g lb n dg q w0) (a m b : Nat) (ham : a < m) (hmb : m < b) (hbn : b ≤ n) (h1 : ¬ m - a = 1) (h2 : ¬ b - m = 1) (hside : ¬ (a + b) / 2 < m) (ih : ∀ (a' m' b' : Nat), b' - a' < b - a → a' < m' → m' < b' → b' ≤ n → MergeAt g lb n dg q c w0 a' m' b') : MergeAt g lb n dg q c w0 a m b := by
  unfold MergeAt
  intro D w hR hI hs1 hs2 hc
  unfold Goes at eg
  have hDn := hI.1
  have wma := subw (x := m) (j := a) (by omega) (by omega)
  have wbm := subw (x := b) (j := m) (by omega) (by omega)
  have e1 : (((m - a : Nat) : Int) == 1) = false := by simp; omega
  have e2 : (((b - m : Nat) : Int) == 1) = false := by simp; omega
  obtain ⟨S, mid, hmid, kk⟩ := halfs (i := a) (j := b) (by omega)
  have hmm : a < mid ∧ mid < b := by omega
  have hmidw := addw (x := mid) (j := m) (by omega)
  obtain ⟨s0, r0, h0⟩ : ∃ s0 r0, (mid < m ∧ s0 = mid + m - b ∧ r0 = mid) ∨ (m ≤ mid ∧ s0 = a ∧ r0 = m) := by
    by_cases h : mid < m
    · exact ⟨_, _, .inl ⟨h, rfl, rfl⟩⟩
    · exact ⟨_, _, .inr ⟨by omega, rfl, rfl⟩⟩
  have hmids := fun s (hs : s0 ≤ s) (hr : s ≤ r0) => mid_bounds (a := a) (m := m) (b := b) hmid (by omega) (by omega) h0 hs hr
  have hs0r : s0 ≤ r0 := by omega
  have hb0 : a ≤ s0 ∧ r0 ≤ m ∧ mid + m ≤ 1000 := by omega
  have hcr : ∀ c, s0 ≤ c → c < r0 → a ≤ c ∧ c < m ∧ m ≤ mid + m - 1 - c ∧ mid + m - 1 - c < b ∧ c ≤ mid + m - 1 := fun c h1 h2 => by omega
  have hs0b := Lib.hid (show s0 = a ∨ mid + m - s0 = b by omega)
  have hr0b := Lib.hid (show r0 = m ∨ r0 = mid by omega)
  have hcond : (mid < m ∧ s0 = mid + m - b ∧ r0 = mid ∧ b ≤ mid + m) ∨ (m ≤ mid ∧ s0 = a ∧ r0 = m) := by omega
  have hpw : IntKind.i64.wrap (((mid + m : Nat) : Int) - 1) = ((mid + m - 1 : Nat) : Int) := subw (x := mid + m) (j := 1) (by omega) (by omega)
  obtain ⟨nn, hnn⟩ : ∃ nn, nn = mid + m := ⟨_, rfl⟩
  obtain ⟨pp, hpp⟩ : ∃ pp, pp = mid + m - 1 := ⟨_, rfl⟩
  rw [← hpp] at hpw
  rw [← hnn] at hmidw hpw
  have hnp := Lib.hid (show nn = pp + 1 by omega)
  rw [← hpp] at hcr
  have hnb : mid < m → IntKind.i64.wrap ((nn : Int) - (b : Int)) = (s0 : Int) := fun h => by
    rw [subw (x := nn) (j := b) (by omega) (by omega)]
    congr 1
    omega
  have hends : ∀ s, s0 ≤ s → s ≤ r0 → IntKind.i64.wrap ((nn : Int) - (s : Int)) = ((nn - s : Nat) : Int) := fun s h1 h2 => subw (by omega) (by omega)
  have hmid2 : ∀ s, s0 ≤ s → s ≤ r0 → Mid a m b mid s (nn - s) := fun s h1 h2 => by rw [hnn]; exact hmids s h1 h2
  have hppb : pp ≤ 1000 ∧ nn ≤ 1000 := by omega
  rw [← hnn] at hs0b
  have hm2 : 2 * mid ≤ a + b ∧ a + b ≤ 2 * mid + 1 := by omega
  clear hmids hmid hnn hpp
  generalize hma : m - a = ma at *
  generalize hbm : b - m = bm at *
  clear hma hbm
  have ihH := Lib.hid ih
  clear ih
  have h : m ≤ mid := by omega
  have h' : s0 = a := by omega
  have h'' : r0 = m := by omega
  have hs0 := Lib.hid h'
  have hr0 := Lib.hid h''
  have hlt0 : ¬ (mid : Int) < (m : Int) := by omega
  clear hnb h h' h''
  obtain ⟨k1, k2, k3, k4, k5, k6⟩ := kk.out
  go_enter Try.func39, Try.ntmps39
  go_wp2
  clear k1 k2 k3 k4 k5 k6 kk hpw hmidw wma wbm
  go_loopw [20, 21, 23] (fun t u _ wr => ∃ st r : Nat, t = .int .i64 (st : Int) ∧ u = .int .i64 (r : Int) ∧ s0 ≤ st ∧ st ≤ r ∧ r ≤ r0 ∧ RowS w0 wr q n D ∧ Hid (st = s0 ∨ (s0 < st ∧ lt' dg (D (st - 1)) (D (pp - (st - 1))))) ∧ Hid (r = r0 ∨ lt' dg (D (pp - r)) (D r))) (fun t u _ _ => (intOf u).toNat - (intOf t).toNat)
  case atStart => exact ⟨s0, r0, by rw [hs0.out], by rw [hr0.out], Nat.le_refl _, hs0r, Nat.le_refl _, hR, .inl rfl, .inl rfl⟩
  case round =>
    obtain ⟨st, r, rfl, rfl, hst, hsr, hrr, hE, hA, hB⟩ := hrel
    clear hR
    by_cases hlt : st < r
    · obtain ⟨S, h, hh, kk⟩ := halfs (i := st) (j := r) (by omega)
      have hhr : st ≤ h ∧ h < r := by omega
      clear hh
      have hb := hcr h (by omega) (by omega)
      obtain ⟨ph, hph⟩ : ∃ ph, ph = pp - h := ⟨_, rfl⟩
      have hphw : IntKind.i64.wrap ((pp : Int) - (h : Int)) = (ph : Int) := by rw [hph]; exact subw hb.2.2.2.2 (Nat.le_trans hppb.1 (by decide))
      have hphH := Lib.hid hph
      rw [← hph] at hb
      clear hph
      have hhn : h < n := by omega
      have hpn : ph < n := by omega
      have c0 := hE.get hhn
      have c1 := hE.get hpn
      have hcall := fun d => hcmp (wr.drewN d) (D ph) (D h) (hDn ph hpn) (hDn h hhn) (hE.drewN d).alt
      have hd1 := hdg (D h)
      have hd2 := hdg (D ph)
      have hcross := Lib.hid (hc h ph hb.1 hb.2.1 hb.2.2.1 hb.2.2.2.1)
      by_cases hdd : dg (D h) < dg (D ph)
      · have hneg : ((dg (D h) : Int) - (dg (D ph) : Int)) < 0 := by omega
        generalize ((dg (D h) : Int) - (dg (D ph) : Int)) = cv at *
        have hneg3 : (!decide (cv < 0)) = false := by simp; omega
        obtain ⟨k1, k2, k3, k4, k5, k6⟩ := kk.out
        go_upto_region 35 with fail
        clear k1 k2 k3 k4 k5 k6 kk
        go_quiet ((go_at_fn g; exact q_ret (hcall _)))
        clear hphw
        go_wp2
        go_roundw
        case rel => exact ⟨st, h, rfl, rfl, hst, by omega, by omega, hE.drewN _, hA, Lib.hid (.inr (by rw [← hphH.out]; exact .inl hdd))⟩
        case measure => simp [intOf]; omega
      · have hneg : ¬ ((dg (D h) : Int) - (dg (D ph) : Int)) < 0 := by omega
        generalize ((dg (D h) : Int) - (dg (D ph) : Int)) = cv at *
        have hneg3 : (!decide (cv < 0)) = true := by simp; omega
        obtain ⟨k1, k2, k3, k4, k5, k6⟩ := kk.out
        go_upto_region 35 with fail
        clear k1 k2 k3 k4 k5 k6 kk
        go_quiet ((go_at_fn g; exact q_ret (hcall _)))
        clear hphw
        go_wp2
        go_roundw
        case rel => exact ⟨h + 1, r, by go_num, rfl, by omega, by omega, hrr, hE.drewN _, Lib.hid (.inr ⟨by omega, by rw [Nat.add_sub_cancel, ← hphH.out]; have := hcross.out; unfold lt'; omega⟩), hB⟩
        case measure => simp [intOf]; omega
    · obtain rfl : st = r := by omega
      have hew := hends st hst hrr
      have hM := hmid2 st hst hrr
      obtain ⟨e, he⟩ : ∃ e, e = nn - st := ⟨_, rfl⟩
      rw [← he] at hew hM
      have hnp2 := hnp.out
      have hp1 : st = a ∨ e = b ∨ lt' dg (D (st - 1)) (D e) := by
        rcases hA.out with h | ⟨h, h'⟩
        · have := hs0b.out; omega
        · rw [show pp - (st - 1) = e by omega] at h'; exact .inr (.inr h')
      have hp2 : st = m ∨ st = mid ∨ lt' dg (D (e - 1)) (D st) := by
        rcases hB.out with h | h'
        · have := hr0b.out; omega
        · rw [show pp - st = e - 1 by omega] at h'; exact .inr (.inr h')
      have hparts := merge_parts hM hs1 hs2 hp1 hp2
      have hL := merge_left hM hs1 hs2 hc
      have hRt := merge_right hM hs1 hs2 hc
      have b1 := hM.am
      have b2 := hM.sm
      have b3 := hM.smid
      have b4 := hM.me
      have b5 := hM.eb
      have b6 := hM.sum
      clear hA hB hp1 hp2 he hnp2 hends hmid2 hcr hs0b hr0b hst hrr hs0r hnp hppb
      generalize st = s at *
      clear hcond
      by_cases q1 : s = m
      · by_cases q3 : s < mid
        · generalize hEE : rot D s m e = E at *
          have x1 : ¬ (s : Int) < (m : Int) := by omega
          have hnone := rot_none (D := D) hM (.inl (by omega))
          clear q1
          rw [hEE] at hnone
          clear hEE
          have hR1 : RowS w0 wr q n E := by rw [hnone]; exact hE
          have hT1 : Turned n s e D E := by rw [hnone]; exact Turned.refl _ _ _ _
          clear hnone hE
          go_upto_region 41 with fail
          generalize wr = w1 at *
          have hJ1 := hT1.2.2 hI
          have y1 : (a : Int) < (s : Int) := by omega
          have y2 : (s : Int) < (mid : Int) := by omega
          have hB := ihH.out a s mid (by omega) (by omega) (by omega) (by omega) E w1 hR1 hJ1 hL.1 hL.2.1 hL.2.2
          go_upto_region 43 with (go_at_call 39; refine hB.mono ?_; rintro ee w2 ⟨rfl, D2, hR2, hT2, hS2⟩)
          clear hB hR1
          have hD2 : ∀ p, mid ≤ p → D2 p = E p := fun p hp => hT2.2.1 p (.inr hp)
          have z1 : ¬ (mid : Int) < (e : Int) := by omega
          have hS3 : SortedOn dg D2 mid b := fun p r p1 p2 p3 => by rw [hD2 p (by omega), hD2 r (by omega)]; exact hRt.2.1 p r (by omega) p2 p3
          clear hD2
          obtain ⟨D3, hR3, hT3, hS3⟩ : ∃ D3, RowS w0 w2 q n D3 ∧ Turned n mid b D2 D3 ∧ SortedOn dg D3 mid b := ⟨D2, hR2, Turned.refl _ _ _ _, hS3⟩
          go_wp2
          exact bodyPost_ret (by simp [results, Try.results39, go_sem]) rfl ⟨rfl, D3, hR3, ((hT1.mono (by omega) (by omega)).trans (hT2.mono (Nat.le_refl _) (by omega))).trans (hT3.mono (by omega) (Nat.le_refl _)), merge_join (by omega) (by omega) hparts hT2 hT3 hS2 hS3⟩
        · generalize hEE : rot D s m e = E at *
          have x1 : ¬ (s : Int) < (m : Int) := by omega
          have hnone := rot_none (D := D) hM (.inl (by omega))
          clear q1
          rw [hEE] at hnone
          clear hEE
          have hR1 : RowS w0 wr q n E := by rw [hnone]; exact hE
          have hT1 : Turned n s e D E := by rw [hnone]; exact Turned.refl _ _ _ _
          clear hnone hE
          go_upto_region 41 with fail
          generalize wr = w1 at *
          have hJ1 := hT1.2.2 hI
          have y1 : (a : Int) < (s : Int) := by omega
          have y2 : ¬ (s : Int) < (mid : Int) := by omega
          have hS2 : SortedOn dg E a mid := fun p r p1 p2 p3 => hL.1 p r p1 p2 (by omega)
          obtain ⟨D2, hR2, hT2, hS2⟩ : ∃ D2, RowS w0 w1 q n D2 ∧ Turned n a mid E D2 ∧ SortedOn dg D2 a mid := ⟨E, hR1, Turned.refl _ _ _ _, hS2⟩
          clear hR1
          go_upto_region 43 with fail
          generalize w1 = w2 at *
          have hD2 : ∀ p, mid ≤ p → D2 p = E p := fun p hp => hT2.2.1 p (.inr hp)
          have z1 : ¬ (mid : Int) < (e : Int) := by omega
          have hS3 : SortedOn dg D2 mid b := fun p r p1 p2 p3 => by rw [hD2 p (by omega), hD2 r (by omega)]; exact hRt.2.1 p r (by omega) p2 p3
          clear hD2
          obtain ⟨D3, hR3, hT3, hS3⟩ : ∃ D3, RowS w0 w2 q n D3 ∧ Turned n mid b D2 D3 ∧ SortedOn dg D3 mid b := ⟨D2, hR2, Turned.refl _ _ _ _, hS3⟩
          go_wp2
          exact bodyPost_ret (by simp [results, Try.results39, go_sem]) rfl ⟨rfl, D3, hR3, ((hT1.mono (by omega) (by omega)).trans (hT2.mono (Nat.le_refl _) (by omega))).trans (hT3.mono (by omega) (Nat.le_refl _)), merge_join (by omega) (by omega) hparts hT2 hT3 hS2 hS3⟩
      · have q2 : ¬ m = e := by omega
        by_cases q3 : a < s
        · have q4 : e < b := by omega
          generalize hEE : rot D s m e = E at *
          have x1 : (s : Int) < (m : Int) := by omega
          have x2 : (m : Int) < (e : Int) := by omega
          have hrot := rotate (.func (.func g) #[] lb) n hn q c w0 s m e (by omega) (by omega) (by omega) D wr hE
          rw [hEE] at hrot
          clear hEE
          go_upto_region 41 with (go_at_call 40; refine hrot.mono ?_; rintro ee w1 ⟨rfl, hR1, hT1⟩)
          clear hrot hE
          have hJ1 := hT1.2.2 hI
          have y1 : (a : Int) < (s : Int) := by omega
          have y2 : (s : Int) < (mid : Int) := by omega
          have hB := ihH.out a s mid (by omega) (by omega) (by omega) (by omega) E w1 hR1 hJ1 hL.1 hL.2.1 hL.2.2
          go_upto_region 43 with (go_at_call 39; refine hB.mono ?_; rintro ee w2 ⟨rfl, D2, hR2, hT2, hS2⟩)
          clear hB hR1
          have hD2 : ∀ p, mid ≤ p → D2 p = E p := fun p hp => hT2.2.1 p (.inr hp)
          have z1 : (mid : Int) < (e : Int) := by omega
          have z2 : (e : Int) < (b : Int) := by omega
          have hC := ihH.out mid e b (by omega) (by omega) (by omega) hbn D2 w2 hR2 (hT2.2.2 hJ1) (fun p r p1 p2 p3 => by rw [hD2 p (by omega), hD2 r (by omega)]; exact hRt.1 p r p1 p2 p3) (fun p r p1 p2 p3 => by rw [hD2 p (by omega), hD2 r (by omega)]; exact hRt.2.1 p r p1 p2 p3) (fun p r p1 p2 p3 p4 => by rw [hD2 p (by omega), hD2 r (by omega)]; exact hRt.2.2 p r p1 p2 p3 p4)
          clear hD2
          go_wp2_with (go_at_call 39; refine hC.mono ?_; rintro ee w3 ⟨rfl, D3, hR3, hT3, hS3⟩)
          exact bodyPost_ret (by simp [results, Try.results39, go_sem]) rfl ⟨rfl, D3, hR3, ((hT1.mono (by omega) (by omega)).trans (hT2.mono (Nat.le_refl _) (by omega))).trans (hT3.mono (by omega) (Nat.le_refl _)), merge_join (by omega) (by omega) hparts hT2 hT3 hS2 hS3⟩
        · by_cases q4 : e < b
          · generalize hEE : rot D s m e = E at *
            have x1 : (s : Int) < (m : Int) := by omega
            have x2 : (m : Int) < (e : Int) := by omega
            have hrot := rotate (.func (.func g) #[] lb) n hn q c w0 s m e (by omega) (by omega) (by omega) D wr hE
            rw [hEE] at hrot
            clear hEE
            go_upto_region 41 with (go_at_call 40; refine hrot.mono ?_; rintro ee w1 ⟨rfl, hR1, hT1⟩)
            clear hrot hE
            have hJ1 := hT1.2.2 hI
            have y1 : ¬ (a : Int) < (s : Int) := by omega
            have hS2 : SortedOn dg E a mid := fun p r p1 p2 p3 => hL.2.1 p r (by omega) p2 p3
            obtain ⟨D2, hR2, hT2, hS2⟩ : ∃ D2, RowS w0 w1 q n D2 ∧ Turned n a mid E D2 ∧ SortedOn dg D2 a mid := ⟨E, hR1, Turned.refl _ _ _ _, hS2⟩
            clear hR1
            go_upto_region 43 with fail
            generalize w1 = w2 at *
            have hD2 : ∀ p, mid ≤ p → D2 p = E p := fun p hp => hT2.2.1 p (.inr hp)
            have z1 : (mid : Int) < (e : Int) := by omega
            have z2 : (e : Int) < (b : Int) := by omega
            have hC := ihH.out mid e b (by omega) (by omega) (by omega) hbn D2 w2 hR2 (hT2.2.2 hJ1) (fun p r p1 p2 p3 => by rw [hD2 p (by omega), hD2 r (by omega)]; exact hRt.1 p r p1 p2 p3) (fun p r p1 p2 p3 => by rw [hD2 p (by omega), hD2 r (by omega)]; exact hRt.2.1 p r p1 p2 p3) (fun p r p1 p2 p3 p4 => by rw [hD2 p (by omega), hD2 r (by omega)]; exact hRt.2.2 p r p1 p2 p3 p4)
            clear hD2
            go_wp2_with (go_at_call 39; refine hC.mono ?_; rintro ee w3 ⟨rfl, D3, hR3, hT3, hS3⟩)
            exact bodyPost_ret (by simp [results, Try.results39, go_sem]) rfl ⟨rfl, D3, hR3, ((hT1.mono (by omega) (by omega)).trans (hT2.mono (Nat.le_refl _) (by omega))).trans (hT3.mono (by omega) (Nat.le_refl _)), merge_join (by omega) (by omega) hparts hT2 hT3 hS2 hS3⟩
          · generalize hEE : rot D s m e = E at *
            have x1 : (s : Int) < (m : Int) := by omega
            have x2 : (m : Int) < (e : Int) := by omega
            have hrot := rotate (.func (.func g) #[] lb) n hn q c w0 s m e (by omega) (by omega) (by omega) D wr hE
            rw [hEE] at hrot
            clear hEE
            go_upto_region 41 with (go_at_call 40; refine hrot.mono ?_; rintro ee w1 ⟨rfl, hR1, hT1⟩)
            clear hrot hE
            have hJ1 := hT1.2.2 hI
            have y1 : ¬ (a : Int) < (s : Int) := by omega
            have hS2 : SortedOn dg E a mid := fun p r p1 p2 p3 => hL.2.1 p r (by omega) p2 p3
            obtain ⟨D2, hR2, hT2, hS2⟩ : ∃ D2, RowS w0 w1 q n D2 ∧ Turned n a mid E D2 ∧ SortedOn dg D2 a mid := ⟨E, hR1, Turned.refl _ _ _ _, hS2⟩
            clear hR1
            go_upto_region 43 with fail
            generalize w1 = w2 at *
            have hD2 : ∀ p, mid ≤ p → D2 p = E p := fun p hp => hT2.2.1 p (.inr hp)
            have z1 : (mid : Int) < (e : Int) := by omega
            have z2 : ¬ (e : Int) < (b : Int) := by omega
            have hS3 : SortedOn dg D2 mid b := fun p r p1 p2 p3 => by rw [hD2 p (by omega), hD2 r (by omega)]; exact hRt.1 p r p1 p2 (by omega)
            clear hD2
            obtain ⟨D3, hR3, hT3, hS3⟩ : ∃ D3, RowS w0 w2 q n D3 ∧ Turned n mid b D2 D3 ∧ SortedOn dg D3 mid b := ⟨D2, hR2, Turned.refl _ _ _ _, hS3⟩
            go_wp2
            exact bodyPost_ret (by simp [results, Try.results39, go_sem]) rfl ⟨rfl, D3, hR3, ((hT1.mono (by omega) (by omega)).trans (hT2.mono (Nat.le_refl _) (by omega))).trans (hT3.mono (by omega) (Nat.le_refl _)), merge_join (by omega) (by omega) hparts hT2 hT3 hS2 hS3⟩

theorem symMerge (g : Nat) (lb : Array Value) (eg : Goes g) (n : Nat) (hn : n ≤ 32) (dg : Nat → Nat) (hdg : ∀ x, dg x ≤ 100000) (q c : Nat) (w0 : World) (hcmp : CmpD g lb n dg q w0) (d : Nat) : ∀ (a m b : Nat), b - a = d → a < m → m < b → b ≤ n → MergeAt g lb n dg q c w0 a m b := by
  induction d using Nat.strongRecOn with
  | _ d ih =>
  intro a m b hd ham hmb hbn
  by_cases h1 : m - a = 1
  · exact merge_l g lb eg n hn dg hdg q c w0 hcmp a m b ham hmb hbn h1
  · by_cases h2 : b - m = 1
    · exact merge_r g lb eg n hn dg hdg q c w0 hcmp a m b ham hmb hbn h1 h2
    · by_cases hs : (a + b) / 2 < m
      · exact merge_hi g lb eg n hn dg hdg q c w0 hcmp a m b ham hmb hbn h1 h2 hs fun a' m' b' hlt => ih (b' - a') (by omega) a' m' b' rfl
      · exact merge_lo g lb eg n hn dg hdg q c w0 hcmp a m b ham hmb hbn h1 h2 hs fun a' m' b' hlt => ih (b' - a') (by omega) a' m' b' rfl
end Go.Proofs.Ytpebibhnaopbnaa
