/-
  slices.Repeat and slices.Clone over numbers.
-/
import Derived.Test.YtpebibhnaopbnaaCan
import Derived.Laws.CopyOwn
import Derived.Lib.BufferMore
import Derived.Deep.Cut
namespace Go.Proofs.Ytpebibhnaopbnaa
open Go.RowKit Go.Shelf

set_option maxHeartbeats 2000000 in
theorem mul64one (n : Nat) (hn : 1 ≤ n ∧ n ≤ 16) (w : World) : Calls Try.prog 37 #[.int .u64 1, .int .u64 (n : Int)] w (fun e w' => e = .returned (.tuple #[.int .u64 0, .int .u64 (n : Int)]) ∧ w = w') := by
  have hc : n = 1 ∨ n = 2 ∨ n = 3 ∨ n = 4 ∨ n = 5 ∨ n = 6 ∨ n = 7 ∨ n = 8 ∨ n = 9 ∨ n = 10 ∨ n = 11 ∨ n = 12 ∨ n = 13 ∨ n = 14 ∨ n = 15 ∨ n = 16 := by omega
  rcases hc with rfl | rfl | rfl | rfl | rfl | rfl | rfl | rfl | rfl | rfl | rfl | rfl | rfl | rfl | rfl | rfl
  all_goals
    go_enter Try.func37, Try.ntmps37
    go_wp2
    exact bodyPost_ret (v := .tuple #[.int .u64 0, .int .u64 _]) (by simp [results, Try.results37, go_sem]; kernel_rfl) rfl ⟨rfl, rfl⟩
theorem mulOne (n : Nat) (hn : 1 ≤ n ∧ n ≤ 16) (w : World) : Calls Try.prog 32 #[.int .u64 1, .int .u64 (n : Int)] w (fun e w' => e = .returned (.tuple #[.int .u64 0, .int .u64 (n : Int)]) ∧ w = w') := by
  have hcall := mul64one n hn w
  go_enter Try.func32, Try.ntmps32
  go_wp2_with (go_at_call 37; refine hcall.mono ?_; rintro e w' ⟨rfl, rfl⟩)
  exact bodyPost_ret (by simp [results, Try.results32, go_sem]) rfl ⟨rfl, rfl⟩

theorem bare_get {n j : Nat} (h : j < n) : (bare n).getD j 0 = -1 := by simp [bare, List.getD_eq_getElem?_getD, h]
theorem bare_splice {n m : Nat} (k : Nat) (hk : m + k ≤ n) :
    splice (ints (bare m ++ List.replicate (n - m) 0)) m (ints (bare k)) = ints (bare (m + k) ++ List.replicate (n - (m + k)) 0) := by
  unfold splice
  have e1 : (ints (bare m)).length = m := by rw [ints_len, bare_len]
  have e2 : (ints (bare k)).length = k := by rw [ints_len, bare_len]
  rw [ints_app, e2]
  rw [List.take_left' e1]
  rw [List.drop_append, e1, List.drop_eq_nil_of_le (by omega), List.nil_append]
  rw [show m + k - m = k by omega, ← List.append_assoc, ← ints_app]
  rw [ints_app (bare (m + k))]
  congr 1
  · unfold bare; rw [List.replicate_append_replicate]
  · unfold ints
    rw [List.map_replicate, List.map_replicate, List.drop_replicate]
    congr 1
    omega

set_option maxRecDepth 8000 in
set_option maxHeartbeats 2000000 in
theorem repeat1 (n : Nat) (hn : 1 ≤ n ∧ n ≤ 16) (q c : Nat) (w : World) (hq : w.cell? ⟨q, 0, none⟩ = some (.int .i64 (-1))) (hql : q < w.heap.size) :
    Calls Try.prog 22 #[.slice (some ⟨q, 0, none⟩) 1 c, .int .i64 (n : Int)] w
      (fun e w' => ∃ g, e = .returned (.slice (some ⟨g, 0, none⟩) n n) ∧ w.heap.size ≤ g ∧ Own 2 w' g (ints (bare n)) ∧ Below w.heap.size w w') := by
  have hmul := mulOne n hn
  have hcv : IntKind.u64.wrap (n : Int) = (n : Int) := by
    have hc : n = 1 ∨ n = 2 ∨ n = 3 ∨ n = 4 ∨ n = 5 ∨ n = 6 ∨ n = 7 ∨ n = 8 ∨ n = 9 ∨ n = 10 ∨ n = 11 ∨ n = 12 ∨ n = 13 ∨ n = 14 ∨ n = 15 ∨ n = 16 := by omega
    rcases hc with rfl | rfl | rfl | rfl | rfl | rfl | rfl | rfl | rfl | rfl | rfl | rfl | rfl | rfl | rfl | rfl <;> rfl
  have hcv2 : IntKind.i64.wrap (n : Int) = (n : Int) := IntWalk.i64_in _ (by omega)
  obtain ⟨i0, hi, hz0, hz1, hz2⟩ := info_parts infoI
  have hsz : (Try.prog.info? 2).map (·.size) = some 1 := by rw [hi]; simp [hz1]
  have start : ∀ {w1 : World}, w1.ownsRow w.heap.size 2 1 (.slice (some ⟨w.heap.size, 0, none⟩) n n) n (madeCells (Value.int .i64 0).cells (n * 1)).toList → Own 2 w1 w.heap.size (ints (bare 0 ++ List.replicate (n - 0) 0)) := fun h => by
    have := Own.of_row h
    rw [ints_made] at this
    simpa [bare] using this
  have one : ∀ (q : Nat) (w1 : World), w1.cell? ⟨q, 0, none⟩ = some (.int .i64 (-1)) → ∀ j v, (ints (bare 1))[j]? = some v → w1.cell? ((⟨q, 0, none⟩ : Addr).add j) = some v := fun q w1 h j v hj => by
    cases j with
    | zero => simp [ints, bare] at hj; subst hj; exact h
    | succ j => simp [ints, bare] at hj
  have hd1 : decide ((n : Int) < 0) = false := by simp
  have hd2 : decide (9223372036854775807 < (n : Int)) = false := by simp; omega
  have hl1 : (ints (bare 1)).length = Nat.min 1 n := by
    show _ = min 1 n
    rw [ints_len, bare_len]
    omega
  have hl2 : 0 + (ints (bare 1)).length ≤ (ints (bare 0 ++ List.replicate (n - 0) 0)).length := by
    rw [ints_len, ints_len, bare_len, List.length_append, bare_len, List.length_replicate]
    omega
  go_enter Try.func22, Try.ntmps22
  go_upto_region 7 with (first | (go_at_call 32; refine (hmul _).mono ?_; rintro e w' ⟨rfl, rfl⟩) | (at_make; refine wpList_make_full _ rfl (.tmp 29) (.tmp 29) 22 rfl w.heap.size 2 i0 (.int .i64 0) 1 Try.underlying22 hi hz0 hz1 .i64 .i64 _ _ n rfl rfl rfl rfl (by rw [hz2]; omega) (by unfold maxLen; omega) (Nat.le_refl _) ?_; intro w1 hown hgrow; have ho := start hown; have hb1 : Below w.heap.size w w1 := (Below.refl _ _).grown hgrow (Nat.le_refl _) (by simp); have hq1 := (hb1.cell (p := ⟨q, 0, none⟩) hql).trans hq))
  go_wp2_with (refine wpList_copy_splice rfl (.tmp 31) (.tmp 32) 22 22 rfl 2 Try.underlying22 hsz (some ⟨w.heap.size, 0, none⟩) (some ⟨q, 0, none⟩) n n 1 c rfl rfl w.heap.size 0 (ints (bare 0 ++ List.replicate (n - 0) 0)) 2 ho (ints (bare 1)) hl1 (fun _ => ⟨rfl, _, rfl, one q w1 hq1⟩) hl2 (ints_ones _) w.heap.size w hb1 (Nat.le_refl _) ?_; intro w2 hg2 hb2)
  have ho2 : Own 2 w2 w.heap.size (ints (bare 1 ++ List.replicate (n - 1) 0)) := by
    have e := bare_splice (n := n) (m := 0) 1 (by omega)
    rw [Nat.zero_add] at e
    rw [← e]
    exact hg2.out
  clear ho hb1 hq1 hown hgrow hg2
  generalize hG : w.heap.size = G at *
  go_loopw [8] (fun t wr => ∃ m : Nat, 1 ≤ m ∧ m ≤ n ∧ t = .int .i64 (m : Int) ∧ Own 2 wr G (ints (bare m ++ List.replicate (n - m) 0)) ∧ Below G w wr) (fun t _ => n - (intOf t).toNat)
  case atStart => exact ⟨1, by omega, by omega, by simp [ints, bare], ho2, hb2⟩
  case round =>
    obtain ⟨m, hm1, hm2, rfl, ho, hb⟩ := hrel
    clear ho2 hb2
    by_cases hlt : m < n
    · obtain ⟨k, hk⟩ : ∃ k, k = min m (n - m) := ⟨_, rfl⟩
      have hk1 : 1 ≤ k := by omega
      have hk2 : m + k ≤ n := by omega
      have e1 : (ints (bare k)).length = Nat.min m (n - m) := by
        show _ = min m (n - m)
        rw [ints_len, bare_len]; exact hk
      have e2 : m + (ints (bare k)).length ≤ (ints (bare m ++ List.replicate (n - m) 0)).length := by
        rw [ints_len, ints_len, bare_len, List.length_append, bare_len, List.length_replicate]; omega
      have e3 : ∀ j v, (ints (bare k))[j]? = some v → wr.drew.cell? ((⟨G, 0, none⟩ : Addr).add j) = some v := fun j v hj => by
        have hjk : j < k := by
          rcases Nat.lt_or_ge j k with h | h
          · exact h
          · rw [List.getElem?_eq_none (by rw [ints_len, bare_len]; exact h)] at hj; cases hj
        have ea : (⟨G, 0, none⟩ : Addr).add j = ⟨G, j, none⟩ := by unfold Addr.add; split <;> simp_all
        rw [ea]
        show wr.cell? _ = _
        refine ho.at ?_
        rw [ints_app, List.getElem?_append_left (by rw [ints_len, bare_len]; omega)]
        rw [ints_get (by rw [bare_len]; exact hjk), bare_get hjk] at hj
        rw [ints_get (by rw [bare_len]; omega), bare_get (by omega)]
        exact hj
      have hnm : ¬ n = m := by omega
      have hlen : (ints (bare k)).length = k := by rw [ints_len, bare_len]
      have hw : IntKind.i64.wrap ((m : Int) + (k : Int)) = ((m + k : Nat) : Int) := by rw [IntWalk.i64_in _ (by omega)]; simp
      have hs := bare_splice (n := n) (m := m) k hk2
      go_wp2
      refine region_till (fun _ => True) 100 (by kernel_rfl) ?_
      refine anyTill.take0 (i := 0) (v := .int .i64 (m : Int)) rfl (by kernel_rfl) (by kernel_rfl) (by kernel_rfl) (by kernel_rfl) (fun _ _ _ h => h) (fun _ => trivial) (by rfl) (by intro w; go_simp) ?_
      try simp only [Act.put, List.setIfInBounds_toArray, List.set_cons_zero, List.set_cons_succ]
      refine anyTill.take0 (i := 1) (v := .slice (some ⟨G, 0, none⟩) n n) rfl (by kernel_rfl) (by kernel_rfl) (by kernel_rfl) (by kernel_rfl) (fun _ _ _ h => h) (fun _ => trivial) (by rfl) (by intro w; go_simp) ?_
      try simp only [Act.put, List.setIfInBounds_toArray, List.set_cons_zero, List.set_cons_succ]
      refine anyTill.take0 (i := 2) (v := .int .i64 (m : Int)) rfl (by kernel_rfl) (by kernel_rfl) (by kernel_rfl) (by kernel_rfl) (fun _ _ _ h => h) (fun _ => trivial) (by rfl) (by intro w; go_simp) ?_
      try simp only [Act.put, List.setIfInBounds_toArray, List.set_cons_zero, List.set_cons_succ]
      refine anyTill.take0 (i := 3) (v := .slice (some ⟨G, m, none⟩) (n - m) (n - m)) rfl (by kernel_rfl) (by kernel_rfl) (by kernel_rfl) (by kernel_rfl) (fun _ _ _ h => h) (fun _ => trivial) (by rfl) (by intro w; go_simp) ?_
      try simp only [Act.put, List.setIfInBounds_toArray, List.set_cons_zero, List.set_cons_succ]
      refine anyTill.take0 (i := 4) (v := .slice (some ⟨G, 0, none⟩) n n) rfl (by kernel_rfl) (by kernel_rfl) (by kernel_rfl) (by kernel_rfl) (fun _ _ _ h => h) (fun _ => trivial) (by rfl) (by intro w; go_simp) ?_
      try simp only [Act.put, List.setIfInBounds_toArray, List.set_cons_zero, List.set_cons_succ]
      refine anyTill.take0 (i := 5) (v := .int .i64 (m : Int)) rfl (by kernel_rfl) (by kernel_rfl) (by kernel_rfl) (by kernel_rfl) (fun _ _ _ h => h) (fun _ => trivial) (by rfl) (by intro w; go_simp) ?_
      try simp only [Act.put, List.setIfInBounds_toArray, List.set_cons_zero, List.set_cons_succ]
      refine anyTill.take0 (i := 6) (v := .slice (some ⟨G, 0, none⟩) m n) rfl (by kernel_rfl) (by kernel_rfl) (by kernel_rfl) (by kernel_rfl) (fun _ _ _ h => h) (fun _ => trivial) (by rfl) (by intro w; go_simp) ?_
      try simp only [Act.put, List.setIfInBounds_toArray, List.set_cons_zero, List.set_cons_succ]
      refine anyTill.ready (rs := [7]) (by kernel_rfl) (by simp) ?_
      refine ReadyTill.cons rfl (fun K hK => ?_) ReadyTill.nil
      refine step_copy_splice rfl (.tmp 41) (.tmp 44) 22 22 (by rfl) 2 Try.underlying22 hsz (some ⟨G, m, none⟩) (some ⟨G, 0, none⟩) (n - m) (n - m) m n (by simp [Act.eval]) (by simp [Act.eval]) G m (ints (bare m ++ List.replicate (n - m) 0)) 2 ho (ints (bare k)) e1 (fun _ => ⟨rfl, _, rfl, e3⟩) e2 (ints_ones _) G w (below_drewN hb 1) (by omega) ?_
      intro w4 hg4 hb4
      rw [hlen]
      refine hK _ _ (fun _ => trivial) ?_
      clear hK K hk
      try simp only [Act.put, List.setIfInBounds_toArray, List.set_cons_zero, List.set_cons_succ]
      refine anyTill.take0 (i := 8) (v := .int .i64 ((m + k : Nat) : Int)) rfl (by kernel_rfl) (by kernel_rfl) (by kernel_rfl) (by kernel_rfl) (fun _ _ _ h => h) (fun _ => trivial) (by rfl) (by intro w; go_simp) ?_
      try simp only [Act.put, List.setIfInBounds_toArray, List.set_cons_zero, List.set_cons_succ]
      refine anyTill.ready (rs := [9]) (by kernel_rfl) (by simp) ?_
      refine ReadyTill.cons rfl (fun K hK => ?_) ReadyTill.nil
      go_simp
      refine hK _ _ (fun _ => trivial) ?_
      clear hK K
      try simp only [Act.put, List.setIfInBounds_toArray, List.set_cons_zero, List.set_cons_succ]
      refine anyTill.done (by kernel_rfl) ?_ _
      have ho4 : Own 2 w4 G (ints (bare (m + k) ++ List.replicate (n - (m + k)) 0)) := by rw [← hs]; exact hg4.out
      go_wp2
      go_roundw
      case rel => exact ⟨m + k, by omega, by omega, by go_num, ho4, hb4⟩
      case measure => simp [intOf]; omega
    · obtain rfl : m = n := by omega
      go_wp2
      go_ret
      refine ⟨G, rfl, by omega, ?_, hG ▸ hb⟩
      simpa using ho

/-- slices.Clone: a new slice that reads the same. -/
theorem cloneI (a : Option Addr) (len cap : Nat) (xs : List Int) (w : World) (h : InS w a len xs) (hpos : 1 ≤ len) :
    Calls Try.prog 26 #[.slice a len cap] w (fun e w' => ∃ g c rest, e = .returned (.slice (some ⟨g, 0, none⟩) len c) ∧ w.heap.size ≤ g ∧ Own 2 w' g (ints xs ++ rest) ∧ Below w.heap.size w w') := by
  have hl := h.size
  have hm := h.max
  obtain ⟨b, off, _, rfl, hbb, _, _⟩ := h.get (k := 0) (by omega)
  obtain ⟨i0, hi, hz0, hz1, hz2⟩ := info_parts infoI
  have hcells : ∀ j u, (ints xs)[j]? = some u → (w.alloc (.cells #[] 2)).cell? ((⟨b, off, none⟩ : Addr).add j) = some u := fun j u hj => by
    have hjl : j < len := by
      rcases Nat.lt_or_ge j len with h | h
      · exact h
      · rw [List.getElem?_eq_none (by rw [ints_len, hl]; exact h)] at hj; cases hj
    obtain ⟨x, _, hc, hx⟩ := (h.below ((Below.refl _ _).alloc (Nat.le_refl _) (.cells #[] 2))).nth hjl
    have ea : (⟨b, off, none⟩ : Addr).add j = ⟨b, off + j, none⟩ := by unfold Addr.add; split <;> simp_all
    rw [ea, hc]
    rw [ints_get (by omega), hx.out] at hj
    exact hj
  have hrow := row_emptyI w w.heap.size 2 (Nat.le_refl _)
  have hnil : ∀ W, (binOp .eql 22 (.slice (some ⟨b, off, none⟩) len cap) (.slice none 0 0)).run Try.prog W = .ok (.bool false) W := fun W => Lib.run_eql_slice_some_nil W _ _ _ Try.underlying22
  go_enter Try.func26, Try.ntmps26
  go_wp2_with (at_builtin; refine wpList_append_lies _ rfl (.tmp 5) (.tmp 6) 22 rfl w.heap.size 2 i0 (.int .i64 0) 1 8 Try.underlying22 hi hz0 hz1 hz2 rfl (by decide) (.slice (some ⟨w.heap.size, 0, none⟩) 0 0) 0 [] rfl hrow ⟨b, off, none⟩ len cap (ints xs) rfl (by rw [ints_len, hl, Nat.mul_one]) hcells (ints_ones xs) (by omega) (by unfold maxLen; omega) (by omega) (by simp) (w.heap.size + 1) (by simp) ?_; intro q cq w5 hown hgrow hat hlt2)
  go_ret
  have hb5 : Below w.heap.size w w5 := ((Below.refl _ _).alloc (Nat.le_refl _) _).grown hgrow (by simp) fun k hk => by simp [Value.ownBlock] at hk; omega
  obtain ⟨g, c, rest, e, hg, ho⟩ := row_ownI hown (by omega)
  simp only [Value.slice.injEq, Option.some.injEq, Addr.mk.injEq, and_true, true_and] at e
  obtain ⟨rfl, _, rfl⟩ := e
  rw [List.nil_append] at ho
  exact ⟨q, cq, rest, by simp, hg, ho, hb5⟩
end Go.Proofs.Ytpebibhnaopbnaa
