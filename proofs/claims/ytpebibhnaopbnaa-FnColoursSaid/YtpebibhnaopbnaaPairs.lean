/-
  Whether a list has pairs: the specification's words and the program's.
-/
import Derived.Test.YtpebibhnaopbnaaCol
import Derived.Deep.RegionWith
namespace Go.Proofs.Ytpebibhnaopbnaa
open Go.RowKit

theorem InS.size {w : World} {a : Option Addr} {len : Nat} {xs : List Int} (h : InS w a len xs) : xs.length = len := h.1
theorem InS.max {w : World} {a : Option Addr} {len : Nat} {xs : List Int} (h : InS w a len xs) : len ≤ 1048576 := h.2.1
theorem InS.nth {w : World} {b off len : Nat} {xs : List Int} (h : InS w (some ⟨b, off, none⟩) len xs) {k : Nat} (hk : k < len) : ∃ x, b < w.heap.size ∧ w.cell? ⟨b, off + k, none⟩ = some (.int .i64 x) ∧ Hid (xs.getD k 0 = x) := by
  obtain ⟨b', off', x, e, hb, hc, hz⟩ := h.get hk
  simp at e
  obtain ⟨rfl, rfl⟩ := e
  exact ⟨x, hb, hc, hz⟩
theorem InS.drewN {w : World} {a : Option Addr} {len : Nat} {xs : List Int} (h : InS w a len xs) (n : Nat) : InS (w.drewN n) a len xs := h.below (below_drewN (Below.refl _ _) n)

/-- The first j pairs are such. -/
def OkTo (n : Int) (ps : List Int) (i : Nat) : Prop := i % 2 = 0 ∧ ∀ j, j < i / 2 → okPair n ps j = true
theorem OkTo.step {n : Int} {ps : List Int} {i : Nat} (h : OkTo n ps i) {x y : Int} (hx : Hid (ps.getD i 0 = x)) (hy : Hid (ps.getD (i + 1) 0 = y)) (hxy : inB x 0 (n - 1) = true ∧ inB y 0 (n - 1) = true ∧ x ≠ y) : OkTo n ps (i + 2) := by
  obtain ⟨h1, h2⟩ := h
  refine ⟨by omega, fun j hj => ?_⟩
  by_cases e : j < i / 2
  · exact h2 j e
  · obtain rfl : j = i / 2 := by omega
    unfold okPair pA pB
    rw [show 2 * (i / 2) = i by omega, hx.out, hy.out, hxy.1, hxy.2.1]
    simpa using hxy.2.2
theorem OkTo.no {n : Int} {ps : List Int} {i : Nat} (h : OkTo n ps i) (hi : i + 1 < ps.length) {x y : Int} (hx : Hid (ps.getD i 0 = x)) (hy : Hid (ps.getD (i + 1) 0 = y)) (hxy : inB x 0 (n - 1) = false ∨ inB y 0 (n - 1) = false ∨ x = y) : pairsB n ps = false := by
  have : okPair n ps (i / 2) = false := by
    have h1 := h.1
    unfold okPair pA pB
    rw [show 2 * (i / 2) = i by omega, hx.out, hy.out]
    rcases hxy with e | e | e
    · rw [e]; rfl
    · rw [e]; simp
    · rw [e]; simp
  unfold pairsB
  rw [Bool.and_eq_false_iff]
  right
  rw [List.all_eq_false]
  have h1 := h.1
  exact ⟨i / 2, by simp; omega, by rw [this]; simp⟩
theorem OkTo.full {n : Int} {ps : List Int} {i : Nat} (h : OkTo n ps i) (hi : ps.length ≤ i) (h2 : ps.length % 2 = 0) (h3 : ps.length ≤ 2000) : pairsB n ps = true := by
  unfold pairsB
  simp only [Bool.and_eq_true, decide_eq_true_eq, List.all_eq_true, List.mem_range]
  exact ⟨⟨h2, h3⟩, fun j hj => h.2 j (by omega)⟩

theorem tmod2 (len : Nat) : (len : Int).tmod 2 = ((len % 2 : Nat) : Int) := by
  rw [Int.tmod_eq_emod_of_nonneg (by omega)]
  omega

set_option maxHeartbeats 2000000 in
theorem l04Pairs (n : Int) (hn : 1 ≤ n ∧ n ≤ 32) (a : Option Addr) (len cap : Nat) (ps : List Int) (w : World) (h : InS w a len ps) :
    Calls Try.prog 17 #[.int .i64 n, .slice a len cap] w (RetD (.bool (pairsB n ps)) w) := by
  have hm := h.max
  have hl := Lib.hid h.size
  have ht := tmod2 len
  have hw : IntKind.i64.wrap (n - 1) = n - 1 := IntWalk.i64_in _ (by omega)
  by_cases he : len % 2 = 0
  · rw [he] at ht
    by_cases h3 : len ≤ 2000
    · go_enter Try.func17, Try.ntmps17
      go_wp2
      go_loopw [5] (fun i wr => ∃ k : Nat, k ≤ len ∧ i = .int .i64 (k : Int) ∧ Drew w wr ∧ Hid (OkTo n ps k)) (fun i _ => len - (intOf i).toNat)
      case atStart => exact ⟨0, Nat.zero_le _, rfl, Drew.refl _, ⟨rfl, fun j hj => by simp at hj⟩⟩
      case round =>
        obtain ⟨k, hk, rfl, hd, hok⟩ := hrel
        replace h := h.below (hd.below _)
        clear ht
        by_cases hlt : k < len
        · have hk2 := hok.out.1
          have hlt2 : k + 1 < len := by omega
          obtain ⟨b, off, x, rfl, hbb, c0, hx⟩ := h.get hlt
          obtain ⟨y, _, c1, hy⟩ := h.nth hlt2
          have hw1 : IntKind.i64.wrap ((k : Int) + 1) = ((k + 1 : Nat) : Int) := by rw [IntWalk.i64_in _ (by omega)]; simp
          have cx := inS x 0 (n - 1)
          have cy := inS y 0 (n - 1)
          have hstep := fun e1 e2 e3 => hok.out.step hx hy ⟨e1, e2, e3⟩
          have hno := fun e => hok.out.no (by rw [h.size]; exact hlt2) hx hy e
          generalize inB x 0 (n - 1) = b1 at *
          generalize inB y 0 (n - 1) = b2 at *
          generalize pairsB n ps = res at *
          have arms : b1 = false ∨ (b1 = true ∧ b2 = false) ∨ (b1 = true ∧ b2 = true ∧ x = y) ∨ (b1 = true ∧ b2 = true ∧ x ≠ y) := by
            cases b1 <;> cases b2 <;> simp <;> exact Classical.em _
          rcases arms with rfl | ⟨rfl, rfl⟩ | ⟨rfl, rfl, e⟩ | ⟨rfl, rfl, e⟩
          · obtain rfl := hno (.inl rfl)
            clear hstep hno hok
            go_wp2
            go_quiet ((go_at_call 16; first | with_reducible exact q_same (cx _) | with_reducible exact q_same (cy _)))
            go_wp2
            go_ret
            exact ⟨rfl, hd.next _⟩
          · obtain rfl := hno (.inr (.inl rfl))
            clear hstep hno hok
            go_wp2
            go_quiet ((go_at_call 16; first | with_reducible exact q_same (cx _) | with_reducible exact q_same (cy _)))
            go_wp2
            go_ret
            exact ⟨rfl, hd.next _⟩
          · obtain rfl := hno (.inr (.inr e))
            clear hstep hno hok
            subst e
            go_wp2
            go_quiet ((go_at_call 16; first | with_reducible exact q_same (cx _) | with_reducible exact q_same (cy _)))
            go_wp2
            go_ret
            exact ⟨rfl, hd.next _⟩
          · have hnext := Lib.hid (hstep rfl rfl e)
            clear hstep hno hok
            go_wp2
            go_quiet ((go_at_call 16; first | with_reducible exact q_same (cx _) | with_reducible exact q_same (cy _)))
            go_wp2
            go_roundw
            case rel => exact ⟨k + 2, by omega, by go_num, hd.next _, hnext⟩
            case measure => simp [intOf]; omega
        · have hfull := hok.out.full (by rw [h.size]; omega) (by rw [h.size]; exact he) (by rw [h.size]; exact h3)
          go_wp2
          go_ret
          exact ⟨by rw [hfull]; rfl, hd⟩
    · have hres : pairsB n ps = false := by unfold pairsB; rw [hl.out]; simp [h3]
      rw [hres]
      go_enter Try.func17, Try.ntmps17
      go_wp2
      go_ret
      exact ⟨rfl, Drew.refl _⟩
  · have hres : pairsB n ps = false := by unfold pairsB; rw [hl.out]; simp [he]
    rw [hres]
    have he1 : len % 2 = 1 := by omega
    rw [he1] at ht
    go_enter Try.func17, Try.ntmps17
    go_wp2
    go_ret
    exact ⟨rfl, Drew.refl _⟩

set_option maxHeartbeats 2000000 in
theorem arePairs (n : Int) (hn : 1 ≤ n ∧ n ≤ 32) (a : Option Addr) (len cap : Nat) (ps : List Int) (w : World) (h : InS w a len ps) :
    Calls Try.prog 20 #[.int .i64 n, .slice a len cap] w (RetD (.bool (pairsB n ps)) w) := by
  have hm := h.max
  have hl := Lib.hid h.size
  have ht := tmod2 len
  have hw : IntKind.i64.wrap (n - 1) = n - 1 := IntWalk.i64_in _ (by omega)
  by_cases he : len % 2 = 0
  · rw [he] at ht
    by_cases h3 : len ≤ 2000
    · go_enter Try.func20, Try.ntmps20
      go_wp2
      go_loopw [5] (fun i wr => ∃ k : Nat, k ≤ len ∧ i = .int .i64 (k : Int) ∧ Drew w wr ∧ Hid (OkTo n ps k)) (fun i _ => len - (intOf i).toNat)
      case atStart => exact ⟨0, Nat.zero_le _, rfl, Drew.refl _, ⟨rfl, fun j hj => by simp at hj⟩⟩
      case round =>
        obtain ⟨k, hk, rfl, hd, hok⟩ := hrel
        replace h := h.below (hd.below _)
        clear ht
        by_cases hlt : k < len
        · have hk2 := hok.out.1
          have hlt2 : k + 1 < len := by omega
          obtain ⟨b, off, x, rfl, hbb, c0, hx⟩ := h.get hlt
          obtain ⟨y, _, c1, hy⟩ := h.nth hlt2
          have hw1 : IntKind.i64.wrap ((k : Int) + 1) = ((k + 1 : Nat) : Int) := by rw [IntWalk.i64_in _ (by omega)]; simp
          have cx := inI x 0 (n - 1)
          have cy := inI y 0 (n - 1)
          have hstep := fun e1 e2 e3 => hok.out.step hx hy ⟨e1, e2, e3⟩
          have hno := fun e => hok.out.no (by rw [h.size]; exact hlt2) hx hy e
          generalize inB x 0 (n - 1) = b1 at *
          generalize inB y 0 (n - 1) = b2 at *
          generalize pairsB n ps = res at *
          have arms : b1 = false ∨ (b1 = true ∧ b2 = false) ∨ (b1 = true ∧ b2 = true ∧ x = y) ∨ (b1 = true ∧ b2 = true ∧ x ≠ y) := by
            cases b1 <;> cases b2 <;> simp <;> exact Classical.em _
          rcases arms with rfl | ⟨rfl, rfl⟩ | ⟨rfl, rfl, e⟩ | ⟨rfl, rfl, e⟩
          · obtain rfl := hno (.inl rfl)
            clear hstep hno hok
            go_wp2
            go_quiet ((go_at_call 19; first | with_reducible exact q_same (cx _) | with_reducible exact q_same (cy _)))
            go_wp2
            go_ret
            exact ⟨rfl, hd.next _⟩
          · obtain rfl := hno (.inr (.inl rfl))
            clear hstep hno hok
            go_wp2
            go_quiet ((go_at_call 19; first | with_reducible exact q_same (cx _) | with_reducible exact q_same (cy _)))
            go_wp2
            go_ret
            exact ⟨rfl, hd.next _⟩
          · obtain rfl := hno (.inr (.inr e))
            clear hstep hno hok
            subst e
            go_wp2
            go_quiet ((go_at_call 19; first | with_reducible exact q_same (cx _) | with_reducible exact q_same (cy _)))
            go_wp2
            go_ret
            exact ⟨rfl, hd.next _⟩
          · have hnext := Lib.hid (hstep rfl rfl e)
            clear hstep hno hok
            go_wp2
            go_quiet ((go_at_call 19; first | with_reducible exact q_same (cx _) | with_reducible exact q_same (cy _)))
            go_wp2
            go_roundw
            case rel => exact ⟨k + 2, by omega, by go_num, hd.next _, hnext⟩
            case measure => simp [intOf]; omega
        · have hfull := hok.out.full (by rw [h.size]; omega) (by rw [h.size]; exact he) (by rw [h.size]; exact h3)
          go_wp2
          go_ret
          exact ⟨by rw [hfull]; rfl, hd⟩
    · have hres : pairsB n ps = false := by unfold pairsB; rw [hl.out]; simp [h3]
      rw [hres]
      go_enter Try.func20, Try.ntmps20
      go_wp2
      go_ret
      exact ⟨rfl, Drew.refl _⟩
  · have hres : pairsB n ps = false := by unfold pairsB; rw [hl.out]; simp [he]
    rw [hres]
    have he1 : len % 2 = 1 := by omega
    rw [he1] at ht
    go_enter Try.func20, Try.ntmps20
    go_wp2
    go_ret
    exact ⟨rfl, Drew.refl _⟩
end Go.Proofs.Ytpebibhnaopbnaa
