/-
  Rises that go round, and their sum.
-/
import Derived.Test.YtikdagkopalojaaRises4
namespace Go.Proofs.Ytikdagkopalojaa
open Go.RowKit Go.Shelf

abbrev R (rs : List Rise) (k : Nat) : Rise := rs.getD k default
def sumTo (rs : List Rise) (k : Nat) : Int := ((rs.take k).map Rise.s).sum
theorem sumTo_zero (rs : List Rise) : sumTo rs 0 = 0 := rfl
theorem sumTo_step {rs : List Rise} {k : Nat} (hk : k < rs.length) : sumTo rs (k + 1) = sumTo rs k + (R rs k).s := by
  unfold sumTo R
  rw [List.take_succ_eq_append_getElem hk, List.map_append, List.sum_append, getD_at hk]
  simp
theorem ok_of {rs : List Rise} {n : Int} (h : risesB rs n = true) {k : Nat} (hk : k < rs.length) : Rise.ok n (R rs k) = true := by
  unfold risesB at h
  simp only [Bool.and_eq_true, List.all_eq_true] at h
  rw [R, getD_at hk]
  exact h.2 _ (List.getElem_mem hk)
theorem s_of {rs : List Rise} {n : Int} (h : risesB rs n = true) {k : Nat} (hk : k < rs.length) : -10000000 ≤ (R rs k).s ∧ (R rs k).s ≤ 10000000 := by
  have := ok_of h hk
  unfold Rise.ok Rise.plain at this
  simp only [Bool.and_eq_true] at this
  exact of_decide_eq_true this.1.1.1.1
theorem len_of {rs : List Rise} {n : Int} (h : risesB rs n = true) : rs.length ≤ 32 ∧ 1 ≤ n ∧ n ≤ 32 := by
  unfold risesB at h
  simp only [Bool.and_eq_true] at h
  exact ⟨of_decide_eq_true h.1.2, of_decide_eq_true h.1.1⟩
theorem sumTo_le {rs : List Rise} {n : Int} (h : risesB rs n = true) {k : Nat} (hk : k ≤ rs.length) : -(10000000 * (k : Int)) ≤ sumTo rs k ∧ sumTo rs k ≤ 10000000 * k := by
  induction k with
  | zero => simp [sumTo_zero]
  | succ k ih =>
    have := ih (by omega)
    have := s_of h (k := k) (by omega)
    rw [sumTo_step (by omega)]
    omega

/-- One leads to the next, the last to the first. -/
def Linked (rs : List Rise) (k : Nat) : Prop := ∀ j, j < k → (R rs j).t = (R rs (if j + 1 < rs.length then j + 1 else 0)).f
theorem Linked.at {rs : List Rise} {k k2 : Nat} {r r' : Rise} (h2 : (if k + 1 < rs.length then k + 1 else 0) = k2) (hr : rs.getD k default = r) (hr' : rs.getD k2 default = r') :
    (Linked rs k → r.t = r'.f → Linked rs (k + 1)) ∧ (¬ r.t = r'.f → ∀ n, k < n → ¬ Linked rs n) := by
  refine ⟨fun h e j hj => ?_, fun e n hn h => e ?_⟩
  · by_cases hjk : j = k
    · subst hjk
      rw [R, R, h2, hr, hr']
      exact e
    · exact h j (by omega)
  · have := h k hn
    rw [R, R, h2, hr, hr'] at this
    exact this
open Classical in
noncomputable def ringB (rs : List Rise) : Bool := decide (1 ≤ rs.length) && risesB rs 32 && decide (Linked rs rs.length)

theorem l05Sum (a : Option Addr) (len cap : Nat) (n : Int) (rs : List Rise) (w : World) (h : RiS w a len rs) (hv : risesB rs n = true) :
    Calls Try.prog 58 #[.slice a len cap] w (fun e w' => e = .returned (.int .i64 (sumTo rs len)) ∧ w = w') := by
  have hm := h.max
  have hl := h.size
  go_enter Try.func58, Try.ntmps58
  go_wp2
  go_loopw [3, 4, 7] (fun s _ i wr => ∃ (k : Nat) (m : Int), k ≤ len ∧ i = .int .i64 k ∧ s = .int .i64 m ∧ Hid (m = sumTo rs k) ∧ w = wr) (fun _ _ i _ => len - (intOf i).toNat)
  case atStart => exact ⟨0, 0, Nat.zero_le _, rfl, rfl, rfl, rfl⟩
  case round =>
    obtain ⟨k, m, hk, rfl, rfl, hmm, rfl⟩ := hrel
    by_cases hlt : k < len
    · obtain ⟨b, off, r, rfl, hbb, ⟨c0, c1, c2, c3⟩, hzz⟩ := h.get hlt
      have hs := s_of hv (k := k) (by omega)
      have hb := sumTo_le hv (k := k) (by omega)
      have hlen := len_of hv
      have hnext := sumTo_step (rs := rs) (k := k) (by omega)
      rw [← hmm.out] at hb hnext
      have hzz' := hzz.out
      rw [R, hzz'] at hs hnext
      have hw : IntKind.i64.wrap (m + r.s) = m + r.s := IntWalk.i64_in _ (by omega)
      go_wp2
      go_roundw
      case rel => exact ⟨k + 1, _, by omega, by go_num, rfl, hnext.symm, trivial⟩
      case measure => simp [intOf]; omega
    · go_wp2
      go_ret
      obtain rfl : k = len := by omega
      exact ⟨by rw [hmm.out]; rfl, rfl⟩

theorem tmod_last {k len : Nat} (h : k + 1 = len) : ((k : Int) + 1).tmod len = 0 := by
  have e : ((k : Int) + 1) = (len : Int) := by omega
  rw [e]
  exact Int.tmod_self
theorem Drew.nn (w : World) (a b : Nat) : Drew w ((w.drewN a).drewN b) := ⟨a + b, World.drewN_drewN _ _ _⟩
theorem l05Ring (a : Option Addr) (len cap : Nat) (rs : List Rise) (w : World) (h : RiS w a len rs) :
    Calls Try.prog 57 #[.slice a len cap] w (RetD (.bool (ringB rs)) w) := by
  have hm := h.max
  have hl := h.size
  have call := l05Rises a len cap 32 rs w h
  unfold ringB
  rw [hl]
  by_cases h1 : 1 ≤ len
  · cases hv : risesB rs 32 with
    | false =>
      rw [hv] at call
      go_enter Try.func57, Try.ntmps57
      go_wp2_with (go_at_call 40; refine call.mono ?_; rintro e w' ⟨rfl, d, rfl⟩)
      go_ret
      exact ⟨by simp, Drew.n _ _⟩
    | true =>
      rw [hv] at call
      go_enter Try.func57, Try.ntmps57
      go_wp2_with (go_at_call 40; refine call.mono ?_; rintro e w' ⟨rfl, d, rfl⟩)
      go_loopw [4, 16] (fun _ i wr => ∃ k : Nat, k ≤ len ∧ i = .int .i64 k ∧ Drew w wr ∧ Hid (Linked rs k)) (fun _ i _ => len - (intOf i).toNat)
      case atStart => exact ⟨0, Nat.zero_le _, rfl, Drew.n _ _, fun j hj => absurd hj (Nat.not_lt_zero _)⟩
      case round =>
        obtain ⟨k, hk, rfl, ⟨d, rfl⟩, hall⟩ := hrel
        by_cases hlt : k < len
        · by_cases hlt2 : k + 1 < len
          · obtain ⟨b, off, r, rfl, hbb, ⟨c0, c1, c2, c3⟩, hzz⟩ := h.get hlt
            obtain ⟨b', off', r', e', hbb', ⟨d0, d1, d2, d3⟩, hzz'⟩ := h.get hlt2
            obtain ⟨rfl, rfl⟩ : b = b' ∧ off = off' := by simpa using e'
            clear e' c0 c2 c3 d1 d2 d3
            have lk := Lib.hid (Linked.at (rs := rs) (k := k) (k2 := (k + 1)) (by simp [hl]; omega) hzz.out hzz'.out)
            have hd : IntKind.i64.wrap ((k : Int) + 1) = (k : Int) + 1 := IntWalk.i64_in _ (by omega)
            have hr : ((k : Int) + 1).tmod len = (k : Int) + 1 := Int.tmod_eq_of_lt (by omega) (by omega)
            have hz : ((len : Int) == 0) = false := by simp; omega
            have hz' : (len : Int) ≠ 0 := by omega
            have hn : (((k : Int) + 1).toNat) = k + 1 := by omega
            have hp : (0 : Int) ≤ (k : Int) + 1 := by omega
            have hq : (k : Int) + 1 < len := by omega
            by_cases heq : r.t = r'.f
            all_goals
              go_wp2
              go_quiet (fail)
              clear hr hd hz hn
              go_wp2
            · go_roundw
              case rel => exact ⟨k + 1, by omega, by go_num, Drew.n _ _, lk.out.1 hall.out heq⟩
              case measure => simp [intOf]; omega
            · go_ret
              exact ⟨by simp [lk.out.2 heq len hlt], Drew.nn _ _ _⟩
          · obtain ⟨b, off, r, rfl, hbb, ⟨c0, c1, c2, c3⟩, hzz⟩ := h.get hlt
            obtain ⟨b', off', r', e', hbb', ⟨d0, d1, d2, d3⟩, hzz'⟩ := h.get h1
            obtain ⟨rfl, rfl⟩ : b = b' ∧ off = off' := by simpa using e'
            clear e' c0 c2 c3 d1 d2 d3
            have lk := Lib.hid (Linked.at (rs := rs) (k := k) (k2 := 0) (by simp [hl]; omega) hzz.out hzz'.out)
            simp only [Nat.zero_mul, Nat.add_zero] at d0
            have hd : IntKind.i64.wrap ((k : Int) + 1) = (k : Int) + 1 := IntWalk.i64_in _ (by omega)
            have hr : ((k : Int) + 1).tmod len = 0 := tmod_last (by omega)
            have hz : ((len : Int) == 0) = false := by simp; omega
            have hz' : (len : Int) ≠ 0 := by omega
            have hn : (((k : Int) + 1).toNat) = k + 1 := by omega
            have hp : (0 : Int) ≤ (k : Int) + 1 := by omega
            have hq : (0 : Int) < len := by omega
            by_cases heq : r.t = r'.f
            all_goals
              go_wp2
              go_quiet (fail)
              clear hr hd hz hn
              go_wp2
            · go_roundw
              case rel => exact ⟨k + 1, by omega, by go_num, Drew.n _ _, lk.out.1 hall.out heq⟩
              case measure => simp [intOf]; omega
            · go_ret
              exact ⟨by simp [lk.out.2 heq len hlt], Drew.nn _ _ _⟩
        · go_wp2
          go_ret
          obtain rfl : k = len := by omega
          exact ⟨by simp [h1, hall.out], Drew.n _ _⟩
  · go_enter Try.func57, Try.ntmps57
    go_wp2
    go_ret
    exact ⟨by simp [h1], Drew.n _ 0⟩
end Go.Proofs.Ytikdagkopalojaa
