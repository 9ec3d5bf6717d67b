/-
  By how much rises miss: told twice.
-/
import Derived.Test.YtikdagkopalojaaRing
namespace Go.Proofs.Ytikdagkopalojaa
open Go.RowKit Go.Shelf

noncomputable def missI (rs : List Rise) : Int := if ringB rs = true then sumTo rs rs.length else 0
def RetM (rs : List Rise) (w : World) (e : Ending) (w' : World) : Prop := e = .returned (.tuple #[.int .i64 (missI rs), .bool (ringB rs)]) ∧ Below w.heap.size w w'

theorem RetM.no {rs : List Rise} {w w' : World} (e : ringB rs = false) (hb : Below w.heap.size w w') : RetM rs w (.returned (.tuple #[.int .i64 0, .bool false])) w' :=
  ⟨by unfold missI; rw [e]; rfl, hb⟩
theorem RetM.yes {rs : List Rise} {w w' : World} {m : Int} (e : ringB rs = true) (hm : m = sumTo rs rs.length) (hb : Below w.heap.size w w') : RetM rs w (.returned (.tuple #[.int .i64 m, .bool true])) w' :=
  ⟨by unfold missI; rw [e, hm]; rfl, hb⟩

theorem specRiseMiss (a : Option Addr) (len cap : Nat) (rs : List Rise) (w : World) (h : RiS w a len rs) :
    Calls Try.prog 27 #[.slice a len cap] w (RetM rs w) := by
  have call := l05Ring a len cap rs w h
  have hl := h.size
  unfold RetM missI
  cases hv : ringB rs with
  | false =>
    rw [hv] at call
    go_enter Try.func27, Try.ntmps27
    go_wp2_with (go_at_call 57; refine call.mono ?_; rintro e w' ⟨rfl, d, rfl⟩)
    exact bodyPost_ret (by simp [results, Try.results27, go_sem]; rfl) rfl ⟨by simp, below_drewN (Below.refl _ _) _⟩
  | true =>
    rw [hv] at call
    have hr : risesB rs 32 = true := by unfold ringB at hv; simp only [Bool.and_eq_true] at hv; exact hv.1.2
    have sum := fun d => l05Sum a len cap 32 rs (w.drewN d) (h.drewN d) hr
    go_enter Try.func27, Try.ntmps27
    go_wp2_with (first | (go_at_call 57; refine call.mono ?_; rintro e w' ⟨rfl, d, rfl⟩) | (go_at_call 58; refine (sum _).mono ?_; rintro e w' ⟨rfl, rfl⟩))
    exact bodyPost_ret (by simp [results, Try.results27, go_sem]; rfl) rfl ⟨by simp [hl], below_drewN (Below.refl _ _) _⟩

/-- The mark that the rise ahead leads to. -/
def before (rs : List Rise) (k : Nat) : Int := (R rs (if k = 0 then rs.length - 1 else k - 1)).t
def Chained (rs : List Rise) (k : Nat) : Prop := ∀ j, j < k → (R rs j).f = before rs j
theorem chained_iff (rs : List Rise) : Chained rs rs.length ↔ Linked rs rs.length := by
  unfold Chained Linked before
  generalize rs.length = n
  constructor
  · intro h j hj
    by_cases e : j + 1 < n
    · rw [if_pos e, h (j + 1) e, if_neg (by omega)]; rfl
    · rw [if_neg e, h 0 (by omega), if_pos rfl]
      have : n - 1 = j := by omega
      rw [this]
  · intro h j hj
    by_cases e : j = 0
    · subst e
      rw [if_pos rfl, h (n - 1) (by omega), if_neg (by omega)]
    · rw [if_neg e, h (j - 1) (by omega), if_pos (by omega)]
      have : j - 1 + 1 = j := by omega
      rw [this]

theorem implRiseMiss (a : Option Addr) (len cap : Nat) (rs : List Rise) (w : World) (h : RiS w a len rs) :
    Calls Try.prog 28 #[.slice a len cap] w (RetM rs w) := by
  have hm := h.max
  have hl := h.size
  have call := implAreRises a len cap 32 rs w h
  by_cases h1 : len = 0
  · have e : ringB rs = false := by unfold ringB; simp [hl, h1]
    subst h1
    go_enter Try.func28, Try.ntmps28
    go_wp2
    exact bodyPost_ret (by simp [results, Try.results28, go_sem]) rfl (RetM.no e (Below.refl _ _))
  · cases hv : risesB rs 32 with
    | false =>
      have e : ringB rs = false := by unfold ringB; simp [hv]
      rw [hv] at call
      go_enter Try.func28, Try.ntmps28
      go_wp2_with (go_at_call 13; refine call.mono ?_; rintro e w' ⟨rfl, hb⟩)
      exact bodyPost_ret (by simp [results, Try.results28, go_sem]) rfl (RetM.no e hb)
    | true =>
      have er : ringB rs = true ↔ Linked rs rs.length := by unfold ringB; simp [hv]; omega
      rw [hv] at call
      obtain ⟨b, off, r0, rfl, hbb, hck, hzz⟩ := h.get (k := len - 1) (by omega)
      go_enter Try.func28, Try.ntmps28
      go_wp2_with (go_at_call 13; refine call.mono ?_; rintro e w' ⟨rfl, hb⟩; obtain ⟨c0, c1, c2, c3⟩ := hck.below hb hbb)
      go_loopw [4, 5, 7, 25] (fun s t _ i wr => ∃ (k : Nat) (m at' : Int), k ≤ len ∧ i = .int .i64 k ∧ s = .int .i64 m ∧ t = .int .i64 at' ∧ Hid (m = sumTo rs k) ∧ Hid (at' = before rs k) ∧ Hid (Chained rs k) ∧ Below w.heap.size w wr) (fun _ _ _ i _ => len - (intOf i).toNat)
      case atStart => exact ⟨0, 0, r0.t, Nat.zero_le _, rfl, rfl, rfl, rfl, by show _ = before rs 0; unfold before; rw [if_pos rfl, R, hl, hzz.out], fun j hj => absurd hj (Nat.not_lt_zero _), hb⟩
      case round =>
        obtain ⟨k, m, t, hk, rfl, rfl, rfl, hmm, htt, hcc, hb'⟩ := hrel
        clear c0 c1 c2 c3
        by_cases hlt : k < len
        · obtain ⟨b', off', r, e', hbb', hck', hzz'⟩ := h.get hlt
          obtain ⟨rfl, rfl⟩ : b = b' ∧ off = off' := by simpa using e'
          clear e'
          obtain ⟨c0, c1, c2, c3⟩ := hck'.below hb' hbb'
          have hs := s_of hv (k := k) (by omega)
          have hsb := sumTo_le hv (k := k) (by omega)
          have hlen := len_of hv
          have hnext := sumTo_step (rs := rs) (k := k) (by omega)
          rw [← hmm.out] at hsb hnext
          have hzr := hzz'.out
          rw [R, hzr] at hs hnext
          have hw : IntKind.i64.wrap (m + r.s) = m + r.s := IntWalk.i64_in _ (by omega)
          have hnx := Lib.hid hnext
          have hch : Hid ((r.f = t → Chained rs (k + 1)) ∧ (r.f ≠ t → ¬ Linked rs rs.length)) := by
            refine Lib.hid ⟨fun e j hj => ?_, fun e hn => e ?_⟩
            · by_cases hjk : j = k
              · subst hjk; rw [R, hzr, ← htt.out]; exact e
              · exact hcc.out j (by omega)
            · have := (chained_iff rs).2 hn k (by omega)
              rw [R, hzr, ← htt.out] at this
              exact this
          have hbf : Hid (r.t = before rs (k + 1)) := by
            refine Lib.hid ?_
            unfold before
            rw [if_neg (by omega), Nat.add_sub_cancel, R, hzr]
          clear hnext hs hsb hzr
          by_cases heq : r.f = t
          · go_wp2
            go_roundw
            case rel => exact ⟨k + 1, _, _, by omega, by go_num, rfl, rfl, hnx.out.symm, hbf, hch.out.1 heq, hb'.alloc hb'.size _⟩
            case measure => simp [intOf]; omega
          · go_wp2
            have e : ringB rs = false := by rw [← Bool.not_eq_true, er]; exact hch.out.2 heq
            exact bodyPost_ret (by simp [results, Try.results28, go_sem]) rfl (RetM.no e (hb'.alloc hb'.size _))
        · go_wp2
          obtain rfl : k = len := by omega
          have e : ringB rs = true := by rw [er, ← chained_iff, hl]; exact hcc.out
          exact bodyPost_ret (by simp [results, Try.results28, go_sem]; rfl) rfl (RetM.yes e (by rw [hl]; exact hmm.out) hb')
end Go.Proofs.Ytikdagkopalojaa
