/-
  Whether rises are such: the specification's words and the program's.
-/
import Derived.Test.YtikdagkopalojaaRises2
namespace Go.Proofs.Ytikdagkopalojaa
open Go.RowKit Go.Shelf

/-- So far all elements meet p. -/
def AllTo (p : Rise → Bool) (rs : List Rise) (k : Nat) : Prop := (rs.take k).all p = true
theorem AllTo.step {p : Rise → Bool} {rs : List Rise} {k : Nat} (hk : k < rs.length) (h : AllTo p rs k) {r : Rise} (hz : Hid (rs.getD k default = r)) (h2 : p r = true) : AllTo p rs (k + 1) := by
  unfold AllTo at *
  rw [List.take_succ_eq_append_getElem hk, List.all_append, h]
  rw [← hz.out, getD_at hk] at h2
  simp [h2]
theorem AllTo.no {p : Rise → Bool} {rs : List Rise} {k : Nat} (hk : k < rs.length) {r : Rise} (hz : Hid (rs.getD k default = r)) (h2 : p r = false) : rs.all p = false := by
  rw [← hz.out, getD_at hk] at h2
  rw [List.all_eq_false]
  exact ⟨_, List.getElem_mem hk, by simp [h2]⟩
theorem AllTo.full {p : Rise → Bool} {rs : List Rise} {k : Nat} (hk : rs.length ≤ k) (h : AllTo p rs k) : rs.all p = true := by
  unfold AllTo at h
  rw [List.take_of_length_le hk] at h
  exact h

set_option maxHeartbeats 1000000 in
theorem l05Rises (a : Option Addr) (len cap : Nat) (n : Int) (rs : List Rise) (w : World) (h : RiS w a len rs) :
    Calls Try.prog 40 #[.slice a len cap, .int .i64 n] w (RetD (.bool (risesB rs n)) w) := by
  have hm := h.max
  have hl := Lib.hid h.size
  unfold risesB
  have cs := inSB n 1 32
  cases hb : inB n 1 32 with
  | false =>
    rw [hb] at cs
    go_enter Try.func40, Try.ntmps40
    go_wp2_with (go_at_call 53; refine (cs _).mono ?_; rintro e w' ⟨rfl, rfl⟩)
    go_ret
    exact ⟨rfl, Drew.n _ 0⟩
  | true =>
    have hn : 1 ≤ n ∧ n ≤ 32 := of_decide_eq_true hb
    have hw : IntKind.i64.wrap (n - 1) = n - 1 := IntWalk.i64_in _ (by omega)
    rw [hb] at cs
    by_cases hlen : len ≤ 32
    · go_enter Try.func40, Try.ntmps40
      go_wp2_with (go_at_call 53; refine (cs _).mono ?_; rintro e w' ⟨rfl, rfl⟩)
      go_loopw [5, 16] (fun _ i wr => ∃ k : Nat, k ≤ len ∧ i = .int .i64 k ∧ Drew w wr ∧ Hid (AllTo (Rise.ok n) rs k)) (fun _ i _ => len - (intOf i).toNat)
      case atStart => exact ⟨0, Nat.zero_le _, rfl, Drew.refl _, by show AllTo _ _ _; simp [AllTo]⟩
      case round =>
        obtain ⟨k, hk, rfl, ⟨d, rfl⟩, hall⟩ := hrel
        by_cases hlt : k < len
        · obtain ⟨b, off, r, rfl, hbb, hck, hzz⟩ := h.get hlt
          have hck' : ∀ d, Four (w.drewN d) b (off + k * 4) r := fun d => ⟨hck.c0, hck.c1, hck.c2, hck.c3⟩
          have c0 := hck.c0
          have c1 := hck.c1
          have cr := fun d => l05Rise b (off + k * 4) r (w.drewN d) (hck' d)
          have cf := inSB r.f 0 (n - 1)
          have ct := inSB r.t 0 (n - 1)
          have hok : Hid (Rise.ok n r = (r.plain && inB r.f 0 (n - 1) && inB r.t 0 (n - 1))) := Lib.hid rfl
          clear hck hck' cs
          generalize r.plain = b1 at *
          generalize inB r.f 0 (n - 1) = b2 at *
          generalize inB r.t 0 (n - 1) = b3 at *
          cases b1 <;> cases b2 <;> cases b3
          all_goals
            go_wp2_with (first | (go_at_call 68; refine (cr _).mono ?_; rintro e w' ⟨rfl, d, rfl⟩) | (go_at_call 53; (first | (with_reducible refine (cf _).mono ?_) | (with_reducible refine (ct _).mono ?_)); rintro e w' ⟨rfl, rfl⟩))
            first
              | (go_ret
                 refine ⟨?_, Drew.n _ _⟩
                 rw [AllTo.no (by rw [h.size]; exact hlt) hzz hok.out]
                 simp)
              | (go_roundw
                 case rel => exact ⟨k + 1, by omega, by go_num, Drew.n _ _, AllTo.step (by rw [h.size]; exact hlt) hall.out hzz hok.out⟩
                 case measure => simp [intOf]; omega)
        · go_wp2
          go_ret
          refine ⟨?_, Drew.n _ _⟩
          rw [AllTo.full (by rw [h.size]; omega) hall.out]
          simp [hl.out, hlen]
    · go_enter Try.func40, Try.ntmps40
      go_wp2_with (go_at_call 53; refine (cs _).mono ?_; rintro e w' ⟨rfl, rfl⟩)
      go_ret
      exact ⟨by simp [hl.out, hlen], Drew.n _ 0⟩
end Go.Proofs.Ytikdagkopalojaa
