/-
  Whether a colour is free, and the specification's search.
-/
import Derived.Test.YtpebibhnaopbnaaPairs
namespace Go.Proofs.Ytpebibhnaopbnaa
open Go.RowKit

def FreeTo (ps cs : List Int) (i col : Int) (k : Nat) : Prop := k % 2 = 0 ∧ freeB (nbTo ps (k / 2) i) cs col = true
theorem hit_at {ps : List Int} {k : Nat} (hk : k % 2 = 0) {x y : Int} (hx : ps.getD k 0 = x) (hy : ps.getD (k + 1) 0 = y) (i : Int) : hitOf ps (k / 2) i = if x = i then [y] else if y = i then [x] else [] := by
  unfold hitOf pA pB
  rw [show 2 * (k / 2) = k by omega, hx, hy]
theorem FreeTo.step {ps cs : List Int} {i col : Int} {k : Nat} (h : FreeTo ps cs i col k) {x y : Int} (hx : Hid (ps.getD k 0 = x)) (hy : Hid (ps.getD (k + 1) 0 = y))
    (h1 : x = i → G cs y ≠ col) (h2 : x ≠ i → y = i → G cs x ≠ col) : FreeTo ps cs i col (k + 2) := by
  obtain ⟨he, hf⟩ := h
  refine ⟨by omega, ?_⟩
  rw [show (k + 2) / 2 = k / 2 + 1 by omega, nbTo_succ, hit_at he hx.out hy.out]
  unfold freeB at *
  rw [List.all_append, hf]
  split
  · simp [h1 (by assumption)]
  · split
    · simp [h2 (by assumption) (by assumption)]
    · simp
theorem FreeTo.no {ps cs : List Int} {i col : Int} {k : Nat} (h : FreeTo ps cs i col k) (hk : k + 1 < ps.length) {x y : Int} (hx : Hid (ps.getD k 0 = x)) (hy : Hid (ps.getD (k + 1) 0 = y))
    (h1 : (x = i ∧ G cs y = col) ∨ (x ≠ i ∧ y = i ∧ G cs x = col)) : freeB (nb ps i) cs col = false := by
  have he := h.1
  have hh := hit_at he hx.out hy.out i
  unfold freeB
  rw [List.all_eq_false]
  rcases h1 with ⟨e, hc⟩ | ⟨e, e2, hc⟩
  · rw [if_pos e] at hh
    exact ⟨y, mem_nb.2 ⟨k / 2, by omega, by rw [hh]; simp⟩, by simp [hc]⟩
  · rw [if_neg e, if_pos e2] at hh
    exact ⟨x, mem_nb.2 ⟨k / 2, by omega, by rw [hh]; simp⟩, by simp [hc]⟩
theorem FreeTo.full {ps cs : List Int} {i col : Int} {k : Nat} (h : FreeTo ps cs i col k) (h1 : k ≤ ps.length) (h2 : ps.length ≤ k) : freeB (nb ps i) cs col = true := by
  obtain rfl : k = ps.length := by omega
  exact h.2

set_option maxHeartbeats 2000000 in
theorem l04Free (n : Nat) (ca pa : Option Addr) (cn cc len pc : Nat) (cs ps : List Int) (i col : Int) (w : World) (hp : pairsB (n : Int) ps = true) (hc : InS w ca cn cs) (hcn : cs.length = n) (h : InS w pa len ps) :
    Calls Try.prog 28 #[.slice ca cn cc, .slice pa len pc, .int .i64 i, .int .i64 col] w (fun e w' => e = .returned (.bool (freeB (nb ps i) cs col)) ∧ w = w') := by
  have hm := h.max
  have hl := h.size
  have hcl := hc.size
  go_enter Try.func28, Try.ntmps28
  go_wp2
  go_loopw [9] (fun r wr => ∃ k : Nat, k ≤ len ∧ r = .int .i64 (k : Int) ∧ w = wr ∧ Hid (FreeTo ps cs i col k)) (fun r _ => len - (intOf r).toNat)
  case atStart => exact ⟨0, Nat.zero_le _, rfl, rfl, ⟨rfl, rfl⟩⟩
  case round =>
    obtain ⟨k, hk, rfl, rfl, hok⟩ := hrel
    by_cases hlt : k < len
    · have hk2 := hok.out.1
      have hev := (pairs_len hp).2
      have hlt2 : k + 1 < len := by omega
      obtain ⟨b, off, x, rfl, hbb, c0, hx⟩ := h.get hlt
      obtain ⟨y, _, c1, hy⟩ := h.nth hlt2
      have hw1 : IntKind.i64.wrap ((k : Int) + 1) = ((k + 1 : Nat) : Int) := by rw [IntWalk.i64_in _ (by omega)]; simp
      have hr := pairs_at hp (j := k / 2) (by omega)
      unfold pA pB at hr
      rw [show 2 * (k / 2) = k by omega, hx.out, hy.out] at hr
      obtain ⟨hxr, hyr, hxy⟩ := hr
      have hstep := fun e1 e2 => hok.out.step hx hy e1 e2
      have hno := fun e => hok.out.no (by rw [hl]; exact hlt2) hx hy e
      obtain ⟨xn, rfl⟩ : ∃ xn : Nat, x = (xn : Int) := ⟨x.toNat, by omega⟩
      obtain ⟨yn, rfl⟩ : ∃ yn : Nat, y = (yn : Int) := ⟨y.toNat, by omega⟩
      have hxc : xn < cn := by omega
      have hyc : yn < cn := by omega
      obtain ⟨bc, offc, cx, rfl, hbc, d0, hcx⟩ := hc.get hxc
      obtain ⟨cy, _, d1, hcy⟩ := hc.nth hyc
      rw [G_nat, hcy.out, G_nat, hcx.out] at hstep hno
      clear hx hy hcx hcy hk2 hev
      have arms : ((xn : Int) = i ∧ cy = col) ∨ ((xn : Int) = i ∧ cy ≠ col) ∨ ((xn : Int) ≠ i ∧ (yn : Int) = i ∧ cx = col) ∨ ((xn : Int) ≠ i ∧ (yn : Int) = i ∧ cx ≠ col) ∨ ((xn : Int) ≠ i ∧ (yn : Int) ≠ i) := by
        by_cases e1 : (xn : Int) = i <;> by_cases e2 : (yn : Int) = i <;> by_cases e3 : cx = col <;> by_cases e4 : cy = col <;> simp [e1, e2, e3, e4]
      rcases arms with ⟨rfl, rfl⟩ | ⟨rfl, e⟩ | ⟨e1, rfl, rfl⟩ | ⟨e1, rfl, e⟩ | ⟨e1, e2⟩
      · have hf := Lib.hid (hno (.inl ⟨rfl, rfl⟩))
        clear hstep hno hok
        go_wp2
        go_ret
        exact ⟨by rw [hf.out]; rfl, rfl⟩
      · have hnext := Lib.hid (hstep (fun _ => e) (fun h => absurd rfl h))
        have hne : (yn : Int) ≠ xn := fun e => hxy e.symm
        clear hstep hno hok
        go_wp2
        go_roundw
        case rel => exact ⟨k + 2, by omega, by go_num, trivial, hnext⟩
        case measure => simp [intOf]; omega
      · have hf := Lib.hid (hno (.inr ⟨e1, rfl, rfl⟩))
        clear hstep hno hok
        go_wp2
        go_ret
        exact ⟨by rw [hf.out]; rfl, rfl⟩
      · have hnext := Lib.hid (hstep (fun h => absurd h e1) (fun _ _ => e))
        clear hstep hno hok
        go_wp2
        go_roundw
        case rel => exact ⟨k + 2, by omega, by go_num, trivial, hnext⟩
        case measure => simp [intOf]; omega
      · have hnext := Lib.hid (hstep (fun h => absurd h e1) (fun _ h => absurd h e2))
        clear hstep hno hok
        go_wp2
        go_roundw
        case rel => exact ⟨k + 2, by omega, by go_num, trivial, hnext⟩
        case measure => simp [intOf]; omega
    · have hfull := hok.out.full (by omega) (by omega)
      go_wp2
      go_ret
      exact ⟨by rw [hfull]; rfl, rfl⟩
end Go.Proofs.Ytpebibhnaopbnaa
