/-
  Lists of rises: they are compared; what makes them such, told twice.
-/
import Derived.Test.YtikdagkopalojaaRises
import Derived.Shelf.Abstract
namespace Go.Proofs.Ytikdagkopalojaa
open Go.RowKit Go.Shelf

theorem eqRiseS (a a' : Option Addr) (len cap cap' : Nat) (rs : List Rise) (w : World) (h : RiS w a len rs) (h' : RiS w a' len rs) : Calls Try.prog 14 #[.slice a len cap, .slice a' len cap'] w (RetB (.bool true) w) := by
  have hm := h.max
  go_enter Try.func14, Try.ntmps14
  go_wp2
  go_loopw [5] (fun i wr => ∃ k : Nat, k ≤ len ∧ i = .int .i64 k ∧ Below w.heap.size w wr) (fun i _ => len - (intOf i).toNat)
  case atStart => exact ⟨0, Nat.zero_le _, rfl, Below.refl _ _⟩
  case round =>
    obtain ⟨k, hk, rfl, hb⟩ := hrel
    by_cases hlt : k < len
    · obtain ⟨b, off, r, rfl, hbb, hck, hzz⟩ := h.get hlt
      obtain ⟨b', off', r', rfl, hbb', hck', hzz'⟩ := h'.get hlt
      obtain ⟨c0, c1, c2, c3⟩ := hck.below hb hbb
      obtain ⟨d0, d1, d2, d3⟩ := hck'.below hb hbb'
      obtain rfl : r = r' := hzz.out.symm.trans hzz'.out
      clear hck hck' hzz hzz'
      go_wp2
      go_region_with ((go_at_call 45; refine (eqRise r _).mono ?_; rintro e w2 ⟨rfl, hb2⟩))
      all_goals
        go_wp2
        go_roundw
        case rel => exact ⟨k + 1, by omega, by go_num, hb.trans (by first | exact hb2.mono hb.size | exact (below_of_drewN hb2).mono hb.size)⟩
        case measure => simp [intOf]; omega
    · go_wp2
      go_ret
      exact ⟨rfl, hb⟩

def inB (n lo hi : Int) : Bool := decide (lo ≤ n ∧ n ≤ hi)
/-- A rise such as it is asked. -/
def Rise.plain (r : Rise) : Bool := inB r.s (-10000000) 10000000 && inB r.l 1 10000000 && (r.f != r.t)
def Rise.ok (n : Int) (r : Rise) : Bool := r.plain && inB r.f 0 (n - 1) && inB r.t 0 (n - 1)
def risesB (rs : List Rise) (n : Int) : Bool := inB n 1 32 && decide (rs.length ≤ 32) && rs.all (Rise.ok n)

theorem inSB (n lo hi : Int) (w : World) : Calls Try.prog 53 #[.int .i64 n, .int .i64 lo, .int .i64 hi] w (fun e w' => e = .returned (.bool (inB n lo hi)) ∧ w = w') := inS n lo hi w
theorem inIB (n lo hi : Int) (w : World) : Calls Try.prog 42 #[.int .i64 n, .int .i64 lo, .int .i64 hi] w (fun e w' => e = .returned (.bool (inB n lo hi)) ∧ w = w') := inI n lo hi w

set_option maxHeartbeats 1000000 in
theorem l05Rise (b o : Nat) (r : Rise) (w : World) (h : Four w b o r) : Calls Try.prog 68 #[.pointer (some ⟨b, o, none⟩)] w (RetD (.bool r.plain) w) := by
  obtain ⟨h0, h1, h2, h3⟩ := h
  unfold Rise.plain
  have cs := inSB r.s (-10000000) 10000000
  have cl := inSB r.l 1 10000000
  generalize inB r.s (-10000000) 10000000 = bs at cs ⊢
  generalize inB r.l 1 10000000 = bl at cl ⊢
  generalize r.s = s at *
  generalize r.l = l at *
  cases bs with
  | false =>
    go_enter Try.func68, Try.ntmps68
    go_wp2
    go_quiet ((go_at_call 53; exact q_same (cs _)))
    go_wp2
    go_ret
    exact ⟨rfl, Drew.n _ _⟩
  | true => cases bl with
    | false =>
      go_enter Try.func68, Try.ntmps68
      go_wp2
      go_quiet ((go_at_call 53; first | with_reducible exact q_same (cs _) | with_reducible exact q_same (cl _)))
      go_wp2
      go_ret
      exact ⟨rfl, Drew.n _ _⟩
    | true =>
      go_enter Try.func68, Try.ntmps68
      go_wp2
      go_quiet ((go_at_call 53; first | with_reducible exact q_same (cs _) | with_reducible exact q_same (cl _)))
      go_wp2
      go_ret
      exact ⟨by simp, Drew.n _ _⟩
end Go.Proofs.Ytikdagkopalojaa
