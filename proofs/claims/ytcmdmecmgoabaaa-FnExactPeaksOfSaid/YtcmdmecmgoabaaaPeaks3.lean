/-
  The neighbours of a place: the program's words.
-/
import Derived.Test.YtcmdmecmgoabaaaPeaks2
import Derived.Lib.MinMax
namespace Go.Proofs.Ytcmdmecmgoabaaa
open Go.RowKit Go.Shelf

set_option maxRecDepth 8000 in
set_option maxHeartbeats 4000000 in
theorem neighbours (wide high x y : Int) (a : Option Addr) (len cap : Nat) (i : Nat) (w : World)
    (hw : 2 ≤ wide ∧ wide ≤ 16) (hh : 2 ≤ high ∧ high ≤ 16) (hi : i ≤ 256) (hx : (i : Int).tmod wide = x) (hy : (i : Int).tdiv wide = y) (hxb : 0 ≤ x ∧ x < wide) (hyb : 0 ≤ y ∧ y < high) :
    Calls Try.prog 81 #[GV wide high a len cap, .int .i64 (i : Int)] w (ListI (fun L => ∀ k, k ∈ L ↔ Nb wide high x y i k) w) := by
  obtain ⟨i0, hi0, hz0, hz1, hz2⟩ := info_parts infoI
  have hw0 : wide ≠ 0 := by omega
  have hwz : (wide == 0) = false := by simp; omega
  have hq : IntKind.i64.wrap ((i : Int).tdiv wide) = y := by rw [hy]; exact IntWalk.i64_in _ (by omega)
  have hb0 : ∀ o, Below w.heap.size w (w.alloc o) := fun o => (Below.refl _ _).alloc (Nat.le_refl _) _
  unfold GV
  go_enter Try.func81, Try.ntmps81
  go_wp2
  go_quiet (fail)
  go_wp2
  have hbw := below_drewN (hb0 (.cells #[.int .i64 wide, .int .i64 high, .slice a len cap] 33)) nq
  have c0 : ((w.alloc (.cells #[.int .i64 wide, .int .i64 high, .slice a len cap] 33)).drewN nq).cell? ⟨w.heap.size, 0, none⟩ = some (.int .i64 wide) := by simp
  have c1 : ((w.alloc (.cells #[.int .i64 wide, .int .i64 high, .slice a len cap] 33)).drewN nq).cell? ⟨w.heap.size, 1, none⟩ = some (.int .i64 high) := by simp
  have hpl : w.heap.size < ((w.alloc (.cells #[.int .i64 wide, .int .i64 high, .slice a len cap] 33)).drewN nq).heap.size := by simp
  generalize (w.alloc (.cells #[.int .i64 wide, .int .i64 high, .slice a len cap] 33)).drewN nq = w1 at *
  have hst : Met wide high x y i (min (x - 1) 0) (max (y - 1) 0) [] := Met.start (by omega)
  have cc0 : ∀ wr, Below w1.heap.size w1 wr → wr.cell? ⟨w.heap.size, 0, none⟩ = some (.int .i64 wide) := fun wr hb => (hb.cell (p := ⟨w.heap.size, 0, none⟩) hpl).trans c0
  have cc1 : ∀ wr, Below w1.heap.size w1 wr → wr.cell? ⟨w.heap.size, 1, none⟩ = some (.int .i64 high) := fun wr hb => (hb.cell (p := ⟨w.heap.size, 1, none⟩) hpl).trans c1
  clear c0 c1 hb0
  go_loopw [5, 8] (fun V s wr => ∃ (v : Int) (us : List Int), (max (y - 1) 0 ≤ v ∧ v ≤ min (y + 1) (high - 1) + 1) ∧ s = .int .i64 v ∧ wr.ownsRow w1.heap.size 2 1 V us.length (ints us) ∧ ((us.length : Int) ≤ 3 * (v - (y - 1))) ∧ Met wide high x y i (min (x - 1) 0) v us ∧ Below w1.heap.size w1 wr) (fun _ s _ => (y + 2 - intOf s).toNat)
  case atStart => exact ⟨_, [], by omega, rfl, World.ownsRow_nil _ _ _ _, by simp; omega, hst, Below.refl _ _⟩
  case round =>
    obtain ⟨v, us, hv, rfl, hrow, hlen, hmet, hb⟩ := hrel
    clear hst
    generalize u5 = V at *
    generalize wr = wi at *
    have d0 := cc0 wi hb
    have d1 := cc1 wi hb
    by_cases hlt : v ≤ min (y + 1) (high - 1)
    · obtain ⟨P, hP, hPb, hPw⟩ := rowAt (v := v) (wide := wide) (by omega) hw
      have hltd : decide (v ≤ min (y + 1) (high - 1)) = true := decide_eq_true hlt
      go_wp2
      go_loopw [5, 9, 10] (fun V s _ wr => ∃ (u : Int) (us : List Int), (max (x - 1) 0 ≤ u ∧ u ≤ min (x + 1) (wide - 1) + 1) ∧ s = .int .i64 u ∧ wr.ownsRow w1.heap.size 2 1 V us.length (ints us) ∧ ((us.length : Int) ≤ 3 * (v - (y - 1)) + (u - (x - 1))) ∧ Met wide high x y i u v us ∧ Below w1.heap.size w1 wr) (fun _ s _ _ => (x + 2 - intOf s).toNat)
      case atStart => exact ⟨_, us, by omega, rfl, hrow, by omega, hmet.move (fun a b h1 h2 h3 h4 => by omega), hb⟩
      case round =>
        obtain ⟨u, us, hu, rfl, hrow, hlen, hmet, hb⟩ := hrel
        clear d0 d1
        generalize u5 = V at *
        generalize wr = wk at *
        have d0 := cc0 wk hb
        have d1 := cc1 wk hb
        have hBk := hb.size
        by_cases hltu : u ≤ min (x + 1) (wide - 1)
        · by_cases e3 : P + u = (i : Int)
          · have hps := Lib.hid (hmet.pass (fun h => h.2.2 (by rw [← hP.out]; exact e3)))
            go_wp2
            go_roundw
            case rel => exact ⟨u + 1, us, by omega, by go_num, hrow, by omega, hps.out, hb⟩
            case measure => simp [intOf]; omega
          · have had := Lib.hid (hmet.add (k := P + u) ⟨by omega, by omega⟩ ⟨by omega, by omega⟩ (by omega) (by omega) (by rw [hP.out]) e3)
            go_wp2_with (at_builtin; refine wpList_append_lies _ rfl (.tmp 54) (.tmp 56) 52 rfl w1.heap.size 2 i0 (.int .i64 0) 1 8 Try.underlying52 hi0 hz0 hz1 hz2 rfl (by decide) V us.length (ints us) rfl (hrow.alloc _) ⟨wk.heap.size, 0, none⟩ 1 1 [.int .i64 (P + u)] rfl rfl (World.news_of_block (heap_alloc_new _ _)) (ints_one _) (by omega) (by unfold maxLen; omega) (by omega) (by simp; omega) (wk.heap.size + 1) (by simp) ?_; intro q cq w2 hown hgrow hat hlt2)
            go_roundw
            case rel =>
              refine ⟨u + 1, us ++ [P + u], by omega, by go_num, by simpa [ints] using hown, by simp; omega, had.out, (hb.alloc hBk _).grown hgrow (by simp; omega) fun k hk => ?_⟩
              exact (hrow.lt k hk).1
            case measure => simp [intOf]; omega
        · obtain rfl : u = min (x + 1) (wide - 1) + 1 := by omega
          go_wp2
          go_roundw
          case rel => exact ⟨v + 1, us, by omega, by go_num, hrow, by omega, hmet.move (fun a b h1 h2 h3 h4 => by omega), hb⟩
          case measure => simp [intOf]; omega
    · obtain rfl : v = min (y + 1) (high - 1) + 1 := by omega
      obtain ⟨ar, cr, rfl, hM⟩ := row_mineI hrow (by omega)
      go_wp2
      go_ret
      exact ⟨ar, us, cr, rfl, hM.ins, fun k => (hmet k).trans (Win.congr (fun a b h1 h2 h3 h4 => by simp; omega) k), hbw.trans (hb.mono hbw.size)⟩
end Go.Proofs.Ytcmdmecmgoabaaa
