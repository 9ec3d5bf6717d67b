/- The walk of FnExactRoughGrid. -/
import Derived.Test.YtcmdmecmgoabaaaRough
import Derived.Deep.RegionWith
namespace Go.Proofs.Ytcmdmecmgoabaaa
open Go.RowKit
attribute [local go_sem] order_cl cl_zero cl_one cl_two aord_none

set_option maxHeartbeats 4000000 in
theorem lawRoughGrid (wide high : Int) (a : Option Addr) (len cap : Nat) (zs : List Nat) (w : World) (hm : len ≤ 9223372036854775807) (h : len ≤ 1048576 → FlS w a len zs) :
    Calls Try.prog 12 #[GV wide high a len cap] w (RetB (.bool true) w) := by
  by_cases hlen : len ≤ 1048576
  · have hF := h hlen
    have hzl : zs.length ≤ 1048576 := by rw [hF.len]; exact hlen
    clear h
    unfold GV
    go_enter Try.func12, Try.ntmps12
    go_wp2_with fail
    refine (szGrid _ _ _ _ _ _ _ (by omega) hm).mono ?_
    rintro e w1 ⟨rfl, hb1⟩
    rw [if_neg (by omega)]
    have hA := (Lies.new 30 hF).next hb1
    have hB : Below w.heap.size w w1 := ((Below.refl _ _).alloc (Nat.le_refl _) _).trans (hb1.mono (by simp))
    clear hb1
    obtain ⟨c0, c1, c2⟩ := hA.at'
    go_wp2_with fail
    refine (toGrid _ _ _ _ _ _ _ hA.fl).mono ?_
    rintro e w2 ⟨g1, rfl, hg1, ho1, hb2⟩
    have hA2 := hA.next hb2
    have hB2 := hB.trans (hb2.mono hB.size)
    clear hb2 c0 c1 c2 hA hB
    go_wp2_with fail
    refine (specRoughGrid _ _ _ _ _ _ _ (FlS.of_own ho1 hzl)).mono ?_
    rintro e w3 ⟨r0, b0, rfl, rfl, hr0, hb3⟩
    have hA3 := hA2.next hb3
    have hB3 := hB2.trans (hb3.mono hB2.size)
    have HR0 := Lib.hid hr0
    clear hb3 ho1 hA2 hB2 hr0
    obtain ⟨c0, c1, c2⟩ := hA3.at'
    go_wp2_with fail
    refine (toGrid _ _ _ _ _ _ _ hA3.fl).mono ?_
    rintro e w4 ⟨g2, rfl, hg2, ho2, hb4⟩
    have hA4 := hA3.next hb4
    have hB4 := hB3.trans (hb4.mono hB3.size)
    clear hb4 c0 c1 c2 hA3 hB3
    unfold GV
    go_wp2_with fail
    have hX := Lies.new (wide := wide) (high := high) (cap := zs.length) 33 (FlS.of_own ho2 hzl)
    have hA5 := hA4.next ((Below.refl _ _).alloc (Nat.le_refl _) (.cells #[.int .i64 wide, .int .i64 high, .slice (some ⟨g2, 0, none⟩) zs.length zs.length] 33))
    have hB5 := hB4.alloc hB4.size (.cells #[.int .i64 wide, .int .i64 high, .slice (some ⟨g2, 0, none⟩) zs.length zs.length] 33)
    refine (implRoughGrid _ _ _ _ _ _ _ hX.fl).mono ?_
    rintro e w6 ⟨r1, b1, rfl, rfl, hr1, hb6⟩
    have hA6 := hA5.next hb6
    have hX6 := hX.next hb6
    have hB6 := hB5.trans (hb6.mono hB5.size)
    have HR1 := Lib.hid hr1
    clear hb6 hA5 hX hB5 hA4 hB4 ho2 hr1
    cases hb : validB wide high zs && isNum .f32 (roughF zs)
    all_goals
      go_wp2_with (first | (refine wpList_wid rfl rfl Try.underlying22 Try.underlying26 rfl ?_; intro q d hq) | (go_at_call 16; refine (sameFloat _ _ (by simp [*, HR0.out, HR1.out]) _).mono ?_; rintro e w' ⟨rfl, d, rfl⟩))
      have hA7 := hA6.drewN d
      have hX7 := hX6.drewN d
      obtain ⟨c0, c1, c2⟩ := hA6.at'
      obtain ⟨x0, x1, x2⟩ := hX6.at'
      go_region_with (first | (go_at_call 19; refine (toGrid _ _ _ _ _ _ _ (hA6.fl.drewN _)).mono ?_; rintro e w7 ⟨g3, rfl, hg3, ho3, hb7⟩; have hX8 := hX6.next (below_of_drewN hb7); obtain ⟨x0, x1, x2⟩ := hX8.at') | (go_at_call 21; refine (eqGrid _ _ _ _ _ _ _ _ _ _ (hX8.fl) (FlS.of_own ho3 hzl) (Same.refl _)).mono ?_; rintro e w8 ⟨rfl, hb8⟩))
      all_goals
        go_wp2
        go_ret
        have hb9 := (below_of_drewN hb7).trans (hb8.mono hb7.size)
        exact ⟨rfl, hB6.trans (hb9.mono hB6.size)⟩
  · go_enter Try.func12, Try.ntmps12
    unfold GV
    go_wp2_with fail
    refine (szGrid _ _ _ _ _ _ _ (by omega) hm).mono ?_
    rintro e w1 ⟨rfl, hb1⟩
    rw [if_pos (by omega)]
    go_wp2
    go_ret
    exact ⟨rfl, ((Below.refl _ _).alloc (Nat.le_refl _) _).trans (hb1.mono (by simp))⟩
end Go.Proofs.Ytcmdmecmgoabaaa
