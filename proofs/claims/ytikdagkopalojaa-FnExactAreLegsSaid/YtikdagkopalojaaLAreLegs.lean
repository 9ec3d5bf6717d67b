/- The law FnExactAreLegs answers true at every list: impl.AreLegs and spec.AreLegs answer the same. No condition. -/
import Derived.Test.YtikdagkopalojaaLegs2
import Derived.Deep.RegionWith
namespace Go.Proofs.Ytikdagkopalojaa
open Go.RowKit

set_option maxHeartbeats 2000000 in
theorem lawAreLegs (a : Option Addr) (len cap : Nat) (rs : List Leg) (w : World) (hm : len ≤ 9223372036854775807) (h : len ≤ 1048576 → LeS w a len rs) :
    Calls Try.prog 4 #[.slice a len cap] w (RetL (.bool true) w) := by
  by_cases hlen : len ≤ 1048576
  · have hF := h hlen
    have hzl : rs.length ≤ 1048576 := by rw [hF.size]; exact hlen
    clear h
    go_enter Try.func4, Try.ntmps4
    go_wp2_with fail
    refine (szLegS _ _ _ _ _ (by omega) hm).mono ?_
    rintro e w1 ⟨rfl, rfl⟩
    rw [if_neg (by omega)]
    go_wp2_with fail
    refine (toLegS _ _ _ _ _ hF).mono ?_
    rintro e w2 ⟨g1, rfl, hg1, ho1, hb2⟩
    have hF2 := hF.below hb2
    go_wp2_with fail
    refine (specAreLegs _ _ _ _ _ (LeS.of_own ho1 hzl)).mono ?_
    rintro e w3 ⟨rfl, d, rfl⟩
    have hF3 := hF2.drewN d
    have hB3 := below_drewN hb2 d
    clear hb2 hF2 ho1
    generalize w2.drewN d = w3 at *
    go_wp2_with fail
    refine (toLegS _ _ _ _ _ hF3).mono ?_
    rintro e w4 ⟨g2, rfl, hg2, ho2, hb4⟩
    have hF4 := hF3.below hb4
    have hB4 := hB3.trans (hb4.mono hB3.size)
    clear hb4 hF3 hB3
    go_wp2_with fail
    refine (implAreLegs _ _ _ _ _ (LeS.of_own ho2 hzl)).mono ?_
    rintro e w5 ⟨rfl, hb5⟩
    have hF5 := hF4.below hb5
    have hX5 := (LeS.of_own ho2 hzl).below hb5
    have hB5 := hB4.trans (hb5.mono hB4.size)
    clear hb5 hF4 hB4 ho2
    go_wp2_with fail
    refine (toLegS _ _ _ _ _ hF5).mono ?_
    rintro e w6 ⟨g3, rfl, hg3, ho3, hb6⟩
    have hX6 := hX5.below hb6
    have hB6 := hB5.trans (hb6.mono hB5.size)
    clear hb6 hF5 hX5 hB5
    go_wp2_with fail
    refine (eqLegS _ _ _ _ _ _ _ hX6 (LeS.of_own ho3 hzl)).mono ?_
    rintro e w7 ⟨rfl, hb7⟩
    have hB7 := hB6.trans (hb7.mono hB6.size)
    go_wp2
    go_ret
    exact ⟨rfl, hB7⟩
  · go_enter Try.func4, Try.ntmps4
    go_wp2_with fail
    refine (szLegS _ _ _ _ _ (by omega) hm).mono ?_
    rintro e w1 ⟨rfl, rfl⟩
    rw [if_pos (by omega)]
    go_wp2
    go_ret
    exact ⟨rfl, Below.refl _ _⟩
end Go.Proofs.Ytikdagkopalojaa
