/- The law FnExactSlopeOfGrid answers true at every grid and every number: impl.SlopeOfGrid and spec.SlopeOfGrid answer the same, and the grid is left as it was. No condition. -/
import Derived.Test.YtcmdmecmgoabaaaSlope3
import Derived.Deep.RegionWith
namespace Go.Proofs.Ytcmdmecmgoabaaa
open Go.RowKit

set_option maxRecDepth 8000 in
set_option maxHeartbeats 4000000 in
theorem lawSlopeOfGrid (wa ha : Int) (a : Option Addr) (len cap : Nat) (xs : List Nat) (i : Int) (w : World) (hm : len ≤ 9223372036854775807) (h : len ≤ 1048576 → FlS w a len xs) (_ : (Lit.int .i64 i).wf = true) :
    Calls Try.prog 9 #[GV wa ha a len cap, .int .i64 i] w (RetB (.bool true) w) := by
  have box1 : ∀ o, Below w.heap.size w (w.alloc o) := fun o => (Below.refl _ _).alloc (Nat.le_refl _) _
  by_cases hlen : len ≤ 1048576
  · have hF := h hlen
    have hxl : xs.length ≤ 1048576 := by rw [hF.len]; exact hlen
    clear h
    have ci := fun (W : World) a c (h1 : FlS W a xs.length xs) => implSlopeOfGrid wa ha a xs.length c xs i W h1
    have cs := fun (W : World) a c (h1 : FlS W a xs.length xs) => specSlopeOfGrid wa ha a xs.length c xs i W h1
    unfold RetC at ci cs
    generalize orZ (okSl wa ha xs i) (slopeX wa xs i.toNat) = X at *
    generalize orZ (okSl wa ha xs i) (slopeY wa ha xs i.toNat) = Y at *
    generalize okSl wa ha xs i = ok at *
    unfold GV at cs ci
    unfold GV
    go_enter Try.func9, Try.ntmps9
    go_wp2_with fail
    refine (szGrid _ _ _ _ _ _ _ (by omega) hm).mono ?_
    rintro e w1 ⟨rfl, hb1⟩
    rw [if_neg (by omega)]
    have hA1 := (Lies.new (wide := wa) (high := ha) (cap := cap) 30 hF).next hb1
    have hW1 : Below w.heap.size w w1 := (box1 _).trans (hb1.mono (by simp))
    clear hb1
    obtain ⟨c0, c1, c2⟩ := hA1.at'
    go_wp2_with fail
    refine (toGrid wa ha a len cap xs _ hA1.fl).mono ?_
    rintro e w2 ⟨g2, rfl, hg2, ho2, hb2⟩
    have hA2 := hA1.next hb2
    have hW2 := hW1.trans (hb2.mono hW1.size)
    clear c0 c1 c2 hA1 hW1 hb2 hg2
    unfold GV
    go_wp2_with fail
    refine (cs _ _ _ (FlS.of_own ho2 hxl)).mono ?_
    rintro e w3 ⟨r, q, rfl, hr, hq, hb3⟩
    have hA3 := hA2.next hb3
    have hW3 := hW2.trans (hb3.mono hW2.size)
    clear hA2 hW2 ho2 hb3
    obtain ⟨c0, c1, c2⟩ := hA3.at'
    go_wp2_with fail
    refine (toGrid wa ha a len cap xs _ hA3.fl).mono ?_
    rintro e w4 ⟨g4, rfl, hg4, ho4, hb4⟩
    have hA4 := hA3.next hb4
    have hW4 := hW3.trans (hb4.mono hW3.size)
    clear c0 c1 c2 hA3 hW3 hb4 hg4
    unfold GV
    have hX5 := Lies.new (wide := wa) (high := ha) (cap := xs.length) 33 (FlS.of_own ho4 hxl)
    have hb5 : Below w4.heap.size w4 (w4.alloc (.cells #[.int .i64 wa, .int .i64 ha, .slice (some ⟨g4, 0, none⟩) xs.length xs.length] 33)) := (Below.refl _ _).alloc (Nat.le_refl _) _
    have hA5 := hA4.next hb5
    have hW5 := hW4.trans (hb5.mono hW4.size)
    go_wp2_with fail
    refine (ci _ _ _ hX5.fl).mono ?_
    rintro e w6 ⟨r', q', rfl, hr', hq', hb6⟩
    have hA6 := hA5.next hb6
    have hX6 := hX5.next hb6
    have hW6 := hW5.trans (hb6.mono hW5.size)
    generalize w4.heap.size = p8 at *
    clear hA4 hW4 hX5 hA5 hW5 hb5 hb6 ho4
    have er : cl .f32 r' = cl .f32 r := hr'.trans hr.symm
    have eq : cl .f32 q' = cl .f32 q := hq'.trans hq.symm
    clear hr hq hr' hq'
    go_wp2_with (first
      | (have k1 := hu1.symm; refine wpList_widC rfl rfl Try.underlying44 Try.underlying48 rfl ?_; intro u2 v2 d2 hu2 hv2)
      | (refine wpList_widC rfl rfl Try.underlying44 Try.underlying48 rfl ?_; intro u1 v1 d1 hu1 hv1))
    refine (sameComplexT _ _ _ _ (by rw [hu1, hu2, er]) (by rw [hv1, hv2, eq]) _).mono ?_
    rintro e w7 ⟨rfl, d3, rfl⟩
    clear hu1 hv1 hu2 hv2 er eq k1
    obtain ⟨c0, c1, c2⟩ := hA6.at'
    obtain ⟨x0, x1, x2⟩ := hX6.at'
    go_wp2
    go_region_with (first | (go_at_call 19; refine (toGrid wa ha a len cap xs _ (hA6.fl.drewN _)).mono ?_; rintro e w8 ⟨g8, rfl, hg8, ho8, hb8⟩; have hX8 := hX6.next (below_of_drewN hb8); obtain ⟨x0, x1, x2⟩ := hX8.at') | (go_at_call 21; refine (eqGrid _ _ _ _ _ _ _ _ _ _ (hX8.fl) (FlS.of_own ho8 hxl) (Same.refl _)).mono ?_; rintro e w9 ⟨rfl, hb9⟩))
    all_goals
      go_wp2
      go_ret
      have hb10 := (below_of_drewN hb8).trans (hb9.mono hb8.size)
      exact ⟨rfl, hW6.trans (hb10.mono hW6.size)⟩
  · unfold GV
    go_enter Try.func9, Try.ntmps9
    go_wp2_with fail
    refine (szGrid _ _ _ _ _ _ _ (by omega) hm).mono ?_
    rintro e w1 ⟨rfl, hb1⟩
    rw [if_pos (by omega)]
    go_wp2
    go_ret
    exact ⟨rfl, (box1 _).trans (hb1.mono (by simp))⟩
end Go.Proofs.Ytcmdmecmgoabaaa
