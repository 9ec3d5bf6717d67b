/- The law FnExactSameGrid answers true at every two grids: impl.SameGrid and spec.SameGrid answer the same, and both grids are left as they were. No condition. -/
import Derived.Test.YtcmdmecmgoabaaaSame2
import Derived.Deep.RegionWith
import Derived.Deep.Cut
import Derived.Deep.DeepCutAuto
namespace Go.Proofs.Ytcmdmecmgoabaaa
open Go.RowKit

set_option maxHeartbeats 4000000 in
theorem lawSameGrid (wa ha : Int) (a : Option Addr) (len cap : Nat) (xs : List Nat) (wb hb : Int) (a' : Option Addr) (len' cap' : Nat) (ys : List Nat) (w : World) (hm : len ≤ 9223372036854775807) (h : len ≤ 1048576 → FlS w a len xs) (hm' : len' ≤ 9223372036854775807) (h' : len' ≤ 1048576 → FlS w a' len' ys) :
    Calls Try.prog 5 #[GV wa ha a len cap, GV wb hb a' len' cap'] w (RetB (.bool true) w) := by
  have box1 : ∀ o, Below w.heap.size w (w.alloc o) := fun o => (Below.refl _ _).alloc (Nat.le_refl _) _
  have box2 : ∀ o o', Below w.heap.size w ((w.alloc o).alloc o') := fun o o' => (box1 o).alloc (by simp) _
  by_cases hlen : len ≤ 1048576
  · by_cases hlen' : (len : Int) + len' ≤ 1048576
    · have hF := h hlen
      have hF' := h' (by omega)
      have hxl : xs.length ≤ 1048576 := by rw [hF.len]; exact hlen
      have hyl : ys.length ≤ 1048576 := by rw [hF'.len]; omega
      clear h h'
      unfold GV
      go_enter Try.func5, Try.ntmps5
      go_wp2_with fail
      refine (szGrid _ _ _ _ _ _ _ (by omega) hm).mono ?_
      rintro e w1 ⟨rfl, hb1⟩
      rw [if_neg (by omega)]
      have hA0 := (Lies.new (wide := wa) (high := ha) (cap := cap) 30 hF).next ((Below.refl _ _).alloc (Nat.le_refl _) (.cells #[.int .i64 wb, .int .i64 hb, .slice a' len' cap'] 30))
      have hB0 := Lies.new (wide := wb) (high := hb) (cap := cap') 30 (hF'.below (box1 (.cells #[.int .i64 wa, .int .i64 ha, .slice a len cap] 30)))
      have hb1' := hb1.mono (Nat.le_refl _)
      have hA1 := hA0.next hb1
      have hB1 := hB0.next hb1
      simp only [World.size_alloc] at hA1 hB1
      have hW1 : Below w.heap.size w w1 := (box2 _ _).trans (hb1.mono (by simp; omega))
      clear hb1 hb1' hA0 hB0 hF hF'
      obtain ⟨c0, c1, c2⟩ := hA1.at'
      obtain ⟨d0, d1, d2⟩ := hB1.at'
      go_wp2_with fail
      refine (szGrid _ _ _ _ _ _ _ (by omega) hm').mono ?_
      rintro e w2 ⟨rfl, hb2⟩
      rw [if_neg (by omega)]
      have hA2 := hA1.next hb2
      have hB2 := hB1.next hb2
      have hW2 := hW1.trans (hb2.mono hW1.size)
      clear hb2 hA1 hB1 hW1 c0 c1 c2 d0 d1 d2
      obtain ⟨c0, c1, c2⟩ := hA2.at'
      obtain ⟨d0, d1, d2⟩ := hB2.at'
      go_wp2
      have ci := fun (W : World) a a' c c' (h1 : FlS W a xs.length xs) (h2 : FlS W a' ys.length ys) => implSameGrid wa ha wb hb a a' xs.length ys.length c c' xs ys W h1 h2
      have cs := fun (W : World) a a' c c' (h1 : FlS W a xs.length xs) (h2 : FlS W a' ys.length ys) => specSameGrid wa ha wb hb a a' xs.length ys.length c c' xs ys W h1 h2
      generalize sameB wa ha wb hb xs ys = ok at *
      unfold GV at cs ci
      go_cut [6] (fun v wx => v = .bool ok ∧ Lies wx w.heap.size wa ha a len cap xs ∧ Lies wx (w.heap.size + 1) wb hb a' len' cap' ys ∧ Below w.heap.size w wx)
      case first =>
        go_region_with (first
          | (go_at_call 22; refine (cs _ _ _ _ _ (FlS.of_own (ho3.below hb4) hxl) (FlS.of_own ho4 hyl)).mono ?_; rintro e w5 ⟨rfl, hb5⟩)
          | (go_at_call 19; refine (toGrid wb hb a' len' cap' ys _ hB3.fl).mono ?_; rintro e w4 ⟨g4, rfl, hg4, ho4, hb4⟩)
          | (go_at_call 19; refine (toGrid wa ha a len cap xs _ (hA2.fl.drewN _)).mono ?_; rintro e w3 ⟨g3, rfl, hg3, ho3, hb3⟩; have hB3 := hB2.next (below_of_drewN hb3); obtain ⟨e0, e1, e2⟩ := hB3.at'))
        all_goals
          go_wp2
          go_meet
          have hA5 := ((hA2.next (below_of_drewN hb3)).next hb4).next hb5
          have hB5 := (hB3.next hb4).next hb5
          have hW5 := hW2.trans ((((below_of_drewN hb3).trans (hb4.mono (below_of_drewN hb3).size)).trans (hb5.mono (Nat.le_trans (below_of_drewN hb3).size hb4.size))).mono hW2.size)
          exact ⟨rfl, hA5, hB5, hW5⟩
      case rest =>
        obtain ⟨rfl, hA5, hB5, hW5⟩ := hcut
        clear hA2 hB2 hW2 c0 c1 c2 d0 d1 d2 cs
        obtain ⟨c0, c1, c2⟩ := hA5.at'
        go_wp2_with fail
        refine (toGrid _ _ _ _ _ _ _ hA5.fl).mono ?_
        rintro e w6 ⟨g6, rfl, hg6, ho6, hb6⟩
        have hA6 := hA5.next hb6
        have hB6 := hB5.next hb6
        have hW6 := hW5.trans (hb6.mono hW5.size)
        clear hA5 hB5 hW5 c0 c1 c2 hb6
        unfold GV
        obtain ⟨d0, d1, d2⟩ := hB6.at'
        have q1 := hB6.lt
        have q2 : w.heap.size + 1 ≠ w6.heap.size := by omega
        have hX6 := Lies.new (wide := wa) (high := ha) (cap := xs.length) 33 (FlS.of_own ho6 hxl)
        have hA7 := hA6.next ((Below.refl _ _).alloc (Nat.le_refl _) (.cells #[.int .i64 wa, .int .i64 ha, .slice (some ⟨g6, 0, none⟩) xs.length xs.length] 33))
        have hB7 := hB6.next ((Below.refl _ _).alloc (Nat.le_refl _) (.cells #[.int .i64 wa, .int .i64 ha, .slice (some ⟨g6, 0, none⟩) xs.length xs.length] 33))
        have hW7 := hW6.alloc hW6.size (.cells #[.int .i64 wa, .int .i64 ha, .slice (some ⟨g6, 0, none⟩) xs.length xs.length] 33)
        have hsz : w6.heap.size < (w6.alloc (.cells #[.int .i64 wa, .int .i64 ha, .slice (some ⟨g6, 0, none⟩) xs.length xs.length] 33)).heap.size := by simp
        go_wp2_with fail
        refine (toGrid _ _ _ _ _ _ _ hB7.fl).mono ?_
        rintro e w8 ⟨g8, rfl, hg8, ho8, hb8⟩
        have hA8 := hA7.next hb8
        have hB8 := hB7.next hb8
        have hX8 := hX6.next hb8
        have hW8 := hW7.trans (hb8.mono hW7.size)
        clear q1 q2
        generalize w6.heap.size = px at *
        clear hA6 hB6 hA7 hB7 hX6 hW6 hW7 d0 d1 d2 hb8 hsz ho6
        unfold GV
        have hY8 := Lies.new (wide := wb) (high := hb) (cap := ys.length) 33 (FlS.of_own ho8 hyl)
        have hb9 : ∀ o, Below w8.heap.size w8 (w8.alloc o) := fun o => (Below.refl _ _).alloc (Nat.le_refl _) o
        have hA9 := hA8.next (hb9 (.cells #[.int .i64 wb, .int .i64 hb, .slice (some ⟨g8, 0, none⟩) ys.length ys.length] 33))
        have hB9 := hB8.next (hb9 (.cells #[.int .i64 wb, .int .i64 hb, .slice (some ⟨g8, 0, none⟩) ys.length ys.length] 33))
        have hX9 := hX8.next (hb9 (.cells #[.int .i64 wb, .int .i64 hb, .slice (some ⟨g8, 0, none⟩) ys.length ys.length] 33))
        have hW9 := hW8.alloc hW8.size (.cells #[.int .i64 wb, .int .i64 hb, .slice (some ⟨g8, 0, none⟩) ys.length ys.length] 33)
        obtain ⟨x0, x1, x2⟩ := hX8.at'
        have q1 := hX8.lt
        have q2 : px ≠ w8.heap.size := by omega
        go_wp2_with fail
        refine (ci _ _ _ _ _ hX9.fl hY8.fl).mono ?_
        rintro e w10 ⟨rfl, hb10⟩
        have hA10 := hA9.next hb10
        have hB10 := hB9.next hb10
        have hX10 := hX9.next hb10
        have hY10 := hY8.next hb10
        have hW10 := hW9.trans (hb10.mono hW9.size)
        clear q1 q2
        generalize w8.heap.size = py at *
        clear hA8 hB8 hX8 hA9 hB9 hX9 hY8 hW8 hW9 hb9 hb10 x0 x1 x2 ho8
        obtain ⟨x0, x1, x2⟩ := hX10.at'
        obtain ⟨y0, y1, y2⟩ := hY10.at'
        obtain ⟨c0, c1, c2⟩ := hA10.at'
        obtain ⟨d0, d1, d2⟩ := hB10.at'
        go_wp2
        go_cut [39] (fun v wx => v = .bool false ∧ Lies wx (w.heap.size + 1) wb hb a' len' cap' ys ∧ Lies wx py wb hb (some ⟨g8, 0, none⟩) ys.length ys.length ys ∧ Below w.heap.size w wx)
        case first =>
          go_region_with (first | (go_at_call 19; refine (toGrid wa ha a len cap xs _ (hA10.fl.drewN _)).mono ?_; rintro e w11 ⟨g11, rfl, hg11, ho11, hb11⟩; have hX11 := hX10.next (below_of_drewN hb11); obtain ⟨x0, x1, x2⟩ := hX11.at') | (go_at_call 21; refine (eqGrid _ _ _ _ _ _ _ _ _ _ (hX11.fl) (FlS.of_own ho11 hxl) (Same.refl _)).mono ?_; rintro e w12 ⟨rfl, hb12⟩))
          all_goals
            go_wp2
            go_meet
            have hb13 := (below_of_drewN hb11).trans (hb12.mono hb11.size)
            exact ⟨rfl, hB10.next hb13, hY10.next hb13, hW10.trans (hb13.mono hW10.size)⟩
        case rest =>
          obtain ⟨rfl, hB13, hY13, hW13⟩ := hcut
          clear x0 x1 x2 y0 y1 y2 c0 c1 c2 d0 d1 d2 hA10 hB10 hX10 hY10 hW10
          obtain ⟨y0, y1, y2⟩ := hY13.at'
          obtain ⟨d0, d1, d2⟩ := hB13.at'
          go_wp2
          go_region_with (first | (go_at_call 19; refine (toGrid wb hb a' len' cap' ys _ (hB13.fl.drewN _)).mono ?_; rintro e w14 ⟨g14, rfl, hg14, ho14, hb14⟩; have hY14 := hY13.next (below_of_drewN hb14); obtain ⟨x0, x1, x2⟩ := hY14.at') | (go_at_call 21; refine (eqGrid _ _ _ _ _ _ _ _ _ _ (hY14.fl) (FlS.of_own ho14 hyl) (Same.refl _)).mono ?_; rintro e w15 ⟨rfl, hb15⟩))
          all_goals
            go_wp2
            go_ret
            have hb16 := (below_of_drewN hb14).trans (hb15.mono hb14.size)
            exact ⟨rfl, hW13.trans (hb16.mono hW13.size)⟩
    · unfold GV
      go_enter Try.func5, Try.ntmps5
      go_wp2_with fail
      refine (szGrid _ _ _ _ _ _ _ (by omega) hm).mono ?_
      rintro e w1 ⟨rfl, hb1⟩
      rw [if_neg (by omega)]
      have hW1 : Below w.heap.size w w1 := (box2 _ _).trans (hb1.mono (by simp; omega))
      have d0 : w1.cell? ⟨w.heap.size + 1, 0, none⟩ = some (.int .i64 wb) := (hb1.cell (p := ⟨w.heap.size + 1, 0, none⟩) (by simp)).trans (by simp)
      have d1 : w1.cell? ⟨w.heap.size + 1, 1, none⟩ = some (.int .i64 hb) := (hb1.cell (p := ⟨w.heap.size + 1, 1, none⟩) (by simp)).trans (by simp)
      have d2 : w1.cell? ⟨w.heap.size + 1, 2, none⟩ = some (.slice a' len' cap') := (hb1.cell (p := ⟨w.heap.size + 1, 2, none⟩) (by simp)).trans (by simp)
      clear hb1
      go_wp2_with fail
      refine (szGrid _ _ _ _ _ _ _ (by omega) hm').mono ?_
      rintro e w2 ⟨rfl, hb2⟩
      rw [if_pos (by omega)]
      go_wp2
      go_ret
      exact ⟨rfl, hW1.trans (hb2.mono hW1.size)⟩
  · unfold GV
    go_enter Try.func5, Try.ntmps5
    go_wp2_with fail
    refine (szGrid _ _ _ _ _ _ _ (by omega) hm).mono ?_
    rintro e w1 ⟨rfl, hb1⟩
    rw [if_pos (by omega)]
    go_wp2
    go_ret
    exact ⟨rfl, (box2 _ _).trans (hb1.mono (by simp; omega))⟩
end Go.Proofs.Ytcmdmecmgoabaaa
