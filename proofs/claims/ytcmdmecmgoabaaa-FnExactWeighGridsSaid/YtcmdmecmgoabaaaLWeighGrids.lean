/- The law FnExactWeighGrids answers true at every two grids and every two weights: impl.WeighGrids and spec.WeighGrids answer the same, both grids are left as they were, and what is handed back is new memory at every call. No condition. -/
import Derived.Test.YtcmdmecmgoabaaaWeigh5
import Derived.Deep.RegionHeld3
import Derived.Deep.DrawnRows
import Derived.Deep.Cut
import Derived.Deep.DeepCutAuto
namespace Go.Proofs.Ytcmdmecmgoabaaa
open Go.RowKit
attribute [local go_sem ↓] Go.wp_at_zero Go.wp_at_succ

set_option maxRecDepth 8000 in
set_option maxHeartbeats 8000000 in
theorem lawWeighGrids (wa ha : Int) (a : Option Addr) (len cap : Nat) (xs : List Nat) (wb hb : Int) (a' : Option Addr) (len' cap' : Nat) (ys : List Nat) (x y : Nat) (w : World) (hm : len ≤ 9223372036854775807) (h : len ≤ 1048576 → FlS w a len xs) (hm' : len' ≤ 9223372036854775807) (h' : len' ≤ 1048576 → FlS w a' len' ys) (_ : (Lit.float .f32 x).wf = true) (_ : (Lit.float .f32 y).wf = true) :
    Calls Try.prog 10 #[GV wa ha a len cap, GV wb hb a' len' cap', .float .f32 x, .float .f32 y] w (RetB (.bool true) w) := by
  have box1 : ∀ o, Below w.heap.size w (w.alloc o) := fun o => (Below.refl _ _).alloc (Nat.le_refl _) _
  have box2 : ∀ o o', Below w.heap.size w ((w.alloc o).alloc o') := fun o o' => (box1 o).alloc (by simp) _
  by_cases hlen : len ≤ 1048576
  · by_cases hlen' : (len : Int) + len' ≤ 1048576
    · have hF := h hlen
      have hF' := h' (by omega)
      have hxl : xs.length ≤ 1048576 := by rw [hF.len]; exact hlen
      have hyl : ys.length ≤ 1048576 := by rw [hF'.len]; omega
      have hxy : (xs.length : Int) + ys.length ≤ 1048576 := by rw [hF.len, hF'.len]; exact hlen'
      clear h h'
      have ci := fun (W : World) a a' c c' (h1 : FlS W a xs.length xs) (h2 : FlS W a' ys.length ys) => implWeighGrids wa ha a xs.length c xs wb hb a' ys.length c' ys x y W h1 h2
      have cs := fun (W : World) a a' c c' (h1 : FlS W a xs.length xs) (h2 : FlS W a' ys.length ys) => specWeighGrids wa ha a xs.length c xs wb hb a' ys.length c' ys x y W h1 h2
      unfold NewG at ci cs
      generalize (okW wa ha wb hb xs ys (cl .f32 x) (cl .f32 y) && validB wa ha (weighs (cl .f32 x) (cl .f32 y) xs ys)) = ok at *
      generalize iffI ok wa = X at *
      generalize iffI ok ha = Y at *
      generalize outG ok (weighs (cl .f32 x) (cl .f32 y) xs ys) = out at *
      unfold GV at cs ci
      unfold GV
      go_enter Try.func10, Try.ntmps10
      go_wp2_with fail
      refine (szGrid _ _ _ _ _ _ _ (by omega) hm).mono ?_
      rintro e w1 ⟨rfl, hb1⟩
      rw [if_neg (by omega)]
      have hA0 := (Lies.new (wide := wa) (high := ha) (cap := cap) 30 hF).next ((Below.refl _ _).alloc (Nat.le_refl _) (.cells #[.int .i64 wb, .int .i64 hb, .slice a' len' cap'] 30))
      have hB0 := Lies.new (wide := wb) (high := hb) (cap := cap') 30 (hF'.below (box1 (.cells #[.int .i64 wa, .int .i64 ha, .slice a len cap] 30)))
      have hA1 := hA0.next hb1
      have hB1 := hB0.next hb1
      simp only [World.size_alloc] at hA1 hB1
      have hW1 : Below w.heap.size w w1 := (box2 _ _).trans (hb1.mono (by simp; omega))
      clear hb1 hA0 hB0
      obtain ⟨c0, c1, c2⟩ := hA1.at'
      obtain ⟨d0, d1, d2⟩ := hB1.at'
      go_wp2_with fail
      refine (szGrid _ _ _ _ _ _ _ (by omega) hm').mono ?_
      rintro e w2 ⟨rfl, hb2⟩
      rw [if_neg (by omega)]
      have hA2 := hA1.next hb2
      have hB2 := hB1.next hb2
      have hW2 := hW1.trans (hb2.mono hW1.size)
      clear hb2 hA1 hB1 hW1 c0 c1 c2 d0 d1 d2
      obtain ⟨c0, c1, c2⟩ := hA2.at'
      obtain ⟨d0, d1, d2⟩ := hB2.at'
      have hsz2 := hB2.lt
      go_wp2
      have hD : Below w2.heap.size w2 w2.drew := below_drewN (Below.refl _ _) 1
      have hDa : ∀ o, Below w2.heap.size w2 (w2.drew.alloc o) := fun o => hD.alloc (Nat.le_refl _) o
      have sOf : ∀ W, Below w2.heap.size w2 W → W.cell? ⟨w.heap.size, 0, none⟩ = some (.int .i64 wa) ∧ W.cell? ⟨w.heap.size, 1, none⟩ = some (.int .i64 ha) ∧ W.cell? ⟨w.heap.size, 2, none⟩ = some (.slice a len cap) ∧ W.cell? ⟨w.heap.size + 1, 0, none⟩ = some (.int .i64 wb) ∧ W.cell? ⟨w.heap.size + 1, 1, none⟩ = some (.int .i64 hb) ∧ W.cell? ⟨w.heap.size + 1, 2, none⟩ = some (.slice a' len' cap') := fun W hb => ⟨(hA2.next hb).at'.c0, (hA2.next hb).at'.c1, (hA2.next hb).at'.c2, (hB2.next hb).at'.c0, (hB2.next hb).at'.c1, (hB2.next hb).at'.c2⟩
      have hFA := hA2.fl
      have hFB := hB2.fl
      have q2 : w.heap.size ≠ w2.heap.size := by omega
      have q2' : w.heap.size + 1 ≠ w2.heap.size := by omega
      have r2 : w2.heap.size ≠ w.heap.size := by omega
      have r2' : w2.heap.size ≠ w.heap.size + 1 := by omega
      go_cut [10, 11] (fun u v wx => ∃ aw cw p10, u = .pointer (some ⟨p10, 0, none⟩) ∧ v = .bool ok ∧ Box wx p10 X Y aw out.length cw ∧ MineV 22 w2.heap.size wx aw out.length (fls out) ∧ Below w2.heap.size w2 wx ∧ w2.heap.size ≤ p10 ∧ (out.length ≠ 0 → ∀ g, aw = some ⟨g, 0, none⟩ → p10 ≠ g))
      case first =>
        go_region_held3 (fun W => W.cell? ⟨w.heap.size, 0, none⟩ = some (.int .i64 wa) ∧ W.cell? ⟨w.heap.size, 1, none⟩ = some (.int .i64 ha) ∧ W.cell? ⟨w.heap.size, 2, none⟩ = some (.slice a len cap) ∧ W.cell? ⟨w.heap.size + 1, 0, none⟩ = some (.int .i64 wb) ∧ W.cell? ⟨w.heap.size + 1, 1, none⟩ = some (.int .i64 hb) ∧ W.cell? ⟨w.heap.size + 1, 2, none⟩ = some (.slice a' len' cap'))
          (first | exact sOf _ hD | exact sOf _ (hDa _) | exact sOf _ hB3 | exact sOf _ (hB3.alloc hB3.size _) | exact sOf _ hB4 | exact sOf _ (hB4.alloc hB4.size _) | exact sOf _ hB5 | exact sOf _ (hB5.alloc hB5.size _) | exact sOf _ (((hB5.setCell (Nat.le_refl _) _).setCell (Nat.le_refl _) _).setCell (Nat.le_refl _) _) | exact sOf _ (((hB5.setCell hB3.size _).setCell hB3.size _).setCell hB3.size _) | exact sOf _ (((hB5.setCell hB4.size _).setCell hB4.size _).setCell hB4.size _))
          (first
            | (go_at_call 35; refine (cs _ _ _ _ _ (by first | exact FlS.of_own ho3' hxl | exact FlS.of_own (ho3'.alloc _) hxl) (by first | exact FlS.of_own ho4 hyl | exact FlS.of_own (ho4.alloc _) hyl)).mono ?_; rintro e w5 ⟨aw, cw, rfl, hM5, hb5⟩; have hB5 : Below w2.heap.size w2 w5 := (by first | exact hB4.trans (hb5.mono hB4.size) | exact (hB4.alloc hB4.size _).trans (hb5.mono (Nat.le_trans hB4.size (by simp)))); have hM6 := hM5.mono (B' := w2.heap.size) (by first | exact hB4.size | exact Nat.le_trans hB4.size (by simp)); (first | (have far := older hM5 oP.lt; have oP := oP.below hb5) | (have far := older hM5 (Own.new w4 [.int .i64 0, .int .i64 0, .slice none 0 0] 33).lt; have oP := (Own.new w4 [.int .i64 0, .int .i64 0, .slice none 0 0] 33).below hb5) | skip); (first | (have s0 := oP.at (k := 0) rfl; have s1 := oP.at (k := 1) rfl; have s2 := oP.at (k := 2) rfl; have t0 := oP.free 0; have t1 := oP.free 1; have t2 := oP.free 2) | skip))
            | (go_at_call 19; have z3' := hB3.size; refine (toGrid wb hb a' len' cap' ys _ (hFB.below (by first | exact hB3 | exact hB3.alloc hB3.size _))).mono ?_; rintro e w4 ⟨g4, rfl, hg4, ho4, hb4⟩; have hB4 : Below w2.heap.size w2 w4 := (by first | exact hB3.trans (hb4.mono hB3.size) | exact (hB3.alloc hB3.size _).trans (hb4.mono (Nat.le_trans hB3.size (by simp)))); have ho3' : Own 22 w4 g3 (fls xs) := (by first | exact ho3.below hb4 | exact (ho3.alloc _).below hb4); (first | (have oP := oP.below hb4) | (have oP := (Own.new w3 [.int .i64 0, .int .i64 0, .slice none 0 0] 33).below hb4) | skip))
            | (go_at_call 19; refine (toGrid wa ha a len cap xs _ (hFA.below (by first | exact hD | exact hDa _))).mono ?_; rintro e w3 ⟨g3, rfl, hg3, ho3, hb3⟩; have hB3 : Below w2.heap.size w2 w3 := (by first | exact hD.trans hb3 | exact (hDa _).trans (hb3.mono (by simp))); (first | (have oP : Own 33 w3 w2.heap.size [.int .i64 0, .int .i64 0, .slice none 0 0] := (Own.new w2.drew [.int .i64 0, .int .i64 0, .slice none 0 0] 33).below hb3) | skip)))
        all_goals
          go_wp2
          go_meet
          first
            | (obtain ⟨b1, b2, b3⟩ := box_end' (X := X) (Y := Y) (cw := cw) hB5 hM6; exact ⟨aw, cw, _, rfl, rfl, b1, b2, b3, hB5.size, younger hM6 (Nat.le_refl _)⟩)
            | (obtain ⟨b1, b2, b3⟩ := box_end (X := X) (Y := Y) (cw := cw) hB5 (by first | exact Nat.le_refl _ | exact hB3.size | exact hB4.size) oP hM6 far; exact ⟨aw, cw, _, rfl, rfl, b1, b2, b3, (by first | exact Nat.le_refl _ | exact hB3.size | exact hB4.size), far⟩)
      case rest =>
        obtain ⟨aw, cw, p10, rfl, rfl, hP0, hMW, hbx, hp10, far⟩ := hcut
        have hA3 := hA2.next hbx
        have hB3 := hB2.next hbx
        have hW3 := hW2.trans (hbx.mono hW2.size)
        have hol := hMW.2.1
        have k0 : out.length ≠ 0 → ∀ g, aw = some ⟨g, 0, none⟩ → w.heap.size + 1 < g ∧ g ≠ p10 ∧ g < wc.heap.size := fun hl g e => by
          have k1 := hMW.base hl g e
          have k2 := far hl g e
          have k3 := hMW.old hl g e
          omega
        have k1 : w.heap.size + 1 < p10 := by omega
        have k2 : p10 < wc.heap.size := hP0.lt
        have hMW3 := hMW.mono hW2.size
        clear hA2 hB2 hW2 c0 c1 c2 d0 d1 d2 cs sOf hFA hFB hD hDa hMW far hp10 hbx q2 q2' r2 r2' hsz2
        obtain ⟨c0, c1, c2⟩ := hA3.at'
        go_wp2_with fail
        refine (toGrid _ _ _ _ _ _ _ hA3.fl).mono ?_
        rintro e w6 ⟨g12, rfl, hg6, ho6, hb6⟩
        have j1 : p10 < g12 := by omega
        have j2 : g12 < w6.heap.size := ho6.lt
        have hA6 := hA3.next hb6
        have hB6 := hB3.next hb6
        have hP6 := hP0.next hb6
        have hM6 := hMW3.below hb6
        have hW6 := hW3.trans (hb6.mono hW3.size)
        clear hA3 hB3 hP0 hMW3 hb6 c0 c1 c2
        unfold GV
        obtain ⟨d0, d1, d2⟩ := hB6.at'
        have q1 := hB6.lt
        have q2 : w.heap.size + 1 ≠ w6.heap.size := by omega
        have hX7 := Box.new 33 w6 wa ha (some ⟨g12, 0, none⟩) xs.length xs.length
        have hb7 : Below w6.heap.size w6 (w6.alloc (.cells #[.int .i64 wa, .int .i64 ha, .slice (some ⟨g12, 0, none⟩) xs.length xs.length] 33)) := (Below.refl _ _).alloc (Nat.le_refl _) _
        have hsz7 : (w6.alloc (.cells #[.int .i64 wa, .int .i64 ha, .slice (some ⟨g12, 0, none⟩) xs.length xs.length] 33)).heap.size = w6.heap.size + 1 := by simp
        go_wp2_with fail
        refine (toGrid _ _ _ _ _ _ _ (hB6.next hb7).fl).mono ?_
        rintro e w8 ⟨g13, rfl, hg8, ho8, hb8⟩
        have j3 : w6.heap.size < g13 := by omega
        have j4 : g13 < w8.heap.size := ho8.lt
        have hb8' := hb7.trans (hb8.mono hb7.size)
        have hA8 := hA6.next hb8'
        have hB8 := hB6.next hb8'
        have hP8 := hP6.next hb8'
        have hM8 := hM6.below hb8'
        have hX8 := hX7.next hb8
        have ox8 := ho6.below hb8'
        have hW8 := hW6.trans (hb8'.mono hW6.size)
        clear hA6 hB6 hP6 hM6 hX7 ho6 hW6 hb7 hb8 hb8' d0 d1 d2 q1 q2 hsz7
        generalize w6.heap.size = p12 at *
        unfold GV
        obtain ⟨x0, x1, x2⟩ := hX8.at'
        have q1 := hX8.lt
        have q2 : p12 ≠ w8.heap.size := by omega
        have hY9 := Box.new 33 w8 wb hb (some ⟨g13, 0, none⟩) ys.length ys.length
        have hb9 : Below w8.heap.size w8 (w8.alloc (.cells #[.int .i64 wb, .int .i64 hb, .slice (some ⟨g13, 0, none⟩) ys.length ys.length] 33)) := (Below.refl _ _).alloc (Nat.le_refl _) _
        have hsz9 : (w8.alloc (.cells #[.int .i64 wb, .int .i64 hb, .slice (some ⟨g13, 0, none⟩) ys.length ys.length] 33)).heap.size = w8.heap.size + 1 := by simp
        go_wp2_with fail
        refine (ci _ _ _ _ _ (FlS.of_own (ox8.below hb9) hxl) (FlS.of_own (ho8.below hb9) hyl)).mono ?_
        rintro e w10 ⟨ag, cg, rfl, hG10, hb10⟩
        have k3 : out.length ≠ 0 → ∀ g, ag = some ⟨g, 0, none⟩ → w8.heap.size < g ∧ g < w10.heap.size := fun hl g e => by
          have k1 := hG10.base hl g e
          have k3 := hG10.old hl g e
          omega
        have hb10' := hb9.trans (hb10.mono hb9.size)
        have hA10 := hA8.next hb10'
        have hB10 := hB8.next hb10'
        have hP10 := hP8.next hb10'
        have hM10 := hM8.below hb10'
        have hX10 := hX8.next hb10'
        have hY10 := hY9.next hb10
        have ox10 := ox8.below hb10'
        have oy10 := ho8.below hb10'
        have hW10 := hW8.trans (hb10'.mono hW8.size)
        have j5 := hY10.lt
        have hG10 := hG10.mono (Nat.le_trans hW8.size hb9.size)
        clear hA8 hB8 hP8 hM8 hX8 hY9 ox8 ho8 hW8 hb9 hb10 hb10' x0 x1 x2 q1 q2 hsz9
        generalize w8.heap.size = p13 at *
        obtain ⟨x0, x1, x2⟩ := hP10.at'
        have q1 := hP10.lt
        have q2 : p10 ≠ w10.heap.size := by omega
        have hZ11 := Box.new 33 w10 X Y ag out.length cg
        have hb11 : Below w10.heap.size w10 (w10.alloc (.cells #[.int .i64 X, .int .i64 Y, .slice ag out.length cg] 33)) := (Below.refl _ _).alloc (Nat.le_refl _) _
        go_wp2_with fail
        have hG11 := hG10.below hb11
        have hM11 := hM10.below hb11
        refine (eqGrid _ _ _ _ _ _ _ _ _ _ hG11.fls hM11.fls (Same.refl _)).mono ?_
        rintro e w12 ⟨rfl, hb12⟩
        have hb12' := hb11.trans (hb12.mono hb11.size)
        have ox12 := ox10.below hb12'
        have oy12 := oy10.below hb12'
        have m1 : MineV 22 w.heap.size w12 (some ⟨g12, 0, none⟩) xs.length (fls xs) := ⟨fls_len xs, hxl, .inr ⟨g12, [], rfl, by omega, by simpa using ox12⟩⟩
        have m2 : MineV 22 w.heap.size w12 (some ⟨g13, 0, none⟩) ys.length (fls ys) := ⟨fls_len ys, hyl, .inr ⟨g13, [], rfl, by omega, by simpa using oy12⟩⟩
        have hA10' : Box w10 w.heap.size wa ha a len cap := ⟨hA10.lt, hA10.at'⟩
        have hB10' : Box w10 (w.heap.size + 1) wb hb a' len' cap' := ⟨hB10.lt, hB10.at'⟩
        have hg12 : Wg w w12 wa ha a len cap wb hb a' len' cap' X Y aw cw ag cg out p10 g12 p12 g13 p13 w10.heap.size xs.length ys.length (fls xs) (fls ys) (fls out) :=
          ⟨hA10'.next hb12', hB10'.next hb12', hP10.next hb12', hX10.next hb12', hY10.next hb12', hZ11.next hb12, hM10.below hb12', m1, m2, hG10.below hb12', hW10.trans (hb12'.mono hW10.size), fun hl g e => by have := k0 hl g e; omega, k1, j1, j2, j3, j4, j5, k3⟩
        generalize w10.heap.size = p14 at *
        clear hA10 hB10 hA10' hB10' hP10 hM10 hX10 hY10 ox10 oy10 hW10 hG10 hG11 hM11 hZ11 hb11 hb12 hb12' ox12 oy12 m1 m2 k0 k1 k2 k3 j1 j2 j3 j4 j5 hg6 hg8 x0 x1 x2 q1 q2
        obtain ⟨x0, x1, x2⟩ := hg12.P1.at'
        obtain ⟨c0, c1, c2⟩ := hg12.A.at'
        have hFA := hF.below hg12.bel
        go_wp2
        go_cut [66] (fun v wx => v = .bool false ∧ Below w12.heap.size w12 wx)
        case first =>
          go_region_with (first | (go_at_call 19; refine (toGrid wa ha a len cap xs _ (hFA.drewN _)).mono ?_; rintro e w13 ⟨g13', rfl, hg13', ho13, hb13⟩; have hg13 := hg12.next (below_of_drewN hb13); obtain ⟨x0, x1, x2⟩ := hg13.P1.at') | (go_at_call 21; refine (eqGrid _ _ _ _ _ _ _ _ _ _ hg13.m1.fls (FlS.of_own ho13 hxl) (Same.refl _)).mono ?_; rintro e w14 ⟨rfl, hb14⟩))
          all_goals
            go_wp2
            go_meet
            exact ⟨rfl, (below_of_drewN hb13).trans (hb14.mono hb13.size)⟩
        case rest =>
        obtain ⟨rfl, hbx⟩ := hcut
        have hg14 := hg12.next hbx
        clear hg12 hbx x0 x1 x2 c0 c1 c2 hFA
        obtain ⟨x0, x1, x2⟩ := hg14.P2.at'
        obtain ⟨c0, c1, c2⟩ := hg14.B.at'
        have hFB := hF'.below hg14.bel
        go_wp2
        generalize wc = w14 at *
        go_cut [71] (fun v wx => v = .bool false ∧ Below w14.heap.size w14 wx)
        case first =>
          go_region_with (first | (go_at_call 19; refine (toGrid wb hb a' len' cap' ys _ (hFB.drewN _)).mono ?_; rintro e w15 ⟨g15', rfl, hg15', ho15, hb15⟩; have hg15 := hg14.next (below_of_drewN hb15); obtain ⟨x0, x1, x2⟩ := hg15.P2.at') | (go_at_call 21; refine (eqGrid _ _ _ _ _ _ _ _ _ _ hg15.m2.fls (FlS.of_own ho15 hyl) (Same.refl _)).mono ?_; rintro e w16 ⟨rfl, hb16⟩))
          all_goals
            go_wp2
            go_meet
            exact ⟨rfl, (below_of_drewN hb15).trans (hb16.mono hb15.size)⟩
        case rest =>
        obtain ⟨rfl, hbx⟩ := hcut
        have hg16 := hg14.next hbx
        clear hg14 hbx x0 x1 x2 c0 c1 c2 hFB
        obtain ⟨x0, x1, x2⟩ := hg16.P1.at'
        go_wp2_with fail
        refine (markGridB w.heap.size wa ha _ _ _ _ 1 (by omega) _ hg16.m1).mono ?_
        rintro e w17 ⟨w17', hb17, rfl, hm17, ho17⟩
        have hg17 := (hg16.next hb17).only1 ho17 hm17
        clear hg16 hb17 hm17 ho17 x0 x1 x2
        obtain ⟨x0, x1, x2⟩ := hg17.P2.at'
        go_wp2_with fail
        refine (markGridB w.heap.size wb hb _ _ _ _ (1 + xs.length) (by omega) _ hg17.m2).mono ?_
        rintro e w18 ⟨w18', hb18, rfl, hm18, ho18⟩
        have hg18 := (hg17.next hb18).only2 ho18 hm18
        clear hg17 hb18 hm18 ho18 x0 x1 x2
        obtain ⟨x0, x1, x2⟩ := hg18.P4.at'
        obtain ⟨y0, y1, y2⟩ := hg18.P0.at'
        go_wp2_with fail
        refine (eqGrid _ _ _ _ _ _ _ _ _ _ hg18.mG.fls hg18.mW.fls (Same.refl _)).mono ?_
        rintro e w19 ⟨rfl, hb19⟩
        have hg19 := hg18.next hb19
        clear hg18 hb19 x0 x1 x2 y0 y1 y2
        obtain ⟨x0, x1, x2⟩ := hg19.P4.at'
        go_wp2_with fail
        refine (markGrid w.heap.size X Y _ _ _ _ 1 (by omega) _ hg19.mG).mono ?_
        rintro e w20 ⟨w20', hb20, rfl, hm20, ho20⟩
        have hg20 := (hg19.next hb20).onlyG ho20 hm20
        clear hg19 hb20 hm20 ho20 x0 x1 x2
        obtain ⟨x0, x1, x2⟩ := hg20.P4.at'
        go_wp2_with fail
        refine (heldGrid w.heap.size X Y _ _ _ 1 (by omega) _ hg20.mG).mono ?_
        rintro e w21 ⟨rfl, hb21⟩
        have hg21 := hg20.next hb21
        clear hg20 hb21 x0 x1 x2
        have hFA := hF.below hg21.bel
        have hFB := hF'.below hg21.bel
        have hD : Below w21.heap.size w21 w21.drew := below_drewN (Below.refl _ _) 1
        have hDa : ∀ o, Below w21.heap.size w21 (w21.drew.alloc o) := fun o => hD.alloc (Nat.le_refl _) o
        have sOf : ∀ W, Below w21.heap.size w21 W → W.cell? ⟨w.heap.size, 0, none⟩ = some (.int .i64 wa) ∧ W.cell? ⟨w.heap.size, 1, none⟩ = some (.int .i64 ha) ∧ W.cell? ⟨w.heap.size, 2, none⟩ = some (.slice a len cap) ∧ W.cell? ⟨w.heap.size + 1, 0, none⟩ = some (.int .i64 wb) ∧ W.cell? ⟨w.heap.size + 1, 1, none⟩ = some (.int .i64 hb) ∧ W.cell? ⟨w.heap.size + 1, 2, none⟩ = some (.slice a' len' cap') := fun W hb => ⟨(hg21.A.next hb).at'.c0, (hg21.A.next hb).at'.c1, (hg21.A.next hb).at'.c2, (hg21.B.next hb).at'.c0, (hg21.B.next hb).at'.c1, (hg21.B.next hb).at'.c2⟩
        go_wp2
        go_cut [19, 20] (fun u v wx => ∃ ah ch p19, u = .pointer (some ⟨p19, 0, none⟩) ∧ v = .bool ok ∧ Box wx p19 X Y ah out.length ch ∧ MineV 22 w21.heap.size wx ah out.length (fls out) ∧ Below w21.heap.size w21 wx)
        case first =>
          go_region_held3 (fun W => W.cell? ⟨w.heap.size, 0, none⟩ = some (.int .i64 wa) ∧ W.cell? ⟨w.heap.size, 1, none⟩ = some (.int .i64 ha) ∧ W.cell? ⟨w.heap.size, 2, none⟩ = some (.slice a len cap) ∧ W.cell? ⟨w.heap.size + 1, 0, none⟩ = some (.int .i64 wb) ∧ W.cell? ⟨w.heap.size + 1, 1, none⟩ = some (.int .i64 hb) ∧ W.cell? ⟨w.heap.size + 1, 2, none⟩ = some (.slice a' len' cap'))
          (first | exact sOf _ hD | exact sOf _ (hDa _) | exact sOf _ hB3 | exact sOf _ (hB3.alloc hB3.size _) | exact sOf _ hB4 | exact sOf _ (hB4.alloc hB4.size _) | exact sOf _ hB5 | exact sOf _ (hB5.alloc hB5.size _) | exact sOf _ (((hB5.setCell (Nat.le_refl _) _).setCell (Nat.le_refl _) _).setCell (Nat.le_refl _) _) | exact sOf _ (((hB5.setCell hB3.size _).setCell hB3.size _).setCell hB3.size _) | exact sOf _ (((hB5.setCell hB4.size _).setCell hB4.size _).setCell hB4.size _))
          (first
            | (go_at_call 36; refine (ci _ _ _ _ _ (by first | exact FlS.of_own ho3' hxl | exact FlS.of_own (ho3'.alloc _) hxl) (by first | exact FlS.of_own ho4 hyl | exact FlS.of_own (ho4.alloc _) hyl)).mono ?_; rintro e w5 ⟨aw, cw, rfl, hM5, hb5⟩; have hB5 : Below w21.heap.size w21 w5 := (by first | exact hB4.trans (hb5.mono hB4.size) | exact (hB4.alloc hB4.size _).trans (hb5.mono (Nat.le_trans hB4.size (by simp)))); have hM6 := hM5.mono (B' := w21.heap.size) (by first | exact hB4.size | exact Nat.le_trans hB4.size (by simp)); (first | (have far := older hM5 oP.lt; have oP := oP.below hb5) | (have far := older hM5 (Own.new w4 [.int .i64 0, .int .i64 0, .slice none 0 0] 33).lt; have oP := (Own.new w4 [.int .i64 0, .int .i64 0, .slice none 0 0] 33).below hb5) | skip); (first | (have s0 := oP.at (k := 0) rfl; have s1 := oP.at (k := 1) rfl; have s2 := oP.at (k := 2) rfl; have t0 := oP.free 0; have t1 := oP.free 1; have t2 := oP.free 2) | skip))
            | (go_at_call 19; have z3' := hB3.size; refine (toGrid wb hb a' len' cap' ys _ (hFB.below (by first | exact hB3 | exact hB3.alloc hB3.size _))).mono ?_; rintro e w4 ⟨g4, rfl, hg4, ho4, hb4⟩; have hB4 : Below w21.heap.size w21 w4 := (by first | exact hB3.trans (hb4.mono hB3.size) | exact (hB3.alloc hB3.size _).trans (hb4.mono (Nat.le_trans hB3.size (by simp)))); have ho3' : Own 22 w4 g3 (fls xs) := (by first | exact ho3.below hb4 | exact (ho3.alloc _).below hb4); (first | (have oP := oP.below hb4) | (have oP := (Own.new w3 [.int .i64 0, .int .i64 0, .slice none 0 0] 33).below hb4) | skip))
            | (go_at_call 19; refine (toGrid wa ha a len cap xs _ (hFA.below (by first | exact hD | exact hDa _))).mono ?_; rintro e w3 ⟨g3, rfl, hg3, ho3, hb3⟩; have hB3 : Below w21.heap.size w21 w3 := (by first | exact hD.trans hb3 | exact (hDa _).trans (hb3.mono (by simp))); (first | (have oP : Own 33 w3 w21.heap.size [.int .i64 0, .int .i64 0, .slice none 0 0] := (Own.new w21.drew [.int .i64 0, .int .i64 0, .slice none 0 0] 33).below hb3) | skip)))
          all_goals
            go_wp2
            go_meet
            first
              | (obtain ⟨b1, b2, b3⟩ := box_end' (X := X) (Y := Y) (cw := cw) hB5 hM6; exact ⟨aw, cw, _, rfl, rfl, b1, b2, b3⟩)
              | (obtain ⟨b1, b2, b3⟩ := box_end (X := X) (Y := Y) (cw := cw) hB5 (by first | exact Nat.le_refl _ | exact hB3.size | exact hB4.size) oP hM6 far; exact ⟨aw, cw, _, rfl, rfl, b1, b2, b3⟩)
        case rest =>
        obtain ⟨ah, ch, p19, rfl, rfl, hH, hMH, hbx⟩ := hcut
        have hg22 := hg21.next hbx
        clear hg21 hbx hFA hFB hD hDa sOf
        obtain ⟨x0, x1, x2⟩ := hH.at'
        obtain ⟨y0, y1, y2⟩ := hg22.P0.at'
        go_wp2_with fail
        refine (eqGrid _ _ _ _ _ _ _ _ _ _ hMH.fls hg22.mW.fls (Same.refl _)).mono ?_
        rintro e w23 ⟨rfl, hb23⟩
        have hg23 := hg22.next hb23
        clear hg22 hb23 hH hMH x0 x1 x2 y0 y1 y2
        obtain ⟨x0, x1, x2⟩ := hg23.P4.at'
        go_wp2_with fail
        refine (heldGrid w.heap.size X Y _ _ _ 1 (by omega) _ hg23.mG).mono ?_
        rintro e w24 ⟨rfl, hb24⟩
        go_wp2
        go_ret
        exact ⟨rfl, (hg23.next hb24).bel⟩
    · unfold GV
      go_enter Try.func10, Try.ntmps10
      go_wp2_with fail
      refine (szGrid _ _ _ _ _ _ _ (by omega) hm).mono ?_
      rintro e w1 ⟨rfl, hb1⟩
      rw [if_neg (by omega)]
      have hW1 : Below w.heap.size w w1 := (box2 _ _).trans (hb1.mono (by simp; omega))
      have d0 : w1.cell? ⟨w.heap.size + 1, 0, none⟩ = some (.int .i64 wb) := (hb1.cell (p := ⟨w.heap.size + 1, 0, none⟩) (by simp)).trans (by simp)
      have d1 : w1.cell? ⟨w.heap.size + 1, 1, none⟩ = some (.int .i64 hb) := (hb1.cell (p := ⟨w.heap.size + 1, 1, none⟩) (by simp)).trans (by simp)
      have d2 : w1.cell? ⟨w.heap.size + 1, 2, none⟩ = some (.slice a' len' cap') := (hb1.cell (p := ⟨w.heap.size + 1, 2, none⟩) (by simp)).trans (by simp)
      clear hb1
      go_wp2_with fail
      refine (szGrid _ _ _ _ _ _ _ (by omega) hm').mono ?_
      rintro e w2 ⟨rfl, hb2⟩
      rw [if_pos (by omega)]
      go_wp2
      go_ret
      exact ⟨rfl, hW1.trans (hb2.mono hW1.size)⟩
  · unfold GV
    go_enter Try.func10, Try.ntmps10
    go_wp2_with fail
    refine (szGrid _ _ _ _ _ _ _ (by omega) hm).mono ?_
    rintro e w1 ⟨rfl, hb1⟩
    rw [if_pos (by omega)]
    go_wp2
    go_ret
    exact ⟨rfl, (box2 _ _).trans (hb1.mono (by simp; omega))⟩
end Go.Proofs.Ytcmdmecmgoabaaa
