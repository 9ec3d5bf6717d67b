/- The law FnExactFlatGrid answers true at every width, height and number: impl.FlatGrid and spec.FlatGrid answer the same, and what is handed back is new memory at every call. No condition. -/
import Derived.Test.YtcmdmecmgoabaaaBox
namespace Go.Proofs.Ytcmdmecmgoabaaa
open Go.RowKit

set_option maxRecDepth 8000 in
set_option maxHeartbeats 4000000 in
theorem lawFlatGrid (wide high : Int) (x : Nat) (w : World) (_ : (Lit.int .i64 wide).wf = true) (_ : (Lit.int .i64 high).wf = true) (_ : (Lit.float .f32 x).wf = true) :
    Calls Try.prog 7 #[.int .i64 wide, .int .i64 high, .float .f32 x] w (RetB (.bool true) w) := by
  have cs := fun W => specFlatGrid wide high x W
  have ci := fun W => implFlatGrid wide high x W
  unfold NewG at cs ci
  generalize validB wide high (List.replicate (wide * high).toNat x) = ok at *
  generalize iffI ok wide = X at *
  generalize iffI ok high = Y at *
  generalize outG ok (List.replicate (wide * high).toNat x) = out at *
  go_enter Try.func7, Try.ntmps7
  go_wp2_with fail
  refine (cs _).mono ?_
  rintro e w1 ⟨aw, cw, rfl, hW1, hB1⟩
  have hol := hW1.2.1
  unfold GV
  have hP2 := Box.new 33 w1 X Y aw out.length cw
  have hb2 := (Below.refl w1.heap.size w1).alloc (Nat.le_refl _) (.cells #[.int .i64 X, .int .i64 Y, .slice aw out.length cw] 33)
  have hW2 := hW1.below hb2
  have hB2 := hB1.trans (hb2.mono hB1.size)
  go_wp2_with fail
  refine (ci _).mono ?_
  rintro e w3 ⟨ag, cg, rfl, hG3, hb3⟩
  have hpl := hP2.lt
  have hne1 : out.length ≠ 0 → out.length ≠ 0 → aw ≠ ag := fun h1 h2 => MineV.apart hW2.old hG3 h1 h2
  have hP3 := hP2.next hb3
  have hW3 := hW2.below hb3
  have hB3 := hB2.trans (hb3.mono hB2.size)
  have hne2 := older hG3 hpl
  generalize w1.heap.size = p7 at *
  have hG3 := hG3.mono hB2.size
  clear hP2 hb2 hW2 hB2 hpl hb3 hW1 hB1
  unfold GV
  obtain ⟨c0, c1, c2⟩ := hP3.at'
  have q1 := hP3.lt
  have q2 : p7 ≠ w3.heap.size := by omega
  have hP4 := Box.new 33 w3 X Y ag out.length cg
  have hb4 := (Below.refl w3.heap.size w3).alloc (Nat.le_refl _) (.cells #[.int .i64 X, .int .i64 Y, .slice ag out.length cg] 33)
  have hne3 := younger hG3 (Nat.le_refl _)
  go_wp2_with fail
  have hG4 := hG3.below hb4
  have hW4 := hW3.below hb4
  refine (eqGrid _ _ _ _ _ _ _ _ _ _ hG4.fls hW4.fls (Same.refl _)).mono ?_
  rintro e w5 ⟨rfl, hb5⟩
  have hQ5 := hP4.next hb5
  have hP5 := (hP3.next hb4).next hb5
  have hG5 := hG4.below hb5
  have hW5 := hW4.below hb5
  have hB5 := (hB3.trans (hb4.mono hB3.size)).trans (hb5.mono (Nat.le_trans hB3.size hb4.size))
  clear hP4 hP3 hb4 hb5 hG4 hW4 hG3 hW3 hB3 c0 c1 c2 q1 q2
  generalize w3.heap.size = p9 at *
  obtain ⟨d0, d1, d2⟩ := hQ5.at'
  go_wp2_with fail
  refine (markGrid w.heap.size X Y _ _ _ _ 1 (by omega) _ hG5).mono ?_
  rintro e w6 ⟨w5', hb5', rfl, hG6, ho6⟩
  have hB6 := (hB5.trans (hb5'.mono hB5.size)).trans (ho6.below hG5.base)
  have hP6 := (hP5.next hb5').only ho6 hne2
  have hQ6 := (hQ5.next hb5').only ho6 hne3
  have hW6 := (hW5.below hb5').other ho6 hne1
  clear hP5 hQ5 hW5 hB5 hb5' ho6 hG5 d0 d1 d2
  obtain ⟨d0, d1, d2⟩ := hQ6.at'
  go_wp2_with fail
  refine (heldGrid w.heap.size X Y _ _ _ 1 (by omega) _ hG6).mono ?_
  rintro e w7 ⟨rfl, hb7⟩
  have hP7 := hP6.next hb7
  have hQ7 := hQ6.next hb7
  have hW7 := hW6.below hb7
  have hG7 := hG6.below hb7
  have hB7 := hB6.trans (hb7.mono hB6.size)
  clear hP6 hQ6 hW6 hG6 hB6 hb7 d0 d1 d2
  go_wp2_with fail
  refine (ci _).mono ?_
  rintro e w8 ⟨ah, ch, rfl, hH8, hb8⟩
  have hP8 := hP7.next hb8
  have hQ8 := hQ7.next hb8
  have hW8 := hW7.below hb8
  have hG8 := hG7.below hb8
  have hB8 := hB7.trans (hb8.mono hB7.size)
  clear hP7 hQ7 hW7 hG7 hB7 hb8
  unfold GV
  obtain ⟨c0, c1, c2⟩ := hP8.at'
  have q1 := hP8.lt
  have q2 : p7 ≠ w8.heap.size := by omega
  have hb9 := (Below.refl w8.heap.size w8).alloc (Nat.le_refl _) (.cells #[.int .i64 X, .int .i64 Y, .slice ah out.length ch] 33)
  go_wp2_with fail
  have hH9 := hH8.below hb9
  have hW9 := hW8.below hb9
  refine (eqGrid _ _ _ _ _ _ _ _ _ _ hH9.fls hW9.fls (Same.refl _)).mono ?_
  rintro e w10 ⟨rfl, hb10⟩
  have hQ10 := (hQ8.next hb9).next hb10
  have hG10 := (hG8.below hb9).below hb10
  have hB10 := (hB8.trans (hb9.mono hB8.size)).trans (hb10.mono (Nat.le_trans hB8.size hb9.size))
  clear hQ8 hP8 hb9 hb10 hH9 hW9 hG8 hW8 hH8 hB8 c0 c1 c2 q1 q2
  obtain ⟨d0, d1, d2⟩ := hQ10.at'
  go_wp2_with fail
  refine (heldGrid w.heap.size X Y _ _ _ 1 (by omega) _ hG10).mono ?_
  rintro e w11 ⟨rfl, hb11⟩
  go_wp2
  go_ret
  exact ⟨rfl, hB10.trans (hb11.mono hB10.size)⟩
end Go.Proofs.Ytcmdmecmgoabaaa
