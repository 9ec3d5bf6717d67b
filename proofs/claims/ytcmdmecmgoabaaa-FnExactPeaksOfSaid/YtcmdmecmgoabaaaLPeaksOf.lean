/- The law FnExactPeaksOf answers true at every grid: impl.PeaksOf and spec.PeaksOf answer the same, the grid is left as it was, and what is handed back is new memory at every call. No condition. -/
import Derived.Test.YtcmdmecmgoabaaaPeaks5
import Derived.Test.YtcmdmecmgoabaaaBox
import Derived.Deep.RegionWith
import Derived.Deep.Cut
import Derived.Deep.DeepCutAuto
namespace Go.Proofs.Ytcmdmecmgoabaaa
open Go.RowKit

/-- What the law keeps: the argument, the copy, what is wanted, what was got. -/
structure Pk (w wr : World) (wa ha : Int) (a : Option Addr) (len cap : Nat) (aw ag : Option Addr) (out : List Int) (g6 p6 n1 : Nat) (v1 vg : List Value) : Prop where
  A : Box wr w.heap.size wa ha a len cap
  P1 : Box wr p6 wa ha (some ⟨g6, 0, none⟩) n1 n1
  mW : MineV 2 w.heap.size wr aw out.length (ints out)
  m1 : MineV 22 w.heap.size wr (some ⟨g6, 0, none⟩) n1 v1
  mG : MineV 2 w.heap.size wr ag out.length vg
  bel : Below w.heap.size w wr
  q0 : out.length ≠ 0 → ∀ g, aw = some ⟨g, 0, none⟩ → w.heap.size < g ∧ g < g6
  q1 : w.heap.size < g6
  q2 : g6 < p6
  q3 : out.length ≠ 0 → ∀ g, ag = some ⟨g, 0, none⟩ → p6 < g
section
variable {w wr w1 : World} {wa ha : Int} {a : Option Addr} {len cap : Nat} {aw ag : Option Addr} {out : List Int} {g6 p6 n1 : Nat} {v1 vg u : List Value}
theorem Pk.next (h : Pk w wr wa ha a len cap aw ag out g6 p6 n1 v1 vg) (h1 : Below wr.heap.size wr w1) : Pk w w1 wa ha a len cap aw ag out g6 p6 n1 v1 vg :=
  ⟨h.A.next h1, h.P1.next h1, h.mW.below h1, h.m1.below h1, h.mG.below h1, h.bel.trans (h1.mono h.bel.size), h.q0, h.q1, h.q2, h.q3⟩
theorem Pk.only1 (h : Pk w wr wa ha a len cap aw ag out g6 p6 n1 v1 vg) (ho : OnlyAt (some ⟨g6, 0, none⟩) n1 wr w1) (hm : MineV 22 w.heap.size w1 (some ⟨g6, 0, none⟩) n1 u) : Pk w w1 wa ha a len cap aw ag out g6 p6 n1 u vg := by
  obtain ⟨hA, hP1, mW, m1, mG, bel, q0, q1, q2, q3⟩ := h
  have ne : ∀ p, p ≠ g6 → n1 ≠ 0 → ∀ g, (some ⟨g6, 0, none⟩ : Option Addr) = some ⟨g, 0, none⟩ → p ≠ g := fun p hp _ g e => by
    have e' : g6 = g := congrArg (fun o : Option Addr => (o.getD ⟨0, 0, none⟩).block) e
    omega
  refine ⟨hA.only ho (ne _ (by omega)), hP1.only ho (ne _ (by omega)), mW.other ho ?_, hm, mG.other ho ?_, bel.trans (ho.below m1.base), q0, q1, q2, q3⟩
  · rintro hl _ rfl
    have := q0 hl _ rfl
    omega
  · rintro hl _ rfl
    have := q3 hl _ rfl
    omega
theorem Pk.onlyG (h : Pk w wr wa ha a len cap aw ag out g6 p6 n1 v1 vg) (ho : OnlyAt ag out.length wr w1) (hm : MineV 2 w.heap.size w1 ag out.length u) : Pk w w1 wa ha a len cap aw ag out g6 p6 n1 v1 u := by
  obtain ⟨hA, hP1, mW, m1, mG, bel, q0, q1, q2, q3⟩ := h
  have ne : ∀ p, p ≤ p6 → out.length ≠ 0 → ∀ g, ag = some ⟨g, 0, none⟩ → p ≠ g := fun p hp hl g e => by
    have := q3 hl g e
    omega
  refine ⟨hA.only ho (ne _ (by omega)), hP1.only ho (ne _ (by omega)), mW.other ho ?_, m1.other ho ?_, hm, bel.trans (ho.below mG.base), q0, q1, q2, q3⟩
  · rintro hl _ rfl
    rcases mG.2.2 with h0 | ⟨g, rest, rfl, _, _⟩
    · exact absurd h0 hl
    have h1 := q0 hl _ rfl
    have h2 := q3 hl _ rfl
    omega
  · intro _ hl e
    have := q3 hl _ e.symm
    omega
end

set_option maxRecDepth 8000 in
set_option maxHeartbeats 8000000 in
theorem lawPeaksOf (wa ha : Int) (a : Option Addr) (len cap : Nat) (xs : List Nat) (w : World) (hm : len ≤ 9223372036854775807) (h : len ≤ 1048576 → FlS w a len xs) :
    Calls Try.prog 11 #[GV wa ha a len cap] w (RetB (.bool true) w) := by
  have box1 : ∀ o, Below w.heap.size w (w.alloc o) := fun o => (Below.refl _ _).alloc (Nat.le_refl _) _
  by_cases hlen : len ≤ 1048576
  · have hF := h hlen
    have hxl : xs.length ≤ 1048576 := by rw [hF.len]; exact hlen
    clear h
    have ci := fun (W : World) a c (h1 : FlS W a xs.length xs) => implPeaksOf wa ha a xs.length c xs W h1
    have cs := fun (W : World) a c (h1 : FlS W a xs.length xs) => specPeaksOf wa ha a xs.length c xs W h1
    unfold NewI at ci cs
    generalize validB wa ha xs = ok at *
    generalize outP wa ha xs = out at *
    unfold GV at cs ci
    unfold GV
    go_enter Try.func11, Try.ntmps11
    go_wp2_with fail
    refine (szGrid _ _ _ _ _ _ _ (by omega) hm).mono ?_
    rintro e w1 ⟨rfl, hb1⟩
    rw [if_neg (by omega)]
    have hA1 := (Box.new 30 w wa ha a len cap).next hb1
    have hW1 : Below w.heap.size w w1 := (box1 _).trans (hb1.mono (by simp))
    clear hb1
    obtain ⟨c0, c1, c2⟩ := hA1.at'
    go_wp2_with fail
    refine (toGrid wa ha a len cap xs _ (hF.below hW1)).mono ?_
    rintro e w2 ⟨g2, rfl, hg2, ho2, hb2⟩
    have hA2 := hA1.next hb2
    have hW2 := hW1.trans (hb2.mono hW1.size)
    clear c0 c1 c2 hA1 hW1 hb2 hg2
    unfold GV
    go_wp2_with fail
    refine (cs _ _ _ (FlS.of_own ho2 hxl)).mono ?_
    rintro e w3 ⟨aw, cw, rfl, hM3, hb3⟩
    have hA3 := hA2.next hb3
    have hW3 := hW2.trans (hb3.mono hW2.size)
    have k0 : out.length ≠ 0 → ∀ g, aw = some ⟨g, 0, none⟩ → w.heap.size < g ∧ g < w3.heap.size := fun hl g e => by
      have k1 := hM3.base hl g e
      have k3 := hM3.old hl g e
      have := hA2.lt
      omega
    have hM3 := hM3.mono hW2.size
    have hol := hM3.2.1
    clear hA2 hW2 ho2 hb3
    obtain ⟨c0, c1, c2⟩ := hA3.at'
    go_wp2_with fail
    refine (toGrid wa ha a len cap xs _ (hF.below hW3)).mono ?_
    rintro e w4 ⟨g6, rfl, hg6, ho4, hb4⟩
    have j1 : g6 < w4.heap.size := ho4.lt
    have j2 := hA3.lt
    have hA4 := hA3.next hb4
    have hM4 := hM3.below hb4
    have hW4 := hW3.trans (hb4.mono hW3.size)
    clear c0 c1 c2 hA3 hM3 hb4
    unfold GV
    have hX5 := Box.new 33 w4 wa ha (some ⟨g6, 0, none⟩) xs.length xs.length
    have hb5 : Below w4.heap.size w4 (w4.alloc (.cells #[.int .i64 wa, .int .i64 ha, .slice (some ⟨g6, 0, none⟩) xs.length xs.length] 33)) := (Below.refl _ _).alloc (Nat.le_refl _) _
    have hsz5 : (w4.alloc (.cells #[.int .i64 wa, .int .i64 ha, .slice (some ⟨g6, 0, none⟩) xs.length xs.length] 33)).heap.size = w4.heap.size + 1 := by simp
    go_wp2_with fail
    refine (ci _ _ _ (FlS.of_own (ho4.below hb5) hxl)).mono ?_
    rintro e w6 ⟨ag, cg, rfl, hG6, hb6⟩
    have k3 : out.length ≠ 0 → ∀ g, ag = some ⟨g, 0, none⟩ → w4.heap.size < g := fun hl g e => by
      have := hG6.base hl g e
      omega
    have hb56 := hb5.trans (hb6.mono hb5.size)
    have ho6 := ho4.below hb56
    have hg6' : w.heap.size < g6 := by omega
    have hk : Pk w w6 wa ha a len cap aw ag out g6 w4.heap.size xs.length (fls xs) (ints out) :=
      ⟨hA4.next hb56, hX5.next hb6, hM4.below hb56, ⟨fls_len xs, hxl, .inr ⟨g6, [], rfl, Nat.le_of_lt hg6', by simpa using ho6⟩⟩, hG6.mono (Nat.le_trans hW4.size hb5.size), hW4.trans (hb56.mono hW4.size), fun hl g e => by have := k0 hl g e; omega, hg6', j1, k3⟩
    generalize w4.heap.size = p6 at *
    clear hA4 hM4 hW4 hX5 hb5 hsz5 hG6 hb6 k3 hb56 ho6 k0 j1 j2 ho4 hg6 hg6'
    go_wp2_with fail
    refine (eqInt64S _ _ _ _ _ _ _ hk.mG.ins hk.mW.ins).mono ?_
    rintro e w7 ⟨rfl, hd7⟩
    have hk7 := hk.next (hd7.below _)
    clear hk hd7
    obtain ⟨x0, x1, x2⟩ := hk7.P1.at'
    obtain ⟨c0, c1, c2⟩ := hk7.A.at'
    have hFA := hF.below hk7.bel
    go_wp2
    go_cut [45] (fun v wx => v = .bool false ∧ Below w7.heap.size w7 wx)
    case first =>
      go_region_with (first | (go_at_call 19; refine (toGrid wa ha a len cap xs _ (hFA.drewN _)).mono ?_; rintro e w8 ⟨g8, rfl, hg8, ho8, hb8⟩; have hk8 := hk7.next (below_of_drewN hb8); obtain ⟨x0, x1, x2⟩ := hk8.P1.at') | (go_at_call 21; refine (eqGrid _ _ _ _ _ _ _ _ _ _ hk8.m1.fls (FlS.of_own ho8 hxl) (Same.refl _)).mono ?_; rintro e w9 ⟨rfl, hb9⟩))
      all_goals
        go_wp2
        go_meet
        exact ⟨rfl, (below_of_drewN hb8).trans (hb9.mono hb8.size)⟩
    case rest =>
    obtain ⟨rfl, hbx⟩ := hcut
    have hk9 := hk7.next hbx
    clear hk7 hbx x0 x1 x2 c0 c1 c2 hFA
    obtain ⟨x0, x1, x2⟩ := hk9.P1.at'
    go_wp2_with fail
    refine (markGrid w.heap.size wa ha _ _ _ _ 1 (by omega) _ hk9.m1).mono ?_
    rintro e w10 ⟨w10', hb10, rfl, hm10, ho10⟩
    have hk10 := (hk9.next hb10).only1 ho10 hm10
    clear hk9 hb10 hm10 ho10 x0 x1 x2
    go_wp2_with fail
    refine (eqInt64S _ _ _ _ _ _ _ hk10.mG.ins hk10.mW.ins).mono ?_
    rintro e w11 ⟨rfl, hd11⟩
    have hk11 := hk10.next (hd11.below _)
    clear hk10 hd11
    go_wp2_with fail
    refine (markInt64S w.heap.size _ _ _ out 1 (by omega) _ hk11.mG).mono ?_
    rintro e w12 ⟨rfl, hm12, ho12⟩
    have hk12 := hk11.onlyG ho12 hm12
    clear hk11 hm12 ho12
    go_wp2_with fail
    refine (heldInt64S w.heap.size _ _ _ 1 (by omega) _ hk12.mG).mono ?_
    rintro e w13 ⟨rfl, rfl⟩
    obtain ⟨c0, c1, c2⟩ := hk12.A.at'
    go_wp2_with fail
    refine (toGrid wa ha a len cap xs _ (hF.below hk12.bel)).mono ?_
    rintro e w14 ⟨g14, rfl, hg14, ho14, hb14⟩
    have hk14 := hk12.next hb14
    clear hk12 hb14 c0 c1 c2
    unfold GV
    go_wp2_with fail
    refine (ci _ _ _ (FlS.of_own ho14 hxl)).mono ?_
    rintro e w15 ⟨ah, ch, rfl, hH15, hb15⟩
    have hk15 := hk14.next hb15
    clear hk14 hb15 ho14
    go_wp2_with fail
    refine (eqInt64S _ _ _ _ _ _ _ hH15.ins hk15.mW.ins).mono ?_
    rintro e w16 ⟨rfl, hd16⟩
    have hk16 := hk15.next (hd16.below _)
    clear hk15 hd16 hH15
    go_wp2_with fail
    refine (heldInt64S w.heap.size _ _ _ 1 (by omega) _ hk16.mG).mono ?_
    rintro e w17 ⟨rfl, rfl⟩
    go_wp2
    go_ret
    exact ⟨rfl, hk16.bel⟩
  · unfold GV
    go_enter Try.func11, Try.ntmps11
    go_wp2_with fail
    refine (szGrid _ _ _ _ _ _ _ (by omega) hm).mono ?_
    rintro e w1 ⟨rfl, hb1⟩
    rw [if_pos (by omega)]
    go_wp2
    go_ret
    exact ⟨rfl, (box1 _).trans (hb1.mono (by simp))⟩
end Go.Proofs.Ytcmdmecmgoabaaa
