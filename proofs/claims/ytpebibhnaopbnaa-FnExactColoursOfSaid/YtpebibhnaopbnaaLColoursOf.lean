/- The law FnExactColoursOf answers true at every number and list: impl.ColoursOf and spec.ColoursOf answer the same, the list is left as it was, and what is handed back is new memory at every call. No condition. -/
import Derived.Test.YtpebibhnaopbnaaSpecC
import Derived.Test.YtpebibhnaopbnaaSort4
namespace Go.Proofs.Ytpebibhnaopbnaa
open Go.RowKit Go.Shelf

theorem own_ins {w : World} {g : Nat} {xs : List Int} (h : Own 2 w g (ints xs)) (hm : xs.length ≤ 1048576) : InS w (some ⟨g, 0, none⟩) xs.length xs :=
  InS.of_row (rest := []) (by rw [List.append_nil]; exact h) hm
theorem own_away {w : World} {g : Nat} {vs : List Value} {E : TypeId} (h : Own E w g vs) : ∀ g', w.heap.size ≤ g' → Away g' (some ⟨g, 0, none⟩) := by
  intro g' hg b off e
  have := h.lt
  simp at e
  omega
theorem own_mine {w w0 : World} {g B : Nat} {xs : List Int} (h : Own 2 w g (ints xs)) (hB : B ≤ g) (hm : xs.length ≤ 1048576) : MineV 2 B w (some ⟨g, 0, none⟩) xs.length (ints xs) := by
  have := MineV.of_own h hB (by rw [ints_len]; exact hm)
  rw [ints_len] at this
  exact this

theorem mergeOk {N : Nat} (h : N ≤ 32) : MergeOk N := fun h20 g lb eg dg hdg q c w0 hcmp D w hR hI h1 h2 h3 =>
  symMerge g lb eg N h dg hdg q c w0 hcmp _ 0 20 N rfl (by omega) h20 (Nat.le_refl _) D w hR hI h1 h2 h3

set_option maxRecDepth 8000 in
set_option maxHeartbeats 4000000 in
theorem lawColoursOf (n : Int) (a : Option Addr) (len cap : Nat) (ps : List Int) (w : World) (_ : (Lit.int .i64 n).wf = true) (hm : len ≤ 9223372036854775807) (h : len ≤ 1048576 → InS w a len ps) :
    Calls Try.prog 4 #[.int .i64 n, .slice a len cap] w (RetB (.bool true) w) := by
  by_cases hlen : len ≤ 1048576
  · have hF := h hlen
    have hzl : ps.length ≤ 1048576 := by rw [hF.size]; exact hlen
    clear h
    have cs := fun a len cap w h hb => specColours n a len cap ps w h hb
    have ci := fun a len cap w h => implColours n a len cap ps w h (fun h => mergeOk h)
    unfold NewL at cs ci
    generalize (colOf n ps).getD [] = out at *
    generalize (colOf n ps).isSome = ok at *
    go_enter Try.func4, Try.ntmps4
    go_wp2_with fail
    refine (toInt64S _ _ _ _ _ hF).mono ?_
    rintro e w2 ⟨g1, rfl, hg1, ho1, hb2⟩
    have hF2 := hF.below hb2
    go_wp2_with fail
    refine (cs _ _ _ _ (own_ins ho1 hzl) (own_away ho1)).mono ?_
    rintro e w3 ⟨aw, cw, rfl, hW3, hb3⟩
    have hF3 := hF2.below hb3
    have hB3 := hb2.trans (hb3.mono hb2.size)
    clear hb2 hb3 hF2 ho1
    go_wp2_with fail
    refine (toInt64S _ _ _ _ _ hF3).mono ?_
    rintro e w4 ⟨g2, rfl, hg2, ho2, hb4⟩
    have hF4 := hF3.below hb4
    have hW4 := hW3.below hb4
    have hB4 := hB3.trans (hb4.mono hB3.size)
    have hX4 : MineV 2 w3.heap.size w4 (some ⟨g2, 0, none⟩) ps.length (ints ps) := own_mine (w0 := w) ho2 hg2 hzl
    have hne1 : out.length ≠ 0 → ps.length ≠ 0 → aw ≠ some ⟨g2, 0, none⟩ := fun h1 h2 => MineV.apart hW3.old hX4 h1 h2
    clear hb4 hF3
    go_wp2_with fail
    refine (ci _ _ _ _ hX4.ins).mono ?_
    rintro e w5 ⟨ag, cg, rfl, hG5, hb5⟩
    have hne2 : ps.length ≠ 0 → out.length ≠ 0 → some ⟨g2, 0, none⟩ ≠ ag := fun h1 h2 => MineV.apart hX4.old hG5 h1 h2
    have hne3 : out.length ≠ 0 → out.length ≠ 0 → aw ≠ ag := fun h1 h2 => MineV.apart hW4.old hG5 h1 h2
    have hF5 := hF4.below hb5
    have hW5 := hW4.below hb5
    have hX5 := hX4.below hb5
    have hB5 := hB4.trans (hb5.mono hB4.size)
    have hG5 := hG5.mono hB4.size
    clear hb5 hF4 hW4 hX4 ho2
    go_wp2_with fail
    refine (eqInt64S _ _ _ _ _ _ _ hG5.ins hW5.ins).mono ?_
    rintro e w6 ⟨rfl, hd6⟩
    have hb6 := hd6.below w5.heap.size
    have hF6 := hF5.below hb6
    have hW6 := hW5.below hb6
    have hX6 := hX5.below hb6
    have hG6 := hG5.below hb6
    have hB6 := hB5.trans (hb6.mono hB5.size)
    clear hb6 hd6 hF5 hW5 hX5 hG5
    go_wp2_with fail
    refine (toInt64S _ _ _ _ _ hF6).mono ?_
    rintro e w7 ⟨g3, rfl, hg3, ho3, hb7⟩
    have hF7 := hF6.below hb7
    have hW7 := hW6.below hb7
    have hX7 := hX6.below hb7
    have hG7 := hG6.below hb7
    have hB7 := hB6.trans (hb7.mono hB6.size)
    clear hb7 hF6 hW6 hX6 hG6
    go_wp2_with fail
    refine (eqInt64S _ _ _ _ _ _ _ hX7.ins (own_ins ho3 hzl)).mono ?_
    rintro e w8 ⟨rfl, hd8⟩
    have hb8 := hd8.below w7.heap.size
    have hF8 := hF7.below hb8
    have hW8 := hW7.below hb8
    have hX8 := (hX7.below hb8).mono hB3.size
    have hG8 := hG7.below hb8
    have hB8 := hB7.trans (hb8.mono hB7.size)
    clear hb8 hd8 hF7 hW7 hX7 hG7 ho3
    go_wp2_with fail
    refine (markInt64S w.heap.size _ _ _ ps 1 (by omega) _ hX8).mono ?_
    rintro e w9 ⟨rfl, hX9, ho9⟩
    have hb9 := ho9.below hX8.base
    have hF9 := hF.below (hB8.trans hb9)
    have hW9 := (hW8.other ho9 hne1)
    have hG9 := (hG8.other ho9 fun h1 h2 => (hne2 h2 h1).symm)
    have hB9 := hB8.trans hb9
    clear hF8 hW8 hG8 hX8
    have hol := hG9.2.1
    go_wp2_with fail
    refine (eqInt64S _ _ _ _ _ _ _ hG9.ins hW9.ins).mono ?_
    rintro e w10 ⟨rfl, hd10⟩
    have hb10 := hd10.below w9.heap.size
    have hF10 := hF9.below hb10
    have hW10 := hW9.below hb10
    have hG10 := hG9.below hb10
    have hB10 := hB9.trans (hb10.mono hB9.size)
    clear hb10 hd10 hF9 hW9 hG9
    go_wp2_with fail
    refine (markInt64S w.heap.size _ _ _ out 1 (by omega) _ hG10).mono ?_
    rintro e w11 ⟨rfl, hG11, ho11⟩
    have hb11 := ho11.below hG10.base
    have hF11 := hF.below (hB10.trans hb11)
    have hW11 := (hW10.other ho11 hne3)
    have hB11 := hB10.trans hb11
    clear hF10 hW10 hG10
    go_wp2_with fail
    refine (heldInt64S w.heap.size _ _ _ 1 (by omega) _ hG11).mono ?_
    rintro e w11' ⟨rfl, rfl⟩
    go_wp2_with fail
    refine (toInt64S _ _ _ _ _ hF11).mono ?_
    rintro e w12 ⟨g4, rfl, hg4, ho4, hb12⟩
    have hW12 := hW11.below hb12
    have hG12 := hG11.below hb12
    have hB12 := hB11.trans (hb12.mono hB11.size)
    clear hb12 hF11 hW11 hG11
    go_wp2_with fail
    refine (ci _ _ _ _ (own_ins ho4 hzl)).mono ?_
    rintro e w13 ⟨ah, ch, rfl, hH13, hb13⟩
    have hW13 := hW12.below hb13
    have hG13 := hG12.below hb13
    have hB13 := hB12.trans (hb13.mono hB12.size)
    clear hb13 hW12 hG12
    go_wp2_with fail
    refine (eqInt64S _ _ _ _ _ _ _ hH13.ins hW13.ins).mono ?_
    rintro e w14 ⟨rfl, hd14⟩
    have hb14 := hd14.below w13.heap.size
    have hG14 := hG13.below hb14
    have hB14 := hB13.trans (hb14.mono hB13.size)
    clear hb14 hd14 hW13 hG13
    go_wp2_with fail
    refine (heldInt64S w.heap.size _ _ _ 1 (by omega) _ hG14).mono ?_
    rintro e w15 ⟨rfl, rfl⟩
    go_wp2
    go_ret
    exact ⟨rfl, hB14⟩
  · have hgt : (1048576 : Int) < (len : Int) := by omega
    go_enter Try.func4, Try.ntmps4
    go_wp2
    go_ret
    exact ⟨rfl, Below.refl _ _⟩
end Go.Proofs.Ytpebibhnaopbnaa
