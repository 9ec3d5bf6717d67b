/- The law FnExactRiseSquares answers true at every list and count: impl.RiseSquares and spec.RiseSquares answer the same, the rises are left as they were, and what is handed back is new memory at every call. No condition. -/
import Derived.Test.YtikdagkopalojaaSquares4
import Derived.Test.YtikdagkopalojaaMark
import Derived.Test.YtikdagkopalojaaOwnF
import Derived.Deep.RegionWith
namespace Go.Proofs.Ytikdagkopalojaa
open Go.RowKit

theorem MineR.mono {B B' : Nat} {w : World} {a : Option Addr} {len : Nat} {rs : List Rise} (h : MineR B w a len rs) (hB : B' ≤ B) : MineR B' w a len rs := by
  obtain ⟨h1, h2, h3⟩ := h
  refine ⟨h1, h2, ?_⟩
  rcases h3 with h3 | ⟨g, rest, rfl, hg, ho⟩
  · exact .inl h3
  · exact .inr ⟨g, rest, rfl, Nat.le_trans hB hg, ho⟩
theorem oldR {B : Nat} {w : World} {a : Option Addr} {len : Nat} {rs : List Rise} (h : MineR B w a len rs) : Old w a len := h.lt
theorem MineV.apartR {E : TypeId} {B : Nat} {w w' : World} {a a' : Option Addr} {len len' : Nat} {vs : List Value} {rs' : List Rise} (h : MineV E B w a len vs) (h' : MineR w.heap.size w' a' len' rs') (hl : len ≠ 0) (hl' : len' ≠ 0) : a ≠ a' := by
  rcases h'.2.2 with h0 | ⟨g', rest', rfl, hg', ho'⟩
  · exact absurd h0 hl'
  intro e
  have := h.old hl g' e
  omega

set_option maxHeartbeats 4000000 in
theorem lawRiseSquares (a : Option Addr) (len cap : Nat) (rs : List Rise) (n : Int) (w : World) (hm : len ≤ 9223372036854775807) (h : len ≤ 1048576 → RiS w a len rs) (_ : (Lit.int .i64 n).wf = true) :
    Calls Try.prog 5 #[.slice a len cap, .int .i64 n] w (RetB (.bool true) w) := by
  by_cases hlen : len ≤ 1048576
  · have hF := h hlen
    have hzl : rs.length ≤ 1048576 := by rw [hF.size]; exact hlen
    clear h
    have cs := fun a len cap w h => specRiseSquares a len cap n rs w h
    have ci := fun a len cap w h => implRiseSquares a len cap n rs w h
    unfold NewQ at cs ci
    generalize outQ rs n = out at *
    generalize allQ rs n = X at *
    generalize okQ rs n = ok at *
    go_enter Try.func5, Try.ntmps5
    go_wp2_with fail
    refine (szRiseS _ _ _ _ _ (by omega) hm).mono ?_
    rintro e w1 ⟨rfl, rfl⟩
    rw [if_neg (by omega)]
    go_wp2_with fail
    refine (toRiseS _ _ _ _ _ hF).mono ?_
    rintro e w2 ⟨g1, rfl, hg1, ho1, hb2⟩
    have hF2 := hF.below hb2
    go_wp2_with fail
    refine (cs _ _ _ _ (RiS.of_own ho1 hzl)).mono ?_
    rintro e w3 ⟨aw, cw, r0, rfl, hr0, hW3, hb3⟩
    have HR0 := Lib.hid hr0
    clear hr0
    have hF3 := hF2.below hb3
    have hB3 := hb2.trans (hb3.mono hb2.size)
    clear hb2 hb3 hF2 ho1
    go_wp2_with fail
    refine (toRiseS _ _ _ _ _ hF3).mono ?_
    rintro e w4 ⟨g2, rfl, hg2, ho2, hb4⟩
    have hF4 := hF3.below hb4
    have hW4 := hW3.below hb4
    have hB4 := hB3.trans (hb4.mono hB3.size)
    have hX4 : MineR w3.heap.size w4 (some ⟨g2, 0, none⟩) rs.length rs := MineR.of_own ho2 hg2 hzl
    have hne1 : out.length ≠ 0 → rs.length ≠ 0 → aw ≠ some ⟨g2, 0, none⟩ := fun h1 h2 => hW3.apartR hX4 h1 h2
    clear hb4 hF3
    go_wp2_with fail
    refine (ci _ _ _ _ hX4.ris).mono ?_
    rintro e w5 ⟨ag, cg, r1, rfl, hr1, hG5, hb5⟩
    have HR1 := Lib.hid hr1
    clear hr1
    have hne2 : rs.length ≠ 0 → out.length ≠ 0 → some ⟨g2, 0, none⟩ ≠ ag := fun h1 h2 => MineV.apart (oldR hX4) hG5 h1 h2
    have hne3 : out.length ≠ 0 → out.length ≠ 0 → aw ≠ ag := fun h1 h2 => MineV.apart hW4.old hG5 h1 h2
    have hF5 := hF4.below hb5
    have hW5 := hW4.below hb5
    have hX5 := hX4.below hb5
    have hB5 := hB4.trans (hb5.mono hB4.size)
    have hG5 := hG5.mono hB4.size
    clear hb5 hF4 hW4 hX4 ho2
    go_wp2_with fail
    refine (eqFloat32S _ _ _ _ _ _ _ _ hG5.fls hW5.fls (Same.refl _)).mono ?_
    rintro e w6 ⟨rfl, dd6⟩
    have hb6 := dd6.below w5.heap.size
    have hF6 := hF5.below hb6
    have hW6 := hW5.below hb6
    have hX6 := hX5.below hb6
    have hG6 := hG5.below hb6
    have hB6 := hB5.trans (hb6.mono hB5.size)
    clear hb6 hF5 hW5 hX5 hG5
    go_wp2_with (first | (have y1 := hq; refine wpList_wid rfl rfl Try.underlying37 Try.underlying42 rfl ?_; intro p dp hp) | (refine wpList_wid rfl rfl Try.underlying37 Try.underlying42 rfl ?_; intro q dq hq) | (go_at_call 23; refine (sameFloat _ _ (by rw [hq, hp, HR0.out, HR1.out]) _).mono ?_; rintro e w' ⟨rfl, ds, rfl⟩))
    clear hq hp y1
    have hbY := below_drewN (Below.refl w6.heap.size w6) (dq + dp + ds)
    have hF6 := hF6.below hbY
    have hW6 := hW6.below hbY
    have hX6 := hX6.below hbY
    have hG6 := hG6.below hbY
    have hB6 := hB6.trans (hbY.mono hB6.size)
    clear hbY
    generalize w6.drewN (dq + dp + ds) = w6 at *
    refine (toRiseS _ _ _ _ _ hF6).mono ?_
    rintro e w7 ⟨g3, rfl, hg3, ho3, hb7⟩
    have hF7 := hF6.below hb7
    have hW7 := hW6.below hb7
    have hX7 := hX6.below hb7
    have hG7 := hG6.below hb7
    have hB7 := hB6.trans (hb7.mono hB6.size)
    clear hb7 hF6 hW6 hX6 hG6
    go_wp2_with fail
    refine (eqRiseS _ _ _ _ _ _ _ hX7.ris (RiS.of_own ho3 hzl)).mono ?_
    rintro e w8 ⟨rfl, hb8⟩
    have hF8 := hF7.below hb8
    have hW8 := hW7.below hb8
    have hX8 := (hX7.below hb8).mono hB3.size
    have hG8 := hG7.below hb8
    have hB8 := hB7.trans (hb8.mono hB7.size)
    clear hb8 hF7 hW7 hX7 hG7 ho3
    go_wp2_with fail
    refine (markRiseS w.heap.size _ _ _ rs 1 (by omega) _ hX8).mono ?_
    rintro e w9 ⟨rfl, hX9, ho9⟩
    have hb9 := ho9.below hX8.base
    have hF9 := hF.below (hB8.trans hb9)
    have hW9 := (hW8.other ho9 hne1)
    have hG9 := (hG8.other ho9 fun h1 h2 => (hne2 h2 h1).symm)
    have hB9 := hB8.trans hb9
    clear hF8 hW8 hG8 hX8
    have hol := hG9.2.1
    go_wp2_with fail
    refine (eqFloat32S _ _ _ _ _ _ _ _ hG9.fls hW9.fls (Same.refl _)).mono ?_
    rintro e w10 ⟨rfl, dd10⟩
    have hb10 := dd10.below w9.heap.size
    have hF10 := hF9.below hb10
    have hW10 := hW9.below hb10
    have hG10 := hG9.below hb10
    have hB10 := hB9.trans (hb10.mono hB9.size)
    clear hb10 hF9 hW9 hG9
    go_wp2_with (first | (have y1 := hq; refine wpList_wid rfl rfl Try.underlying37 Try.underlying42 rfl ?_; intro p dp hp) | (refine wpList_wid rfl rfl Try.underlying37 Try.underlying42 rfl ?_; intro q dq hq) | (go_at_call 23; refine (sameFloat _ _ (by rw [hq, hp, HR0.out, HR1.out]) _).mono ?_; rintro e w' ⟨rfl, ds, rfl⟩))
    clear hq hp y1
    have hbY := below_drewN (Below.refl w10.heap.size w10) (dq + dp + ds)
    have hF10 := hF10.below hbY
    have hW10 := hW10.below hbY
    have hG10 := hG10.below hbY
    have hB10 := hB10.trans (hbY.mono hB10.size)
    clear hbY
    generalize w10.drewN (dq + dp + ds) = w10 at *
    refine (markFloat32S w.heap.size _ _ _ out 1 (by omega) _ hG10).mono ?_
    rintro e w11 ⟨rfl, hG11, ho11⟩
    have hb11 := ho11.below hG10.base
    have hF11 := hF.below (hB10.trans hb11)
    have hW11 := (hW10.other ho11 hne3)
    have hB11 := hB10.trans hb11
    clear hF10 hW10 hG10
    go_wp2_with fail
    refine (heldFloat32S w.heap.size _ _ _ 1 (by omega) _ hG11).mono ?_
    rintro e w11' ⟨rfl, rfl⟩
    go_wp2_with fail
    refine (toRiseS _ _ _ _ _ hF11).mono ?_
    rintro e w12 ⟨g4, rfl, hg4, ho4, hb12⟩
    have hW12 := hW11.below hb12
    have hG12 := hG11.below hb12
    have hB12 := hB11.trans (hb12.mono hB11.size)
    clear hb12 hF11 hW11 hG11
    go_wp2_with fail
    refine (ci _ _ _ _ (RiS.of_own ho4 hzl)).mono ?_
    rintro e w13 ⟨ah, ch, r2, rfl, hr2, hH13, hb13⟩
    have HR2 := Lib.hid hr2
    clear hr2
    have hW13 := hW12.below hb13
    have hG13 := hG12.below hb13
    have hB13 := hB12.trans (hb13.mono hB12.size)
    clear hb13 hW12 hG12
    go_wp2_with fail
    refine (eqFloat32S _ _ _ _ _ _ _ _ hH13.fls hW13.fls (Same.refl _)).mono ?_
    rintro e w14 ⟨rfl, dd14⟩
    have hb14 := dd14.below w13.heap.size
    have hG14 := hG13.below hb14
    have hB14 := hB13.trans (hb14.mono hB13.size)
    clear hb14 hW13 hG13
    go_wp2_with (first | (have y1 := hq; refine wpList_wid rfl rfl Try.underlying37 Try.underlying42 rfl ?_; intro p dp hp) | (refine wpList_wid rfl rfl Try.underlying37 Try.underlying42 rfl ?_; intro q dq hq) | (go_at_call 23; refine (sameFloat _ _ (by rw [hq, hp, HR0.out, HR2.out]) _).mono ?_; rintro e w' ⟨rfl, ds, rfl⟩))
    clear hq hp y1
    have hbY := below_drewN (Below.refl w14.heap.size w14) (dq + dp + ds)
    have hG14 := hG14.below hbY
    have hB14 := hB14.trans (hbY.mono hB14.size)
    clear hbY
    generalize w14.drewN (dq + dp + ds) = w14 at *
    refine (heldFloat32S w.heap.size _ _ _ 1 (by omega) _ hG14).mono ?_
    rintro e w15 ⟨rfl, rfl⟩
    go_wp2
    go_ret
    exact ⟨rfl, hB14⟩
  · go_enter Try.func5, Try.ntmps5
    go_wp2_with fail
    refine (szRiseS _ _ _ _ _ (by omega) hm).mono ?_
    rintro e w1 ⟨rfl, rfl⟩
    rw [if_pos (by omega)]
    go_wp2
    go_ret
    exact ⟨rfl, Below.refl _ _⟩
end Go.Proofs.Ytikdagkopalojaa
