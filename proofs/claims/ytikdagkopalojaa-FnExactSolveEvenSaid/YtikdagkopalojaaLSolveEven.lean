/- The law FnExactSolveEven answers true at every two lists: impl.SolveEven and spec.SolveEven answer the same, both lists are left as they were, and what is handed back is new memory at every call. No condition. -/
import Derived.Test.YtikdagkopalojaaEven4
namespace Go.Proofs.Ytikdagkopalojaa
open Go.RowKit

def RetEv (v : Value) (w : World) (e : Ending) (w' : World) : Prop := e = .returned v ∧ Below w.heap.size w w'

/-- What the law keeps: the two copies, what is wanted, what was got. -/
structure Ev (w wr : World) (aw ag : Option Addr) (g7 g8 : Nat) (out : List Nat) (n1 n2 : Nat) (v1 v2 vg : List Value) : Prop where
  mW : MineV 37 w.heap.size wr aw out.length (fls out)
  m1 : MineV 37 w.heap.size wr (some ⟨g7, 0, none⟩) n1 v1
  m2 : MineV 37 w.heap.size wr (some ⟨g8, 0, none⟩) n2 v2
  mG : MineV 37 w.heap.size wr ag out.length vg
  bel : Below w.heap.size w wr
  q0 : out.length ≠ 0 → ∀ g, aw = some ⟨g, 0, none⟩ → g < g7
  q1 : g7 < g8
  q2 : out.length ≠ 0 → ∀ g, ag = some ⟨g, 0, none⟩ → g8 < g
section
variable {w wr w1 : World} {aw ag : Option Addr} {g7 g8 : Nat} {out : List Nat} {n1 n2 : Nat} {v1 v2 vg u : List Value}
theorem Ev.next (h : Ev w wr aw ag g7 g8 out n1 n2 v1 v2 vg) (h1 : Below wr.heap.size wr w1) : Ev w w1 aw ag g7 g8 out n1 n2 v1 v2 vg :=
  ⟨h.mW.below h1, h.m1.below h1, h.m2.below h1, h.mG.below h1, h.bel.trans (h1.mono h.bel.size), h.q0, h.q1, h.q2⟩
theorem Ev.only1 (h : Ev w wr aw ag g7 g8 out n1 n2 v1 v2 vg) (ho : OnlyAt (some ⟨g7, 0, none⟩) n1 wr w1) (hm : MineV 37 w.heap.size w1 (some ⟨g7, 0, none⟩) n1 u) : Ev w w1 aw ag g7 g8 out n1 n2 u v2 vg := by
  obtain ⟨mW, m1, m2, mG, bel, q0, q1, q2⟩ := h
  refine ⟨mW.other ho ?_, hm, m2.other ho ?_, mG.other ho ?_, bel.trans (ho.below m1.base), q0, q1, q2⟩
  · rintro hl _ rfl
    have := q0 hl _ rfl
    omega
  · intro _ _ e
    have e' : g8 = g7 := congrArg (fun o : Option Addr => (o.getD ⟨0, 0, none⟩).block) e
    omega
  · rintro hl _ rfl
    have := q2 hl _ rfl
    omega
theorem Ev.only2 (h : Ev w wr aw ag g7 g8 out n1 n2 v1 v2 vg) (ho : OnlyAt (some ⟨g8, 0, none⟩) n2 wr w1) (hm : MineV 37 w.heap.size w1 (some ⟨g8, 0, none⟩) n2 u) : Ev w w1 aw ag g7 g8 out n1 n2 v1 u vg := by
  obtain ⟨mW, m1, m2, mG, bel, q0, q1, q2⟩ := h
  refine ⟨mW.other ho ?_, m1.other ho ?_, hm, mG.other ho ?_, bel.trans (ho.below m2.base), q0, q1, q2⟩
  · rintro hl _ rfl
    have := q0 hl _ rfl
    omega
  · intro _ _ e
    have e' : g7 = g8 := congrArg (fun o : Option Addr => (o.getD ⟨0, 0, none⟩).block) e
    omega
  · rintro hl _ rfl
    have := q2 hl _ rfl
    omega
theorem Ev.onlyG (h : Ev w wr aw ag g7 g8 out n1 n2 v1 v2 vg) (ho : OnlyAt ag out.length wr w1) (hm : MineV 37 w.heap.size w1 ag out.length u) : Ev w w1 aw ag g7 g8 out n1 n2 v1 v2 u := by
  obtain ⟨mW, m1, m2, mG, bel, q0, q1, q2⟩ := h
  refine ⟨mW.other ho ?_, m1.other ho ?_, m2.other ho ?_, hm, bel.trans (ho.below mG.base), q0, q1, q2⟩
  · rintro hl _ rfl
    rcases mG.2.2 with h0 | ⟨g, rest, rfl, _, _⟩
    · exact absurd h0 hl
    have h1 := q0 hl _ rfl
    have h2 := q2 hl _ rfl
    omega
  · intro _ hl e
    have := q2 hl _ e.symm
    omega
  · intro _ hl e
    have := q2 hl _ e.symm
    omega
end

set_option maxRecDepth 8000 in
set_option maxHeartbeats 8000000 in
theorem lawSolveEven (a : Option Addr) (len cap : Nat) (xs : List Nat) (a' : Option Addr) (len' cap' : Nat) (ys : List Nat) (w : World) (hm : len ≤ 9223372036854775807) (h : len ≤ 1048576 → FlS w a len xs) (hm' : len' ≤ 9223372036854775807) (h' : len' ≤ 1048576 → FlS w a' len' ys) :
    Calls Try.prog 9 #[.slice a len cap, .slice a' len' cap'] w (RetEv (.bool true) w) := by
  by_cases hlen : len ≤ 1048576
  · by_cases hlen' : len' ≤ 1048576
    · have hF := h hlen
      have hF' := h' hlen'
      have hxl : xs.length ≤ 1048576 := by rw [hF.len]; exact hlen
      have hyl : ys.length ≤ 1048576 := by rw [hF'.len]; exact hlen'
      clear h h'
      have cs := fun (W : World) a a' c c' (h1 : FlS W a xs.length xs) (h2 : FlS W a' ys.length ys) => specSolveEven a a' xs.length c ys.length c' xs ys W h1 h2
      have ci := fun (W : World) a a' c c' (h1 : FlS W a xs.length xs) (h2 : FlS W a' ys.length ys) => implSolveEven a a' xs.length c ys.length c' xs ys W h1 h2
      unfold NewFB at cs ci
      generalize okS xs.length ys.length xs ys = ok at *
      generalize outS xs.length ys.length xs ys = out at *
      go_enter Try.func9, Try.ntmps9
      go_wp2_with fail
      refine (toFloat32S _ _ _ _ _ hF).mono ?_
      rintro e w1 ⟨g1, rfl, hg1, ho1, hb1⟩
      go_wp2_with fail
      refine (toFloat32S _ _ _ _ _ (hF'.below hb1)).mono ?_
      rintro e w2 ⟨g2, rfl, hg2, ho2, hb2⟩
      have hb12 := hb1.trans (hb2.mono hb1.size)
      go_wp2_with fail
      refine (cs _ _ _ _ _ (FlS.of_own (ho1.below hb2) hxl) (FlS.of_own ho2 hyl)).mono ?_
      rintro e w3 ⟨aw, cw, rfl, hW3, hb3⟩
      have hB3 := hb12.trans (hb3.mono hb12.size)
      have hW3 := hW3.mono hb12.size
      have hol := hW3.2.1
      clear hb1 hb2 hb12 hb3 ho1 ho2 hg1 hg2
      go_wp2_with fail
      refine (toFloat32S _ _ _ _ _ (hF.below hB3)).mono ?_
      rintro e w4 ⟨g7, rfl, hg7, ho7, hb4⟩
      have k0 : out.length ≠ 0 → ∀ g, aw = some ⟨g, 0, none⟩ → g < g7 := fun hl g e => by
        have := hW3.old hl g e
        omega
      have hW4 := hW3.below hb4
      have hB4 := hB3.trans (hb4.mono hB3.size)
      go_wp2_with fail
      refine (toFloat32S _ _ _ _ _ (hF'.below hB4)).mono ?_
      rintro e w5 ⟨g8, rfl, hg8, ho8, hb5⟩
      have k1 : g7 < g8 := by have := ho7.lt; omega
      have ho75 := ho7.below hb5
      have hW5 := hW4.below hb5
      have hB5 := hB4.trans (hb5.mono hB4.size)
      have g7l : w.heap.size ≤ g7 := by have := hB3.size; omega
      have g8l : w.heap.size ≤ g8 := by omega
      go_wp2_with fail
      refine (ci _ _ _ _ _ (FlS.of_own ho75 hxl) (FlS.of_own ho8 hyl)).mono ?_
      rintro e w6 ⟨ag, cg, rfl, hG6, hb6⟩
      have k2 : out.length ≠ 0 → ∀ g, ag = some ⟨g, 0, none⟩ → g8 < g := fun hl g e => by
        have := hG6.base hl g e
        have := ho8.lt
        omega
      have he6 : Ev w w6 aw ag g7 g8 out xs.length ys.length (fls xs) (fls ys) (fls out) :=
        ⟨hW5.below hb6, ⟨fls_len xs, hxl, .inr ⟨g7, [], rfl, g7l, by simpa using ho75.below hb6⟩⟩, ⟨fls_len ys, hyl, .inr ⟨g8, [], rfl, g8l, by simpa using ho8.below hb6⟩⟩, hG6.mono hB5.size, hB5.trans (hb6.mono hB5.size), k0, k1, k2⟩
      clear hW3 hB3 ho7 hb4 k0 hW4 hB4 ho8 hb5 k1 ho75 hW5 hB5 g7l g8l hG6 hb6 k2 hg7 hg8
      go_wp2_with fail
      refine (eqFloat32S _ _ _ _ _ _ _ _ he6.mG.fls he6.mW.fls (Same.refl _)).mono ?_
      rintro e w7 ⟨rfl, hd7⟩
      have he7 := he6.next (hd7.below _)
      clear he6 hd7
      go_wp2_with fail
      refine (toFloat32S _ _ _ _ _ (hF.below he7.bel)).mono ?_
      rintro e w8 ⟨g9, rfl, hg9, ho9, hb8⟩
      have he8 := he7.next hb8
      clear he7 hb8
      go_wp2_with fail
      refine (eqFloat32S _ _ _ _ _ _ _ _ he8.m1.fls (FlS.of_own ho9 hxl) (Same.refl _)).mono ?_
      rintro e w9 ⟨rfl, hd9⟩
      have he9 := he8.next (hd9.below _)
      clear he8 hd9 ho9
      go_wp2_with fail
      refine (toFloat32S _ _ _ _ _ (hF'.below he9.bel)).mono ?_
      rintro e w10 ⟨g10, rfl, hg10, ho10, hb10⟩
      have he10 := he9.next hb10
      clear he9 hb10
      go_wp2_with fail
      refine (eqFloat32S _ _ _ _ _ _ _ _ he10.m2.fls (FlS.of_own ho10 hyl) (Same.refl _)).mono ?_
      rintro e w11 ⟨rfl, hd11⟩
      have he11 := he10.next (hd11.below _)
      clear he10 hd11 ho10
      go_wp2_with fail
      refine (markFloatsB w.heap.size _ _ _ xs 1 (by omega) _ he11.m1).mono ?_
      rintro e w12 ⟨rfl, hm12, ho12⟩
      have he12 := he11.only1 ho12 hm12
      clear he11 hm12 ho12
      go_wp2_with fail
      refine (markFloatsB w.heap.size _ _ _ ys (1 + xs.length) (by omega) _ he12.m2).mono ?_
      rintro e w13 ⟨rfl, hm13, ho13⟩
      have he13 := he12.only2 ho13 hm13
      clear he12 hm13 ho13
      go_wp2_with fail
      refine (eqFloat32S _ _ _ _ _ _ _ _ he13.mG.fls he13.mW.fls (Same.refl _)).mono ?_
      rintro e w14 ⟨rfl, hd14⟩
      have he14 := he13.next (hd14.below _)
      clear he13 hd14
      go_wp2_with fail
      refine (markFloatsB w.heap.size _ _ _ out 1 (by omega) _ he14.mG).mono ?_
      rintro e w15 ⟨rfl, hm15, ho15⟩
      have he15 := he14.onlyG ho15 hm15
      clear he14 hm15 ho15
      go_wp2_with fail
      refine (heldFloat32S w.heap.size _ _ _ 1 (by omega) _ he15.mG).mono ?_
      rintro e w16 ⟨rfl, rfl⟩
      go_wp2_with fail
      refine (toFloat32S _ _ _ _ _ (hF.below he15.bel)).mono ?_
      rintro e w17 ⟨g17, rfl, hg17, ho17, hb17⟩
      have he17 := he15.next hb17
      clear he15 hb17
      go_wp2_with fail
      refine (toFloat32S _ _ _ _ _ (hF'.below he17.bel)).mono ?_
      rintro e w18 ⟨g18, rfl, hg18, ho18, hb18⟩
      have he18 := he17.next hb18
      have ho17 := ho17.below hb18
      clear he17 hb18
      go_wp2_with fail
      refine (ci _ _ _ _ _ (FlS.of_own ho17 hxl) (FlS.of_own ho18 hyl)).mono ?_
      rintro e w19 ⟨ah, ch, rfl, hH19, hb19⟩
      have he19 := he18.next hb19
      clear he18 hb19 ho17 ho18
      go_wp2_with fail
      refine (eqFloat32S _ _ _ _ _ _ _ _ hH19.fls he19.mW.fls (Same.refl _)).mono ?_
      rintro e w20 ⟨rfl, hd20⟩
      have he20 := he19.next (hd20.below _)
      clear he19 hd20 hH19
      go_wp2_with fail
      refine (heldFloat32S w.heap.size _ _ _ 1 (by omega) _ he20.mG).mono ?_
      rintro e w21 ⟨rfl, rfl⟩
      go_wp2
      go_ret
      exact ⟨rfl, he20.bel⟩
    · go_enter Try.func9, Try.ntmps9
      go_wp2
      go_ret
      exact ⟨rfl, Below.refl _ _⟩
  · go_enter Try.func9, Try.ntmps9
    go_wp2
    go_ret
    exact ⟨rfl, Below.refl _ _⟩
end Go.Proofs.Ytikdagkopalojaa
