/-
  Two grids weighed: the specification, whole; and what the law keeps in memory.
-/
import Derived.Test.YtcmdmecmgoabaaaWeigh4
import Derived.Test.YtcmdmecmgoabaaaBox
namespace Go.Proofs.Ytcmdmecmgoabaaa
open Go.RowKit Go.Shelf
attribute [local go_sem] order_cl cl_zero cl_one cl_two aord_none

theorem specWeighGrids (wa ha : Int) (a : Option Addr) (len cap : Nat) (xs : List Nat) (wb hb : Int) (a' : Option Addr) (len' cap' : Nat) (ys : List Nat) (x y : Nat) (w : World) (h : FlS w a len xs) (h' : FlS w a' len' ys) :
    Calls Try.prog 35 #[GV wa ha a len cap, GV wb hb a' len' cap', .float .f32 x, .float .f32 y] w (NewG wa ha (weighs (cl .f32 x) (cl .f32 y) xs ys) (okW wa ha wb hb xs ys (cl .f32 x) (cl .f32 y) && validB wa ha (weighs (cl .f32 x) (cl .f32 y) xs ys)) w) := by
  cases hok : okW wa ha wb hb xs ys (cl .f32 x) (cl .f32 y) with
  | false =>
    rw [Bool.false_and]
    exact specWeighNo wa ha a len cap xs wb hb a' len' cap' ys x y w _ h h' hok
  | true =>
    obtain ⟨hA, hB, rfl, rfl, hX, hY⟩ := okW_parts hok
    obtain ⟨_, e1, _⟩ := valid_parts hA
    obtain ⟨_, e2, _⟩ := valid_parts hB
    have hl := h.len
    have hl' := h'.len
    obtain rfl : len = len' := by omega
    rw [Bool.true_and]
    refine (specWeighYes wa ha a len cap xs a' cap' ys x y w h h' hA hB hX hY).mono fun e w' he => ?_
    have := MadeG.canon he
    unfold weighs
    rw [hl]
    exact this

/-- What the law keeps: the two arguments, the two copies, what is wanted, what was got. -/
structure Wg (w wr : World) (wa ha : Int) (a : Option Addr) (len cap : Nat) (wb hb : Int) (a' : Option Addr) (len' cap' : Nat) (X Y : Int) (aw : Option Addr) (cw : Nat) (ag : Option Addr) (cg : Nat) (out : List Nat) (p10 g12 p12 g13 p13 p14 : Nat) (n1 n2 : Nat) (v1 v2 vg : List Value) : Prop where
  A : Box wr w.heap.size wa ha a len cap
  B : Box wr (w.heap.size + 1) wb hb a' len' cap'
  P0 : Box wr p10 X Y aw out.length cw
  P1 : Box wr p12 wa ha (some ⟨g12, 0, none⟩) n1 n1
  P2 : Box wr p13 wb hb (some ⟨g13, 0, none⟩) n2 n2
  P4 : Box wr p14 X Y ag out.length cg
  mW : MineV 22 w.heap.size wr aw out.length (fls out)
  m1 : MineV 22 w.heap.size wr (some ⟨g12, 0, none⟩) n1 v1
  m2 : MineV 22 w.heap.size wr (some ⟨g13, 0, none⟩) n2 v2
  mG : MineV 22 w.heap.size wr ag out.length vg
  bel : Below w.heap.size w wr
  q0 : out.length ≠ 0 → ∀ g, aw = some ⟨g, 0, none⟩ → w.heap.size + 1 < g ∧ g ≠ p10 ∧ g < g12
  q1 : w.heap.size + 1 < p10
  q2 : p10 < g12
  q3 : g12 < p12
  q4 : p12 < g13
  q5 : g13 < p13
  q6 : p13 < p14
  q7 : out.length ≠ 0 → ∀ g, ag = some ⟨g, 0, none⟩ → p13 < g ∧ g < p14

section
variable {w wr w1 : World} {wa ha : Int} {a : Option Addr} {len cap : Nat} {wb hb : Int} {a' : Option Addr} {len' cap' : Nat} {X Y : Int} {aw : Option Addr} {cw : Nat} {ag : Option Addr} {cg : Nat} {out : List Nat} {p10 g12 p12 g13 p13 p14 : Nat} {n1 n2 : Nat} {v1 v2 vg u : List Value}
theorem Wg.next (h : Wg w wr wa ha a len cap wb hb a' len' cap' X Y aw cw ag cg out p10 g12 p12 g13 p13 p14 n1 n2 v1 v2 vg) (h1 : Below wr.heap.size wr w1) : Wg w w1 wa ha a len cap wb hb a' len' cap' X Y aw cw ag cg out p10 g12 p12 g13 p13 p14 n1 n2 v1 v2 vg :=
  ⟨h.A.next h1, h.B.next h1, h.P0.next h1, h.P1.next h1, h.P2.next h1, h.P4.next h1, h.mW.below h1, h.m1.below h1, h.m2.below h1, h.mG.below h1, h.bel.trans (h1.mono h.bel.size), h.q0, h.q1, h.q2, h.q3, h.q4, h.q5, h.q6, h.q7⟩

theorem Wg.only1 (h : Wg w wr wa ha a len cap wb hb a' len' cap' X Y aw cw ag cg out p10 g12 p12 g13 p13 p14 n1 n2 v1 v2 vg) (ho : OnlyAt (some ⟨g12, 0, none⟩) n1 wr w1) (hm : MineV 22 w.heap.size w1 (some ⟨g12, 0, none⟩) n1 u) :
    Wg w w1 wa ha a len cap wb hb a' len' cap' X Y aw cw ag cg out p10 g12 p12 g13 p13 p14 n1 n2 u v2 vg := by
  obtain ⟨hA, hB, hP0, hP1, hP2, hP4, mW, m1, m2, mG, bel, q0, q1, q2, q3, q4, q5, q6, q7⟩ := h
  have ne : ∀ p, p ≠ g12 → n1 ≠ 0 → ∀ g, (some ⟨g12, 0, none⟩ : Option Addr) = some ⟨g, 0, none⟩ → p ≠ g := fun p hp _ g e => by simp at e; omega
  refine ⟨hA.only ho (ne _ (by omega)), hB.only ho (ne _ (by omega)), hP0.only ho (ne _ (by omega)), hP1.only ho (ne _ (by omega)), hP2.only ho (ne _ (by omega)), hP4.only ho (ne _ (by omega)), mW.other ho ?_, hm, m2.other ho ?_, mG.other ho ?_, bel.trans (ho.below m1.base), q0, q1, q2, q3, q4, q5, q6, q7⟩
  · rintro hl _ rfl
    have := q0 hl _ rfl
    omega
  · intro _ _ e
    simp at e
  · rintro hl _ rfl
    have := q7 hl _ rfl
    omega
theorem Wg.only2 (h : Wg w wr wa ha a len cap wb hb a' len' cap' X Y aw cw ag cg out p10 g12 p12 g13 p13 p14 n1 n2 v1 v2 vg) (ho : OnlyAt (some ⟨g13, 0, none⟩) n2 wr w1) (hm : MineV 22 w.heap.size w1 (some ⟨g13, 0, none⟩) n2 u) :
    Wg w w1 wa ha a len cap wb hb a' len' cap' X Y aw cw ag cg out p10 g12 p12 g13 p13 p14 n1 n2 v1 u vg := by
  obtain ⟨hA, hB, hP0, hP1, hP2, hP4, mW, m1, m2, mG, bel, q0, q1, q2, q3, q4, q5, q6, q7⟩ := h
  have ne : ∀ p, p ≠ g13 → n2 ≠ 0 → ∀ g, (some ⟨g13, 0, none⟩ : Option Addr) = some ⟨g, 0, none⟩ → p ≠ g := fun p hp _ g e => by simp at e; omega
  refine ⟨hA.only ho (ne _ (by omega)), hB.only ho (ne _ (by omega)), hP0.only ho (ne _ (by omega)), hP1.only ho (ne _ (by omega)), hP2.only ho (ne _ (by omega)), hP4.only ho (ne _ (by omega)), mW.other ho ?_, m1.other ho ?_, hm, mG.other ho ?_, bel.trans (ho.below m2.base), q0, q1, q2, q3, q4, q5, q6, q7⟩
  · rintro hl _ rfl
    have := q0 hl _ rfl
    omega
  · intro _ _ e
    simp at e
  · rintro hl _ rfl
    have := q7 hl _ rfl
    omega
theorem Wg.onlyG (h : Wg w wr wa ha a len cap wb hb a' len' cap' X Y aw cw ag cg out p10 g12 p12 g13 p13 p14 n1 n2 v1 v2 vg) (ho : OnlyAt ag out.length wr w1) (hm : MineV 22 w.heap.size w1 ag out.length u) :
    Wg w w1 wa ha a len cap wb hb a' len' cap' X Y aw cw ag cg out p10 g12 p12 g13 p13 p14 n1 n2 v1 v2 u := by
  obtain ⟨hA, hB, hP0, hP1, hP2, hP4, mW, m1, m2, mG, bel, q0, q1, q2, q3, q4, q5, q6, q7⟩ := h
  have ne : ∀ p, (p ≤ p13 ∨ p14 ≤ p) → out.length ≠ 0 → ∀ g, ag = some ⟨g, 0, none⟩ → p ≠ g := fun p hp hl g e => by
    have := q7 hl g e
    omega
  refine ⟨hA.only ho (ne _ (by omega)), hB.only ho (ne _ (by omega)), hP0.only ho (ne _ (by omega)), hP1.only ho (ne _ (by omega)), hP2.only ho (ne _ (by omega)), hP4.only ho (ne _ (by omega)), mW.other ho ?_, m1.other ho ?_, m2.other ho ?_, hm, bel.trans (ho.below mG.base), q0, q1, q2, q3, q4, q5, q6, q7⟩
  · rintro hl _ rfl
    rcases mG.2.2 with h0 | ⟨g, rest, rfl, _, _⟩
    · exact absurd h0 hl
    have h1 := q0 hl _ rfl
    have h2 := q7 hl _ rfl
    omega
  · intro _ hl e
    have := q7 hl _ e.symm
    omega
  · intro _ hl e
    have := q7 hl _ e.symm
    omega
end
/-! ### Marks that begin further on -/
theorem markFloatsB (B : Nat) (a : Option Addr) (len cap : Nat) (xs : List Nat) (k : Int) (hk : 0 ≤ k ∧ k ≤ 2000000) (w : World) (h : MineV 22 B w a len (fls xs)) :
    Calls Try.prog 69 #[.slice a len cap, .int .i64 k] w (MarkedF B a len k w) := by
  have hm := h.2.1
  have hl := h.1
  rcases h.2.2 with h0 | ⟨g, rest, rfl, hB, ho⟩
  · subst h0
    go_enter Try.func69, Try.ntmps69
    go_wp2
    go_loopw [1, 5] (fun m i wr => m = .int .i64 k ∧ i = .int .i64 0 ∧ w = wr) (fun _ _ _ => 0)
    case atStart => exact ⟨rfl, rfl, rfl⟩
    case round =>
      obtain ⟨rfl, rfl, rfl⟩ := hrel
      go_wp2
      go_ret
      exact ⟨by simp, ⟨rfl, by omega, .inl rfl⟩, OnlyAt.refl _ _ _⟩
  · have hnew : (fls (markF len k)).length = (fls xs).length := by rw [markF_len, hl]
    go_enter Try.func69, Try.ntmps69
    go_wp2
    go_loopw [1, 5] (fun m i wr => ∃ n : Nat, n ≤ len ∧ i = .int .i64 n ∧ m = .int .i64 (k + n) ∧ Own 22 wr g (turnV (fls xs) (fls (markF len k)) n ++ rest) ∧ OnlyAt (some ⟨g, 0, none⟩) len w wr) (fun _ i _ => len - (intOf i).toNat)
    case atStart => exact ⟨0, Nat.zero_le _, rfl, by simp, by rw [turnV_zero]; exact ho, OnlyAt.refl _ _ _⟩
    case round =>
      obtain ⟨n, hn, rfl, rfl, ho', hoa⟩ := hrel
      clear ho
      by_cases hlt : n < len
      · have hne : len ≠ 0 := by omega
        have hget := markF_get (n := len) (k := k) (i := n) hlt
        have d0 : wr.cell? ⟨g, n, none⟩ = some (.float .f32 (xs.getD n 0)) := ho'.at ((turnV_at rest (by omega) hnew).trans (fls_get (by rw [← fls_len]; omega)))
        have f0 := ho'.free n
        go_wp2
        go_roundw
        case rel =>
          refine ⟨n + 1, by omega, by go_num, by go_num, ?_, hoa.set hne _ _⟩
          rw [← turnV_set rest (by omega) hnew hget]
          exact ho'.set _ _
        case measure => simp [intOf]; omega
      · go_wp2
        go_ret
        obtain rfl : n = len := by omega
        refine ⟨rfl, ⟨markF_len _ _, hm, .inr ⟨g, rest, rfl, hB, ?_⟩⟩, hoa⟩
        rw [← hl] at ho'
        rw [turnV_full (by rw [hl]; exact hnew.trans hl), hl] at ho'
        exact ho'
theorem markGridB (B : Nat) (wide high : Int) (a : Option Addr) (len cap : Nat) (xs : List Nat) (k : Int) (hk : 0 ≤ k ∧ k ≤ 2000000) (w : World) (h : MineV 22 B w a len (fls xs)) :
    Calls Try.prog 28 #[GV wide high a len cap, .int .i64 k] w (MarkedG B a len k w) := by
  have hb : ∀ o, Below w.heap.size w (w.alloc o) := fun o => (Below.refl _ _).alloc (Nat.le_refl _) _
  have call := markFloatsB B a len cap xs k hk _ (h.below (hb (.cells #[.int .i64 wide, .int .i64 high, .slice a len cap] 33)))
  unfold GV
  go_enter Try.func28, Try.ntmps28
  go_wp2_with (go_at_call 69; refine call.mono ?_; rintro e w' ⟨rfl, hm, ho⟩)
  go_ret
  exact ⟨_, hb _, rfl, hm, ho⟩

/-! ### What a call hands back, laid into a box that was made at any time -/
section
variable {w2 w5 : World} {p : Nat} {X Y : Int} {aw : Option Addr} {len cw : Nat} {vs : List Value}
theorem box_end (hb : Below w2.heap.size w2 w5) (hp : w2.heap.size ≤ p) (oP : Own 33 w5 p [.int .i64 0, .int .i64 0, .slice none 0 0]) (hM : MineV 22 w2.heap.size w5 aw len vs) (far : len ≠ 0 → ∀ g, aw = some ⟨g, 0, none⟩ → p ≠ g) :
    Box (((w5.setCell ⟨p, 0, none⟩ (.int .i64 X)).setCell ⟨p, 1, none⟩ (.int .i64 Y)).setCell ⟨p, 2, none⟩ (.slice aw len cw)) p X Y aw len cw ∧
    MineV 22 w2.heap.size (((w5.setCell ⟨p, 0, none⟩ (.int .i64 X)).setCell ⟨p, 1, none⟩ (.int .i64 Y)).setCell ⟨p, 2, none⟩ (.slice aw len cw)) aw len vs ∧
    Below w2.heap.size w2 (((w5.setCell ⟨p, 0, none⟩ (.int .i64 X)).setCell ⟨p, 1, none⟩ (.int .i64 Y)).setCell ⟨p, 2, none⟩ (.slice aw len cw)) := by
  have o := ((oP.set 0 (.int .i64 X)).set 1 (.int .i64 Y)).set 2 (.slice aw len cw)
  refine ⟨⟨o.lt, o.at (k := 0) rfl, o.at (k := 1) rfl, o.at (k := 2) rfl⟩, ?_, ((hb.setCell hp _).setCell hp _).setCell hp _⟩
  by_cases hl : len = 0
  · exact ⟨hM.1, hM.2.1, .inl hl⟩
  · exact ((hM.setFar (fun g e => (far hl g e).symm) _).setFar (fun g e => (far hl g e).symm) _).setFar (fun g e => (far hl g e).symm) _
theorem box_end' (hb : Below w2.heap.size w2 w5) (hM : MineV 22 w2.heap.size w5 aw len vs) :
    Box (w5.alloc (.cells #[.int .i64 X, .int .i64 Y, .slice aw len cw] 33)) w5.heap.size X Y aw len cw ∧
    MineV 22 w2.heap.size (w5.alloc (.cells #[.int .i64 X, .int .i64 Y, .slice aw len cw] 33)) aw len vs ∧
    Below w2.heap.size w2 (w5.alloc (.cells #[.int .i64 X, .int .i64 Y, .slice aw len cw] 33)) :=
  ⟨Box.new _ _ _ _ _ _ _, hM.below ((Below.refl _ _).alloc (Nat.le_refl _) _), hb.alloc hb.size _⟩
end
end Go.Proofs.Ytcmdmecmgoabaaa
