/-
  Two grids weighed: the program's words, whole.
-/
import Derived.Test.YtcmdmecmgoabaaaWeigh3
namespace Go.Proofs.Ytcmdmecmgoabaaa
open Go.RowKit Go.Shelf

/-- The five boxes of the call. -/
structure WI (w wr : World) (A B : List Value) (x y : Nat) : Prop where
  o1 : Own 33 wr w.heap.size A
  o2 : Own 33 wr (w.heap.size + 1) B
  o3 : Own 22 wr (w.heap.size + 2) [.float .f32 x]
  o4 : Own 22 wr (w.heap.size + 3) [.float .f32 y]
  o5 : Own 33 wr (w.heap.size + 4) [.int .i64 0, .int .i64 0, .slice none 0 0]
  bel : Below w.heap.size w wr
theorem WI.next {w wr w1 : World} {A B : List Value} {x y : Nat} (h : WI w wr A B x y) (hb : Below wr.heap.size wr w1) : WI w w1 A B x y :=
  ⟨h.o1.below hb, h.o2.below hb, h.o3.below hb, h.o4.below hb, h.o5.below hb, h.bel.trans (hb.mono h.bel.size)⟩
theorem WI.start (w : World) (A B : List Value) (x y : Nat) :
    WI w (((((w.alloc (.cells A.toArray 33)).alloc (.cells B.toArray 33)).alloc (.cells #[.float .f32 x] 22)).alloc (.cells #[.float .f32 y] 22)).alloc (.cells #[.int .i64 0, .int .i64 0, .slice none 0 0] 33)) A B x y := by
  have o1 := Own.new w A 33
  have o2 := Own.new (w.alloc (.cells A.toArray 33)) B 33
  have o3 := Own.new ((w.alloc (.cells A.toArray 33)).alloc (.cells B.toArray 33)) [.float .f32 x] 22
  have o4 := Own.new (((w.alloc (.cells A.toArray 33)).alloc (.cells B.toArray 33)).alloc (.cells #[.float .f32 x] 22)) [.float .f32 y] 22
  have o5 := Own.new ((((w.alloc (.cells A.toArray 33)).alloc (.cells B.toArray 33)).alloc (.cells #[.float .f32 x] 22)).alloc (.cells #[.float .f32 y] 22)) [.int .i64 0, .int .i64 0, .slice none 0 0] 33
  simp only [World.size_alloc] at o2 o3 o4 o5
  exact ⟨(((o1.alloc _).alloc _).alloc _).alloc _, ((o2.alloc _).alloc _).alloc _, (o3.alloc _).alloc _, o4.alloc _, o5, (((((Below.refl _ _).alloc (Nat.le_refl _) _).alloc (by simp) _).alloc (by simp; omega) _).alloc (by simp; omega) _).alloc (by simp; omega) _⟩

/-- The function of the places. -/
theorem weighMakes {w wr : World} {wa ha wb hb : Int} {a a' : Option Addr} {len cap len' cap' x y : Nat} {xs ys : List Nat} (hi : WI w wr [.int .i64 wa, .int .i64 ha, .slice a len cap] [.int .i64 wb, .int .i64 hb, .slice a' len' cap'] x y) (h : FlS w a len xs) (h' : FlS w a' len' ys) (hl : len ≤ len') :
    Makes 78 #[.pointer (some ⟨w.heap.size + 2, 0, none⟩), .pointer (some ⟨w.heap.size, 0, none⟩), .pointer (some ⟨w.heap.size + 3, 0, none⟩), .pointer (some ⟨w.heap.size + 1, 0, none⟩)] len (weighC (cl .f32 x) (cl .f32 y) xs ys) wr := fun W i hlt hbW => by
  have hiW := hi.next hbW
  obtain ⟨b, off, z, rfl, hbb, _, hz⟩ := (h.below hiW.bel).get hlt
  obtain ⟨b', off', z', rfl, hbb', _, hz'⟩ := (h'.below hiW.bel).get (k := i) (by omega)
  have c1 := hiW.o1.at (k := 2) rfl
  have c2 := hiW.o2.at (k := 2) rfl
  have c3 := hiW.o3.at (k := 0) rfl
  have c4 := hiW.o4.at (k := 0) rfl
  rename_i e1 e2
  unfold weighC
  rw [hz.out, hz'.out]
  exact (weighAt W i _ _ _ _ b off b' off' len cap len' cap' x y z z' c3 c1 e1 c4 c2 e2 hlt (by omega)).mono fun e w' ⟨r, he, hr, hd⟩ => ⟨r, he, hr, hd.below _⟩

theorem weigh_end {w wr : World} {wa ha : Int} {A B : List Value} {x y : Nat} {zs : List Nat} (hi : WI w wr A B x y) (v0 v1 v2 : Value) (d : Nat) :
    NewG wa ha zs false w (.returned (.tuple #[GV 0 0 none 0 0, .bool false])) ((((wr.setCell ⟨w.heap.size + 4, 0, none⟩ v0).setCell ⟨w.heap.size + 4, 1, none⟩ v1).setCell ⟨w.heap.size + 4, 2, none⟩ v2).drewN d) :=
  NewG.no (below_drewN (((hi.bel.setCell (by simp) _).setCell (by simp) _).setCell (by simp) _) _)

set_option maxRecDepth 8000 in
set_option maxHeartbeats 4000000 in
theorem implWeighGrids (wa ha : Int) (a : Option Addr) (len cap : Nat) (xs : List Nat) (wb hb : Int) (a' : Option Addr) (len' cap' : Nat) (ys : List Nat) (x y : Nat) (w : World) (h : FlS w a len xs) (h' : FlS w a' len' ys) :
    Calls Try.prog 36 #[GV wa ha a len cap, GV wb hb a' len' cap', .float .f32 x, .float .f32 y] w (NewG wa ha (weighs (cl .f32 x) (cl .f32 y) xs ys) (okW wa ha wb hb xs ys (cl .f32 x) (cl .f32 y) && validB wa ha (weighs (cl .f32 x) (cl .f32 y) xs ys)) w) := by
  unfold GV
  have hi0 := WI.start w [.int .i64 wa, .int .i64 ha, .slice a len cap] [.int .i64 wb, .int .i64 hb, .slice a' len' cap'] x y
  have call1 := implValidGrid wa ha a len cap xs _ (h.below hi0.bel)
  unfold GV at call1
  obtain ⟨ok, hok⟩ : ∃ ok, okW wa ha wb hb xs ys (cl .f32 x) (cl .f32 y) = ok := ⟨_, rfl⟩
  rw [hok]
  cases hA : validB wa ha xs with
  | false =>
    obtain rfl : ok = false := by rw [← hok]; unfold okW; rw [hA]; rfl
    rw [hA] at call1
    go_enter Try.func36, Try.ntmps36
    go_wp2_with fail
    refine call1.mono ?_
    rintro e w1 ⟨rfl, hb1⟩
    have hi1 := hi0.next hb1
    have s0 := hi1.o5.at (k := 0) rfl
    have s1 := hi1.o5.at (k := 1) rfl
    have s2 := hi1.o5.at (k := 2) rfl
    have t0 := hi1.o5.free 0
    have t1 := hi1.o5.free 1
    have t2 := hi1.o5.free 2
    clear hi0 hb1 call1
    go_wp2
    exact bodyPost_ret (v := .tuple #[.agg #[.int .i64 0, .int .i64 0, .slice none 0 0], .bool false]) (by simp [results, Try.results36, go_sem, s0, s1, s2]) rfl (weigh_end hi1 _ _ _ 0)
  | true =>
    rw [hA] at call1
    go_enter Try.func36, Try.ntmps36
    go_wp2_with fail
    refine call1.mono ?_
    rintro e w1 ⟨rfl, hb1⟩
    have hi1 := hi0.next hb1
    clear hi0 hb1 call1
    have a0 := hi1.o1.at (k := 0) rfl
    have a1 := hi1.o1.at (k := 1) rfl
    have a2 := hi1.o1.at (k := 2) rfl
    have b0 := hi1.o2.at (k := 0) rfl
    have b1 := hi1.o2.at (k := 1) rfl
    have b2 := hi1.o2.at (k := 2) rfl
    have x0 := hi1.o3.at (k := 0) rfl
    have y0 := hi1.o4.at (k := 0) rfl
    have s0 := hi1.o5.at (k := 0) rfl
    have s1 := hi1.o5.at (k := 1) rfl
    have s2 := hi1.o5.at (k := 2) rfl
    have t0 := hi1.o5.free 0
    have t1 := hi1.o5.free 1
    have t2 := hi1.o5.free 2
    have call2 := implValidGrid wb hb a' len' cap' ys _ (h'.below hi1.bel)
    unfold GV at call2
    go_wp2_with fail
    refine call2.mono ?_
    clear call2 a0 a1 a2 b0 b1 b2 x0 y0 s0 s1 s2 t0 t1 t2
    cases hB : validB wb hb ys with
    | false =>
      obtain rfl : ok = false := by rw [← hok]; unfold okW; rw [hA, hB]; rfl
      rintro e w2 ⟨rfl, hb2⟩
      have hi2 := hi1.next hb2
      have s0 := hi2.o5.at (k := 0) rfl
      have s1 := hi2.o5.at (k := 1) rfl
      have s2 := hi2.o5.at (k := 2) rfl
      have t0 := hi2.o5.free 0
      have t1 := hi2.o5.free 1
      have t2 := hi2.o5.free 2
      go_wp2
      exact bodyPost_ret (v := .tuple #[.agg #[.int .i64 0, .int .i64 0, .slice none 0 0], .bool false]) (by simp [results, Try.results36, go_sem, s0, s1, s2]) rfl (weigh_end hi2 _ _ _ 0)
    | true =>
      rintro e w2 ⟨rfl, hb2⟩
      have hi2 := hi1.next hb2
      clear hi1 hb2
      have a0 := hi2.o1.at (k := 0) rfl
      have a1 := hi2.o1.at (k := 1) rfl
      have a2 := hi2.o1.at (k := 2) rfl
      have b0 := hi2.o2.at (k := 0) rfl
      have b1 := hi2.o2.at (k := 1) rfl
      have b2 := hi2.o2.at (k := 2) rfl
      have x0 := hi2.o3.at (k := 0) rfl
      have y0 := hi2.o4.at (k := 0) rfl
      have s0 := hi2.o5.at (k := 0) rfl
      have s1 := hi2.o5.at (k := 1) rfl
      have s2 := hi2.o5.at (k := 2) rfl
      have t0 := hi2.o5.free 0
      have t1 := hi2.o5.free 1
      have t2 := hi2.o5.free 2
      by_cases e1 : wa = wb
      case neg =>
        obtain rfl : ok = false := by rw [← hok]; unfold okW; simp [e1]
        go_wp2
        exact bodyPost_ret (v := .tuple #[.agg #[.int .i64 0, .int .i64 0, .slice none 0 0], .bool false]) (by simp [results, Try.results36, go_sem, s0, s1, s2]) rfl (weigh_end hi2 _ _ _ 0)
      by_cases e2 : ha = hb
      case neg =>
        obtain rfl : ok = false := by rw [← hok]; unfold okW; simp [e2]
        go_wp2
        exact bodyPost_ret (v := .tuple #[.agg #[.int .i64 0, .int .i64 0, .slice none 0 0], .bool false]) (by simp [results, Try.results36, go_sem, s0, s1, s2]) rfl (weigh_end hi2 _ _ _ 0)
      subst e1
      subst e2
      have oN := Own.new w2 (fls [x, y]) 22
      have hbN : Below w2.heap.size w2 (w2.alloc (.cells (fls [x, y]).toArray 22)) := (Below.refl _ _).alloc (Nat.le_refl _) _
      have hi3 := hi2.next hbN
      have call3 := areFinite _ 2 2 [x, y] _ (FlS.of_own (zs := [x, y]) oN (by simp))
      have hfin : finAll [x, y] = (isNum .f32 (cl .f32 x) && isNum .f32 (cl .f32 y)) := by simp [finAll]
      rw [hfin] at call3
      have eok : okW wa ha wa ha xs ys (cl .f32 x) (cl .f32 y) = (isNum .f32 (cl .f32 x) && isNum .f32 (cl .f32 y)) := by unfold okW; rw [hA, hB]; simp
      rw [eok] at hok
      clear hfin eok oN
      go_wp2_with fail
      refine call3.mono ?_
      rintro e w3 ⟨rfl, hd3⟩
      have hi4 := hi3.next (hd3.below _)
      clear hi2 hi3 hbN hd3 call3 a0 a1 a2 b0 b1 b2 x0 y0 s0 s1 s2 t0 t1 t2
      have a0 := hi4.o1.at (k := 0) rfl
      have a1 := hi4.o1.at (k := 1) rfl
      have a2 := hi4.o1.at (k := 2) rfl
      have b0 := hi4.o2.at (k := 0) rfl
      have b1 := hi4.o2.at (k := 1) rfl
      have b2 := hi4.o2.at (k := 2) rfl
      have x0 := hi4.o3.at (k := 0) rfl
      have y0 := hi4.o4.at (k := 0) rfl
      have s0 := hi4.o5.at (k := 0) rfl
      have s1 := hi4.o5.at (k := 1) rfl
      have s2 := hi4.o5.at (k := 2) rfl
      have t0 := hi4.o5.free 0
      have t1 := hi4.o5.free 1
      have t2 := hi4.o5.free 2
      rw [hok]
      cases ok with
      | false =>
        go_wp2
        exact bodyPost_ret (v := .tuple #[.agg #[.int .i64 0, .int .i64 0, .slice none 0 0], .bool false]) (by simp [results, Try.results36, go_sem, s0, s1, s2]) rfl (weigh_end hi4 _ _ _ 0)
      | true =>
        obtain ⟨hs, hn, hfa⟩ := valid_parts hA
        obtain ⟨_, hn', _⟩ := valid_parts hB
        have call4 := madeGrid wa ha 78 _ xs.length _ w3 hs hn.symm (enters_of Try.func78 (by kernel_rfl) rfl) (by have := weighMakes hi4 h h' (by rw [← h.len, ← h'.len]; omega); rw [← h.len] at this; exact this)
        go_wp2_with fail
        refine call4.mono ?_
        intro e w5 he
        have hsz3 : w.heap.size + 4 < w3.heap.size := hi4.o5.lt
        obtain ⟨ar, cr, he, hM, hb5⟩ := MadeG.canon he
        have hfar : ∀ g, ar = some ⟨g, 0, none⟩ → (outG (validB wa ha (canon (cls xs.length (weighC (cl .f32 x) (cl .f32 y) xs ys)))) (canon (cls xs.length (weighC (cl .f32 x) (cl .f32 y) xs ys)))).length ≠ 0 → g ≠ w.heap.size + 4 := fun g e hl => by
          have := hM.base hl g e
          omega
        subst he
        have hi5 := hi4.next hb5
        have hM := hM.mono hi4.bel.size
        clear call4 hb5 a0 a1 a2 b0 b1 b2 x0 y0 s0 s1 s2 t0 t1 t2
        have s0 := hi5.o5.at (k := 0) rfl
        have s1 := hi5.o5.at (k := 1) rfl
        have s2 := hi5.o5.at (k := 2) rfl
        have t0 := hi5.o5.free 0
        have t1 := hi5.o5.free 1
        have t2 := hi5.o5.free 2
        have hzs : weighs (cl .f32 x) (cl .f32 y) xs ys = canon (cls xs.length (weighC (cl .f32 x) (cl .f32 y) xs ys)) := rfl
        rw [← hzs] at hfar hM
        rw [← hzs]
        clear hzs
        generalize weighs (cl .f32 x) (cl .f32 y) xs ys = zs at *
        generalize validB wa ha zs = vz at *
        unfold GV
        go_wp2
        refine bodyPost_ret (v := .tuple #[GV (iffI vz wa) (iffI vz ha) ar (outG vz zs).length cr, .bool vz]) (by simp [results, Try.results36, go_sem, s0, s1, s2, GV]) rfl ⟨ar, cr, by simp, ?_, ?_⟩
        · rw [Bool.true_and]
          by_cases hl : (outG vz zs).length = 0
          · exact ⟨by simp [fls, hl], by omega, .inl hl⟩
          · exact ((hM.setFar (fun g e => hfar g e hl) _).setFar (fun g e => hfar g e hl) _).setFar (fun g e => hfar g e hl) _
        · exact ((hi5.bel.setCell (by simp; omega) _).setCell (by simp; omega) _).setCell (by simp; omega) _
end Go.Proofs.Ytcmdmecmgoabaaa
