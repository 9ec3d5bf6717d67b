/-
  Two grids weighed: the specification's words.
-/
import Derived.Test.YtcmdmecmgoabaaaWeigh
import Derived.BigRegion
namespace Go.Proofs.Ytcmdmecmgoabaaa
open Go.RowKit Go.Shelf

/-- What lies in memory while heights are weighed: three boxes, the new grid at q, its heights at g. -/
structure WS (w wr : World) (q g : Nat) (A B C vs : List Value) : Prop where
  o1 : Own 33 wr w.heap.size A
  o2 : Own 33 wr (w.heap.size + 1) B
  o3 : Own 33 wr (w.heap.size + 2) [.int .i64 0, .int .i64 0, .slice none 0 0]
  o4 : Own 33 wr q C
  dat : Own 22 wr g vs
  lg : w.heap.size + 2 < g
  gq : g < q
  bel : Below w.heap.size w wr
section
variable {w wr w1 : World} {q g : Nat} {A B C vs : List Value}
theorem WS.next (h : WS w wr q g A B C vs) (hb : Below wr.heap.size wr w1) : WS w w1 q g A B C vs :=
  ⟨h.o1.below hb, h.o2.below hb, h.o3.below hb, h.o4.below hb, h.dat.below hb, h.lg, h.gq, h.bel.trans (hb.mono h.bel.size)⟩
theorem WS.set (h : WS w wr q g A B C vs) (k : Nat) (v : Value) : WS w (wr.setCell ⟨g, k, none⟩ v) q g A B C (vs.set k v) := by
  have h1 := h.lg
  have h2 := h.gq
  exact ⟨h.o1.other (by simp; omega) _, h.o2.other (by simp; omega) _, h.o3.other (by simp; omega) _, h.o4.other (by simp; omega) _, h.dat.set _ _, h1, h2, h.bel.setCell (by simp; omega) _⟩
end

theorem Drew.trans {w w1 w2 : World} (h : Drew w w1) (h' : Drew w1 w2) : Drew w w2 := by
  obtain ⟨n, rfl⟩ := h
  obtain ⟨m, rfl⟩ := h'
  exact ⟨n + m, World.drewN_drewN _ _ _⟩
theorem half_set {us xs : List Nat} {rest : List Value} {k : Nat} (hu : us.length = k) (hk : k < xs.length) (r : Nat) :
    (fls us ++ (fls (xs.drop k) ++ rest)).set k (.float .f32 r) = fls (us ++ [r]) ++ (fls (xs.drop (k + 1)) ++ rest) := by
  have e1 : (fls us).length = k := by rw [fls_len, hu]
  rw [List.drop_eq_getElem_cons hk]
  have e2 : fls (us ++ [r]) = fls us ++ [.float .f32 r] := by simp [fls]
  rw [e2]
  generalize fls us = P at *
  subst e1
  show (P ++ (Value.float .f32 xs[P.length] :: fls (xs.drop (P.length + 1)) ++ rest)).set P.length (.float .f32 r) = _
  simp
theorem half_at {us xs : List Nat} {rest : List Value} {k : Nat} (hu : us.length = k) (hk : k < xs.length) :
    (fls us ++ (fls (xs.drop k) ++ rest))[k]? = some (.float .f32 (xs.getD k 0)) := by
  have e1 : (fls us).length = k := by rw [fls_len, hu]
  rw [List.getElem?_append_right (by omega), e1, Nat.sub_self, List.drop_eq_getElem_cons hk, getD_at hk]
  rfl

theorem okW_parts {wa ha wb hb : Int} {xs ys : List Nat} {X Y : Option Nat} (h : okW wa ha wb hb xs ys X Y = true) : validB wa ha xs = true ∧ validB wb hb ys = true ∧ wa = wb ∧ ha = hb ∧ isNum .f32 X = true ∧ isNum .f32 Y = true := by
  unfold okW at h
  simp only [Bool.and_eq_true, beq_iff_eq] at h
  exact ⟨h.1.1.1.1.1, h.1.1.1.1.2, h.1.1.1.2, h.1.1.2, h.1.2, h.2⟩

set_option maxRecDepth 8000 in
set_option maxHeartbeats 4000000 in
theorem specWeighYes (wa ha : Int) (a : Option Addr) (len cap : Nat) (xs : List Nat) (a' : Option Addr) (cap' : Nat) (ys : List Nat) (x y : Nat) (w : World) (h : FlS w a len xs) (h' : FlS w a' len ys)
    (hA : validB wa ha xs = true) (hB : validB wa ha ys = true) (hX : isNum .f32 (cl .f32 x) = true) (hY : isNum .f32 (cl .f32 y) = true) :
    Calls Try.prog 35 #[GV wa ha a len cap, GV wa ha a' len cap', .float .f32 x, .float .f32 y] w (MadeG wa ha len (weighC (cl .f32 x) (cl .f32 y) xs ys) w) := by
  obtain ⟨hs, hn, hfa⟩ := valid_parts hA
  obtain ⟨_, hn', hfb⟩ := valid_parts hB
  obtain ⟨hm1, hm2⟩ := sides_mul hs
  have hlx := h.len
  have hly := h'.len
  subst hlx
  obtain ⟨b0, off0, _, rfl, hbb0, _, _⟩ := h.get (k := 0) (by omega)
  unfold GV
  have hb3 : Below w.heap.size w (((w.alloc (.cells #[.int .i64 wa, .int .i64 ha, .slice (some ⟨b0, off0, none⟩) xs.length cap] 33)).alloc (.cells #[.int .i64 wa, .int .i64 ha, .slice a' xs.length cap'] 33)).alloc (.cells #[.int .i64 0, .int .i64 0, .slice none 0 0] 33)) := (((Below.refl _ _).alloc (Nat.le_refl _) _).alloc (by simp) _).alloc (by simp; omega) _
  have o1 := (((Own.new w [.int .i64 wa, .int .i64 ha, .slice (some ⟨b0, off0, none⟩) xs.length cap] 33).alloc (.cells #[.int .i64 wa, .int .i64 ha, .slice a' xs.length cap'] 33)).alloc (.cells #[.int .i64 0, .int .i64 0, .slice none 0 0] 33))
  have o2 := ((Own.new (w.alloc (.cells #[.int .i64 wa, .int .i64 ha, .slice (some ⟨b0, off0, none⟩) xs.length cap] 33)) [.int .i64 wa, .int .i64 ha, .slice a' xs.length cap'] 33).alloc (.cells #[.int .i64 0, .int .i64 0, .slice none 0 0] 33))
  have o3 := Own.new ((w.alloc (.cells #[.int .i64 wa, .int .i64 ha, .slice (some ⟨b0, off0, none⟩) xs.length cap] 33)).alloc (.cells #[.int .i64 wa, .int .i64 ha, .slice a' xs.length cap'] 33)) [.int .i64 0, .int .i64 0, .slice none 0 0] 33
  simp only [World.size_alloc] at o2 o3
  have hsz : w.heap.size + 2 < (((w.alloc (.cells #[.int .i64 wa, .int .i64 ha, .slice (some ⟨b0, off0, none⟩) xs.length cap] 33)).alloc (.cells #[.int .i64 wa, .int .i64 ha, .slice a' xs.length cap'] 33)).alloc (.cells #[.int .i64 0, .int .i64 0, .slice none 0 0] 33)).heap.size := by simp
  have eA : ∀ W, Own 33 W w.heap.size [.int .i64 wa, .int .i64 ha, .slice (some ⟨b0, off0, none⟩) xs.length cap] → At W w.heap.size wa ha (some ⟨b0, off0, none⟩) xs.length cap := fun W o => ⟨o.at (k := 0) rfl, o.at (k := 1) rfl, o.at (k := 2) rfl⟩
  have eB : ∀ W, Own 33 W (w.heap.size + 1) [.int .i64 wa, .int .i64 ha, .slice a' xs.length cap'] → At W (w.heap.size + 1) wa ha a' xs.length cap' := fun W o => ⟨o.at (k := 0) rfl, o.at (k := 1) rfl, o.at (k := 2) rfl⟩
  have o2' : Own 33 _ (w.heap.size + 1) [.int .i64 wa, .int .i64 ha, .slice a' xs.length cap'] := o2
  have cA := l06Is _ _ _ _ _ _ _ _ (eA _ o1) (h.below hb3)
  have cB := fun n => l06Is _ _ _ _ _ _ _ _ (eB _ (o2'.drew n)) ((h'.below hb3).drewN n)
  rw [hA] at cA
  rw [hB] at cB
  have fx : ∀ W, Calls Try.prog 63 #[.float .f32 x] W (RetD (.bool true) W) := fun W => by have := l01Finite x W; rw [hX] at this; exact this
  have fy : ∀ W, Calls Try.prog 63 #[.float .f32 y] W (RetD (.bool true) W) := fun W => by have := l01Finite y W; rw [hY] at this; exact this
  have c10 := o1.at (k := 0) rfl
  have c11 := o1.at (k := 1) rfl
  have c20 := o2'.at (k := 0) rfl
  have c21 := o2'.at (k := 1) rfl
  go_enter Try.func35, Try.ntmps35
  go_wp2_with fail
  generalize (((w.alloc (.cells #[.int .i64 wa, .int .i64 ha, .slice (some ⟨b0, off0, none⟩) xs.length cap] 33)).alloc (.cells #[.int .i64 wa, .int .i64 ha, .slice a' xs.length cap'] 33)).alloc (.cells #[.int .i64 0, .int .i64 0, .slice none 0 0] 33)) = W0 at *
  refine cA.mono ?_
  rintro e w' ⟨rfl, d, rfl⟩
  go_wp2_with (first
    | (go_at_call 54; refine (cB _).mono ?_; rintro e w' ⟨rfl, d, rfl⟩)
    | (go_at_call 63; (first | (with_reducible refine (fx _).mono ?_) | (with_reducible refine (fy _).mono ?_)); rintro e w' ⟨rfl, d, rfl⟩))
  generalize hwd : W0.drewN _ = wd
  have hb4 : Below w.heap.size w wd := by rw [← hwd]; exact below_drewN hb3 _
  have p1 : Own 33 wd w.heap.size [.int .i64 wa, .int .i64 ha, .slice (some ⟨b0, off0, none⟩) xs.length cap] := by rw [← hwd]; exact o1.drew _
  have p2 : Own 33 wd (w.heap.size + 1) [.int .i64 wa, .int .i64 ha, .slice a' xs.length cap'] := by rw [← hwd]; exact o2'.drew _
  have p3 : Own 33 wd (w.heap.size + 2) [.int .i64 0, .int .i64 0, .slice none 0 0] := by rw [← hwd]; exact o3.drew _
  have hsz' : w.heap.size + 2 < wd.heap.size := by rw [← hwd]; exact hsz
  have f1 := h.below hb4
  clear cA cB o1 o2 o2' o3 hb3 hsz c10 c11 c20 c21 fx fy hwd
  refine (l06Own _ _ _ _ _ _ _ _ _ (by omega) (eA _ p1) f1 (by omega)).mono ?_
  rintro e w2 ⟨g, c, rest, rfl, hg, ho, hb2⟩
  unfold GV
  have hws : WS w (w2.alloc (.cells #[.int .i64 wa, .int .i64 ha, .slice (some ⟨g, 0, none⟩) xs.length c] 33)) w2.heap.size g [.int .i64 wa, .int .i64 ha, .slice (some ⟨b0, off0, none⟩) xs.length cap] [.int .i64 wa, .int .i64 ha, .slice a' xs.length cap'] [.int .i64 wa, .int .i64 ha, .slice (some ⟨g, 0, none⟩) xs.length c] (fls xs ++ rest) :=
    ⟨(p1.below hb2).alloc _, (p2.below hb2).alloc _, (p3.below hb2).alloc _, Own.new w2 [.int .i64 wa, .int .i64 ha, .slice (some ⟨g, 0, none⟩) xs.length c] 33, ho.alloc _, by omega, ho.lt, (hb4.trans (hb2.mono hb4.size)).alloc (Nat.le_trans hb4.size hb2.size) _⟩
  go_wp2
  generalize w2.alloc (.cells #[.int .i64 wa, .int .i64 ha, .slice (some ⟨g, 0, none⟩) xs.length c] 33) = w3 at *
  generalize w2.heap.size = q at *
  clear hb2 ho hg hsz' p1 p2 p3 hb4 f1
  go_loopw [11] (fun i wr => ∃ (k : Nat) (us : List Nat), k ≤ xs.length ∧ i = .int .i64 (k : Int) ∧ us.length = k ∧ us.map (cl .f32) = cls k (weighC (cl .f32 x) (cl .f32 y) xs ys) ∧ WS w wr q g [.int .i64 wa, .int .i64 ha, .slice (some ⟨b0, off0, none⟩) xs.length cap] [.int .i64 wa, .int .i64 ha, .slice a' xs.length cap'] [.int .i64 wa, .int .i64 ha, .slice (some ⟨g, 0, none⟩) xs.length c] (fls us ++ (fls (xs.drop k) ++ rest))) (fun i _ => xs.length - (intOf i).toNat)
  case atStart => exact ⟨0, [], Nat.zero_le _, rfl, rfl, rfl, hws⟩
  case round =>
    obtain ⟨k, us, hk, rfl, hul, hcu, hw⟩ := hrel
    clear hws
    have c4 := hw.o4.at (k := 2) rfl
    have hm := h.max
    by_cases hlt : k < xs.length
    · obtain ⟨b, off, z, e, hbb, hck, hzz⟩ := h.get hlt
      simp at e
      obtain ⟨rfl, rfl⟩ := e
      obtain ⟨b', off', z', rfl, hbb', hck', hzz'⟩ := h'.get hlt
      have c1 := hw.o1.at (k := 2) rfl
      have c2 := hw.o2.at (k := 2) rfl
      have d0 := hw.dat.at (half_at hul hlt)
      have g0 := hw.dat.free k
      have hlg := hw.lg
      have hgq := hw.gq
      have e1 : wr.cell? ⟨b0, off0 + k, none⟩ = some (.float .f32 z) := (hw.bel.cell (p := ⟨b0, off0 + k, none⟩) hbb).trans hck
      have e2 : wr.cell? ⟨b', off' + k, none⟩ = some (.float .f32 z') := (hw.bel.cell (p := ⟨b', off' + k, none⟩) hbb').trans hck'
      obtain ⟨r1, hr1, hm1'⟩ := mul_num hX (finAll_at hfa hlt hzz.out)
      obtain ⟨r2, hr2, hm2'⟩ := mul_num hY (finAll_at hfb (by omega) hzz'.out)
      obtain ⟨r3, d, hs3, hr3⟩ := run_fl (P := Try.prog) wr.drew .add 22 .f32 r1 r2 (.inl rfl)
      have hcls : Hid (cl .f32 r3 = weighC (cl .f32 x) (cl .f32 y) xs ys k) := Lib.hid (by unfold weighC; rw [hr3, hr1, hr2, hzz.out, hzz'.out])
      have n1 : b0 ≠ g := by omega
      have n1' : g ≠ b0 := by omega
      have n2 : b' ≠ g := by omega
      have n2' : g ≠ b' := by omega
      have n3 : w.heap.size ≠ g := by omega
      have n3' : g ≠ w.heap.size := by omega
      have n4 : w.heap.size + 1 ≠ g := by omega
      have n4' : g ≠ w.heap.size + 1 := by omega
      have n5 : q ≠ g := by omega
      have n5' : g ≠ q := by omega
      have i0 : (0 : Int) ≤ (k : Int) := by omega
      have i1 : (k : Int) < (xs.length : Int) := by omega
      clear hr1 hr2 hr3 hzz hzz' hck hck'
      go_wp2
      go_region
      all_goals
        go_wp2
        go_roundw
        case rel =>
          refine ⟨k + 1, us ++ [r3], by omega, by go_num, by simp [hul], cls_step hcu hcls.out, ?_⟩
          have := hw.set k (.float .f32 r3)
          rw [half_set hul hlt] at this
          exact this.next (below_drewN (Below.refl _ _) _)
        case measure => simp [intOf]; omega
    · obtain rfl : k = xs.length := by omega
      have c0 := hw.o4.at (k := 0) rfl
      have c1 := hw.o4.at (k := 1) rfl
      have hlg := hw.lg
      have hdat := hw.dat
      rw [List.drop_length] at hdat
      have hM : MineV 22 w.heap.size wr (some ⟨g, 0, none⟩) xs.length (fls us) := ⟨by rw [fls_len, hul], hm, .inr ⟨g, rest, rfl, by omega, by simpa [fls] using hdat⟩⟩
      have call := l06Give wa ha (some ⟨g, 0, none⟩) xs.length c us _ hM.fls
      have hne : ∀ g', (some ⟨g, 0, none⟩ : Option Addr) = some ⟨g', 0, none⟩ → g' ≠ w.heap.size + 2 := fun g' e => by simp at e; omega
      unfold giveV GV at call
      cases hv : validB wa ha us
      all_goals
        rw [hv] at call
        go_wp2_with (go_at_call 66; refine call.mono ?_; rintro e w5 ⟨rfl, hb5⟩; have hg5 := hw.next hb5; have s0 := hg5.o3.at (k := 0) rfl; have s1 := hg5.o3.at (k := 1) rfl; have s2 := hg5.o3.at (k := 2) rfl; have t0 := hg5.o3.free 0; have t1 := hg5.o3.free 1; have t2 := hg5.o3.free 2)
      · refine bodyPost_ret (v := .tuple #[.agg #[.int .i64 0, .int .i64 0, .slice none 0 0], .bool false]) (by simp [results, Try.results35, go_sem, s0, s1, s2]) rfl ⟨us, hcu, ?_⟩
        rw [hv]
        exact NewG.no (((hg5.bel.setCell (by simp; omega) _).setCell (by simp; omega) _).setCell (by simp; omega) _)
      · refine bodyPost_ret (v := .tuple #[.agg #[.int .i64 wa, .int .i64 ha, .slice (some ⟨g, 0, none⟩) xs.length c], .bool true]) (by simp [results, Try.results35, go_sem, s0, s1, s2]) rfl ⟨us, hcu, ?_⟩
        rw [hv]
        refine NewG.yes ?_ ?_
        · exact (((hM.below hb5).setFar hne _).setFar hne _).setFar hne _
        · exact ((hg5.bel.setCell (by simp; omega) _).setCell (by simp; omega) _).setCell (by simp; omega) _
end Go.Proofs.Ytcmdmecmgoabaaa
