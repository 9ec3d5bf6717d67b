/-
  How heights spread along rises: the program's words, whole.
-/
import Derived.Test.YtikdagkopalojaaHeights3
import Derived.Deep.Cut
import Derived.Deep.DeepCutAuto
import Derived.Deep.RegionWith
import Derived.Laws.MakeOwn
namespace Go.Proofs.Ytikdagkopalojaa
open Go.RowKit Go.Shelf

/-- The three blocks of the call: heights, what is told, and the variable that names the latter. -/
structure Blocks (w : World) (B gh gt gc n c : Nat) (hs : List Int) (ts : List Bool) : Prop where
  oh : Own 2 w gh (ints hs)
  ot : Own 4 w gt (bools ts)
  oc : Own 79 w gc [.slice (some ⟨gt, 0, none⟩) n c]
  bh : B ≤ gh
  bt : B ≤ gt
  bc : B ≤ gc
  n1 : gh ≠ gt
  n2 : gh ≠ gc
  n3 : gt ≠ gc

theorem Blocks.below {w w' : World} {B gh gt gc n c : Nat} {hs : List Int} {ts : List Bool} (h : Blocks w B gh gt gc n c hs ts) (hb : Below w.heap.size w w') : Blocks w' B gh gt gc n c hs ts :=
  ⟨h.oh.below hb, h.ot.below hb, h.oc.below hb, h.bh, h.bt, h.bc, h.n1, h.n2, h.n3⟩

theorem Blocks.setT {w : World} {B gh gt gc n c : Nat} {hs : List Int} {ts : List Bool} (h : Blocks w B gh gt gc n c hs ts) (k : Nat) (b : Bool) : Blocks (w.setCell ⟨gt, k, none⟩ (.bool b)) B gh gt gc n c hs (ts.set k b) :=
  ⟨h.oh.other h.n1 _, by rw [← bools_set]; exact h.ot.set _ _, h.oc.other (fun e => h.n3 e.symm) _, h.bh, h.bt, h.bc, h.n1, h.n2, h.n3⟩
theorem Blocks.setH {w : World} {B gh gt gc n c : Nat} {hs : List Int} {ts : List Bool} (h : Blocks w B gh gt gc n c hs ts) (k : Nat) (b : Int) : Blocks (w.setCell ⟨gh, k, none⟩ (.int .i64 b)) B gh gt gc n c (hs.set k b) ts :=
  ⟨by rw [← ints_set]; exact h.oh.set _ _, h.ot.other (fun e => h.n1 e.symm) _, h.oc.other (fun e => h.n2 e.symm) _, h.bh, h.bt, h.bc, h.n1, h.n2, h.n3⟩

theorem set_told {ts : List Bool} {i : Nat} (h : ts.getD i false = true) : ts.set i true = ts := by
  rcases Nat.lt_or_ge i ts.length with hi | hi
  · rw [getD_at hi] at h
    rw [← h]
    exact List.set_getElem_self hi
  · exact List.set_eq_of_length_le hi
theorem getD_set_b {ts : List Bool} {n i j : Nat} (h : ts.length = n) (_ : i < n) : (ts.set i true).getD j false = if i = j then true else ts.getD j false := by
  rw [List.getD_eq_getElem?_getD, List.getElem?_set]
  by_cases e : i = j
  · subst e; simp [h, *]
  · simp [e]
theorem mk_ints {n : Nat} (hn : n ≤ 32) : ∃ cI : Array Value, cI.toList = ints (List.replicate n 0) ∧ ∀ W, (Instr.makeSlice 48 (.int .i64 (n : Int)) (.int .i64 (n : Int))).run Try.prog W = .ok (.slice (some ⟨W.heap.size, 0, none⟩) n n) (W.alloc (.cells cI 2)) := by
  obtain ⟨i0, hi, hz0, hz1, hz2⟩ := info_parts infoI
  refine ⟨madeCells (Value.int .i64 0).cells (n * 1), madeI n, fun W => ?_⟩
  have := run_make W 48 2 i0 (.int .i64 0) Try.underlying48 hi hz0 .i64 .i64 (n : Int) (n : Int) (by omega) (Int.le_refl _) (by rw [hz2]; omega) (by omega)
  rw [hz1] at this
  simpa using this
theorem mk_bools {n : Nat} (hn : n ≤ 32) : ∃ cI : Array Value, cI.toList = bools (List.replicate n false) ∧ ∀ W, (Instr.makeSlice 79 (.int .i64 (n : Int)) (.int .i64 (n : Int))).run Try.prog W = .ok (.slice (some ⟨W.heap.size, 0, none⟩) n n) (W.alloc (.cells cI 4)) := by
  obtain ⟨i0, hi, hz0, hz1, hz2⟩ := info_parts infoB
  refine ⟨madeCells (Value.bool false).cells (n * 1), madeB n, fun W => ?_⟩
  have := run_make W 79 4 i0 (.bool false) Try.underlying79 hi hz0 .i64 .i64 (n : Int) (n : Int) (by omega) (Int.le_refl _) (by rw [hz2]; omega) (by omega)
  rw [hz1] at this
  simpa using this

theorem three (w : World) (c1 c2 c3 : Array Value) (E1 E2 E3 : TypeId) : Own E1 (((w.alloc (.cells c1 E1)).alloc (.cells c2 E2)).alloc (.cells c3 E3)).drew w.heap.size c1.toList ∧ Own E2 (((w.alloc (.cells c1 E1)).alloc (.cells c2 E2)).alloc (.cells c3 E3)).drew (w.heap.size + 1) c2.toList ∧
    Own E3 (((w.alloc (.cells c1 E1)).alloc (.cells c2 E2)).alloc (.cells c3 E3)).drew (w.heap.size + 1 + 1) c3.toList := by
  have o1 := Own.new w c1.toList E1
  have o2 := Own.new (w.alloc (.cells c1 E1)) c2.toList E2
  have o3 := Own.new ((w.alloc (.cells c1 E1)).alloc (.cells c2 E2)) c3.toList E3
  simp only [Array.toArray_toList, World.size_alloc] at o1 o2 o3
  exact ⟨(o1.alloc _).alloc _, o2.alloc _, o3⟩

set_option maxRecDepth 20000 in
set_option maxHeartbeats 4000000 in
theorem implRiseHeights (a : Option Addr) (len cap : Nat) (n : Int) (rs : List Rise) (w : World) (h : RiS w a len rs) :
    Calls Try.prog 30 #[.slice a len cap, .int .i64 n] w (NewIn (outH rs n) (okH rs n) w) := by
  have call := implAreRises a len cap n rs w h
  have hl := h.size
  have hm := h.max
  cases hv : risesB rs n with
  | false =>
    rw [hv] at call
    have e : okH rs n = false := by unfold okH; rw [hv]; rfl
    go_enter Try.func30, Try.ntmps30
    go_wp2_with (go_at_call 13; refine call.mono ?_; rintro e w' ⟨rfl, hb⟩; have := NewIn.no e hb)
    exact bodyPost_ret (by simp [results, Try.results30, go_sem]) rfl this
  | true =>
    rw [hv] at call
    have hlen := len_of hv
    obtain ⟨m, rfl⟩ : ∃ m : Nat, n = m := ⟨n.toNat, by omega⟩
    obtain ⟨cI, hcI, hmk1⟩ := mk_ints (n := m) (by omega)
    obtain ⟨cB, hcB, hmk2⟩ := mk_bools (n := m) (by omega)
    go_enter Try.func30, Try.ntmps30
    go_wp2_with fail
    refine call.mono ?_
    rintro e w0 ⟨rfl, hbw⟩
    go_wp2
    go_cut [6, 7] (fun s6 s7 wx => ∃ gh gt gc, s6 = .slice (some ⟨gh, 0, none⟩) m m ∧ s7 = .pointer (some ⟨gc, 0, none⟩) ∧ Blocks wx w.heap.size gh gt gc m m (List.replicate m 0) (List.replicate m false) ∧ Below w.heap.size w wx)
    case first =>
      go_region_with (fail)
      all_goals
        go_wp2
        go_meet
        refine ⟨_, ?_, _, rfl, rfl, ⟨?_, ?_, ?_, ?_, ?_, ?_, ?_, ?_, ?_⟩, below_drewN (((hbw.alloc hbw.size _).alloc (by have := hbw.size; simp; omega) _).alloc (by have := hbw.size; simp; omega) _) 1⟩
        rotate_left
        · rw [← hcI]; first | exact (three _ _ _ _ _ _ _).1 | exact (three _ _ _ _ _ _ _).2.1 | exact (three _ _ _ _ _ _ _).2.2
        · rw [← hcB]; first | exact (three _ _ _ _ _ _ _).1 | exact (three _ _ _ _ _ _ _).2.1 | exact (three _ _ _ _ _ _ _).2.2
        · first | exact (three _ _ _ _ _ _ _).1 | exact (three _ _ _ _ _ _ _).2.1 | exact (three _ _ _ _ _ _ _).2.2
        all_goals
          have := hbw.size
          omega
    case rest =>
      obtain ⟨gh, gt, gc, rfl, rfl, hbk, hb⟩ := hcut
      clear hmk1 hmk2 hcI hcB hbw call
      have ot := hbk.ot
      have d0 : wc.cell? ⟨gt, 0, none⟩ = some (.bool false) := ot.at (first_false (by omega))
      have f0 := ot.free 0
      have cc : wc.cell? ⟨gc, 0, none⟩ = some (.slice (some ⟨gt, 0, none⟩) m m) := hbk.oc.at rfl
      have hinv0 := Lib.hid (HS.start_inv rs (n := m) (by omega))
      have hbk0 : Blocks (wc.setCell ⟨gt, 0, none⟩ (.bool true)) w.heap.size gh gt gc m m (HS.start m).hs (HS.start m).ts := hbk.setT 0 true
      have hb0 := hb.setCell (p := ⟨gt, 0, none⟩) hbk.bt (.bool true)
      go_wp2
      clear hbk hb ot d0 f0 cc
      generalize wc.setCell ⟨gt, 0, none⟩ (.bool true) = w3 at *
      go_loopg [8, 9] 32 (fun gg _ _ wr => ∃ st : HS, Hid (HS.Inv rs m (HS.start m) gg st) ∧ Blocks wr w.heap.size gh gt gc m m st.hs st.ts ∧ Below w.heap.size w wr)
      case atStart => exact ⟨_, hinv0, hbk0, hb0⟩
      case round =>
        obtain ⟨st, hinv, hbk, hb⟩ := hrel
        clear hbk0 hinv0 hb0
        have htl := hinv.out.tl
        have hhl := hinv.out.hl
        have cc : wr.cell? ⟨gc, 0, none⟩ = some (.slice (some ⟨gt, 0, none⟩) m m) := hbk.oc.at rfl
        have cf := indexFuncD 60 #[.pointer (some ⟨gc, 0, none⟩)] _ _ (enters_of Try.func60 (by kernel_rfl) rfl) a len cap rs wr (h.below hb) (toldApart m st.ts m 0 gc gt wr htl hbk.oc.lt hbk.ot.lt cc hbk.ot) (fun k hk => ends_of hv (by omega))
        go_wp2_with fail
        refine cf.mono ?_
        rintro e w1 ⟨i, rfl, hidx, hb1⟩
        clear cf cc
        have hbk1 := hbk.below hb1
        have hb2 := hb.trans (hb1.mono hb.size)
        clear hbk hb hb1
        have cc : w1.cell? ⟨gc, 0, none⟩ = some (.slice (some ⟨gt, 0, none⟩) m m) := hbk1.oc.at rfl
        have cB := containsB gt m m st.ts w1 htl (by omega) hbk1.ot
        rcases hidx with ⟨rfl, hnone⟩ | ⟨k, rfl, hk, hp, hfirst⟩
        · have hstop := hinv.out.stop hnone
          cases hall : st.ts.all id
          · rw [hall] at cB
            go_wp2_with (go_at_call 61; refine cB.mono ?_; rintro e w' ⟨rfl, rfl⟩)
            have e := okH_no hstop hall
            have := NewIn.no e hb2
            exact bodyPost_ret (by simp [results, Try.results30, go_sem]) rfl this
          · rw [hall] at cB
            go_wp2_with (go_at_call 61; refine cB.mono ?_; rintro e w' ⟨rfl, rfl⟩)
            have := NewIn.yes (c := m) hv hstop hall hhl (by omega) hbk1.bh hbk1.oh hb2
            exact bodyPost_ret (by simp [results, Try.results30, go_sem]) rfl this
        · clear cB
          obtain ⟨hnext, hg1⟩ := hinv.out.next hv hk hp hfirst
          have hnext := Lib.hid hnext
          obtain ⟨b0, off0, r, rfl, hbb, hck, hzz⟩ := h.get (k := k) (by omega)
          obtain ⟨⟨ef0, ef1⟩, et0, et1⟩ := ends_of hv hk
          have hfit := hinv.out.fits hv hk
          rw [R, hzz.out] at hnext ef0 ef1 et0 et1 hfit
          rw [hzz.out] at hp
          obtain ⟨f, t, s, l⟩ := r
          obtain ⟨x, rfl⟩ : ∃ x : Nat, f = x := ⟨f.toNat, by simp only at ef0; omega⟩
          obtain ⟨y, rfl⟩ : ∃ y : Nat, t = y := ⟨t.toNat, by simp only at et0; omega⟩
          simp only at ef0 ef1 et0 et1 hfit
          obtain ⟨c0, c1, c2, c3⟩ := hck.below hb2 hbb
          simp only at c0 c1 c2 c3
          have hfx := (hfit x).1
          have hfy := (hfit y).2
          have tx : w1.cell? ⟨gt, x, none⟩ = some (.bool (st.ts.getD x false)) := hbk1.ot.at (bools_get (by omega))
          have ty : w1.cell? ⟨gt, y, none⟩ = some (.bool (st.ts.getD y false)) := hbk1.ot.at (bools_get (by omega))
          have hx : w1.cell? ⟨gh, x, none⟩ = some (.int .i64 (st.hs.getD x 0)) := hbk1.oh.at (ints_get (by omega))
          have hy : w1.cell? ⟨gh, y, none⟩ = some (.int .i64 (st.hs.getD y 0)) := hbk1.oh.at (ints_get (by omega))
          have z1 := hbk1.ot.free x
          have z2 := hbk1.ot.free y
          have z3 := hbk1.oh.free x
          have z4 := hbk1.oh.free y
          have n1 := hbk1.n1
          have n2 := hbk1.n2
          have n3 := hbk1.n3
          have n1' : gt ≠ gh := fun e => n1 e.symm
          have n2' : gc ≠ gh := fun e => n2 e.symm
          have n3' : gc ≠ gt := fun e => n3 e.symm
          have l1 := hbk1.oh.lt
          have l2 := hbk1.ot.lt
          have l3 := hbk1.oc.lt
          have e1 : gh ≠ w1.heap.size := by omega
          have e2 : gt ≠ w1.heap.size := by omega
          have e3 : gc ≠ w1.heap.size := by omega
          have e1' : w1.heap.size ≠ gh := by omega
          have e2' : w1.heap.size ≠ gt := by omega
          have e3' : w1.heap.size ≠ gc := by omega
          rw [pd_cast] at hp
          have hup1 := Lib.hid fun h => upd_from (st := st) (x := x) y s l h
          have hup2 := Lib.hid fun h => upd_to (st := st) (x := x) y s l h
          clear hfit hck hzz hfirst
          generalize st.hs.getD x 0 = vx at *
          generalize st.hs.getD y 0 = vy at *
          have hxy : x ≠ y := by rintro rfl; simp at hp
          have hyx : y ≠ x := fun e => hxy e.symm
          cases hbx : st.ts.getD x false
          all_goals
            rw [hbx] at tx
            go_wp2
          · have hby : st.ts.getD y false = true := by rw [hbx] at hp; simpa using hp
            have hI := hnext.out
            rw [hup2.out hbx] at hI
            have fin1 : Blocks (((w1.setCell ⟨gh, x, none⟩ (.int .i64 (vy - s))).setCell ⟨gt, x, none⟩ (.bool true)).setCell ⟨gt, y, none⟩ (.bool true)) w.heap.size gh gt gc m m (st.hs.set x (vy - s)) (st.ts.set x true) := by
              have b := ((hbk1.setH x (vy - s)).setT x true).setT y true
              rw [set_told (i := y) (by rw [getD_set_b htl (by omega)]; split <;> simp_all)] at b
              exact b
            have fin2 : Blocks (((w1.setCell ⟨gh, x, none⟩ (.int .i64 (vy - s))).setCell ⟨gt, y, none⟩ (.bool true)).setCell ⟨gt, x, none⟩ (.bool true)) w.heap.size gh gt gc m m (st.hs.set x (vy - s)) (st.ts.set x true) := by
              have b := ((hbk1.setH x (vy - s)).setT y true).setT x true
              rw [set_told (ts := st.ts) (i := y) hby] at b
              exact b
            have bel1 : Below w.heap.size w (((w1.setCell ⟨gh, x, none⟩ (.int .i64 (vy - s))).setCell ⟨gt, x, none⟩ (.bool true)).setCell ⟨gt, y, none⟩ (.bool true)) := ((hb2.setCell hbk1.bh _).setCell hbk1.bt _).setCell hbk1.bt _
            have bel2 : Below w.heap.size w (((w1.setCell ⟨gh, x, none⟩ (.int .i64 (vy - s))).setCell ⟨gt, y, none⟩ (.bool true)).setCell ⟨gt, x, none⟩ (.bool true)) := ((hb2.setCell hbk1.bh _).setCell hbk1.bt _).setCell hbk1.bt _
            go_cut [] (fun wx => ∃ d, wx = ((w1.setCell ⟨gh, x, none⟩ (.int .i64 (vy - s))).alloc (.cells #[.int .i64 x, .int .i64 y, .int .i64 s, .int .i64 l] 59)).drewN d)
            case first =>
              go_region_with (fail)
              all_goals
                go_wp2
                go_meet
                exact ⟨1, rfl⟩
            case rest =>
              obtain ⟨d, rfl⟩ := hcut
              go_wp2
              go_region_with (fail)
              all_goals
                go_wp2
                go_roundg (gk - 1)
                case measure => omega
                case rel =>
                  refine ⟨_, Lib.hid hI, ?_, ?_⟩
                  · first
                      | exact fin1.below (below_drewN ((Below.refl _ _).alloc (Nat.le_refl _) _) _)
                      | exact fin2.below (below_drewN ((Below.refl _ _).alloc (Nat.le_refl _) _) _)
                  · first
                      | exact below_drewN (bel1.alloc (by simp; exact hb2.size) _) _
                      | exact below_drewN (bel2.alloc (by simp; exact hb2.size) _) _
          · have hby : st.ts.getD x false = true := by exact hbx
            have hI := hnext.out
            rw [hup1.out hbx] at hI
            have fin1 : Blocks (((w1.setCell ⟨gh, y, none⟩ (.int .i64 (vx + s))).setCell ⟨gt, x, none⟩ (.bool true)).setCell ⟨gt, y, none⟩ (.bool true)) w.heap.size gh gt gc m m (st.hs.set y (vx + s)) (st.ts.set y true) := by
              have b := ((hbk1.setH y (vx + s)).setT x true).setT y true
              rw [set_told (ts := st.ts) (i := x) hby] at b
              exact b
            have fin2 : Blocks (((w1.setCell ⟨gh, y, none⟩ (.int .i64 (vx + s))).setCell ⟨gt, y, none⟩ (.bool true)).setCell ⟨gt, x, none⟩ (.bool true)) w.heap.size gh gt gc m m (st.hs.set y (vx + s)) (st.ts.set y true) := by
              have b := ((hbk1.setH y (vx + s)).setT y true).setT x true
              rw [set_told (i := x) (by rw [getD_set_b htl (by omega)]; split <;> simp_all)] at b
              exact b
            have bel1 : Below w.heap.size w (((w1.setCell ⟨gh, y, none⟩ (.int .i64 (vx + s))).setCell ⟨gt, x, none⟩ (.bool true)).setCell ⟨gt, y, none⟩ (.bool true)) := ((hb2.setCell hbk1.bh _).setCell hbk1.bt _).setCell hbk1.bt _
            have bel2 : Below w.heap.size w (((w1.setCell ⟨gh, y, none⟩ (.int .i64 (vx + s))).setCell ⟨gt, y, none⟩ (.bool true)).setCell ⟨gt, x, none⟩ (.bool true)) := ((hb2.setCell hbk1.bh _).setCell hbk1.bt _).setCell hbk1.bt _
            go_cut [] (fun wx => ∃ d, wx = ((w1.setCell ⟨gh, y, none⟩ (.int .i64 (vx + s))).alloc (.cells #[.int .i64 x, .int .i64 y, .int .i64 s, .int .i64 l] 59)).drewN d)
            case first =>
              go_region_with (fail)
              all_goals
                go_wp2
                go_meet
                exact ⟨1, rfl⟩
            case rest =>
              obtain ⟨d, rfl⟩ := hcut
              go_wp2
              go_region_with (fail)
              all_goals
                go_wp2
                go_roundg (gk - 1)
                case measure => omega
                case rel =>
                  refine ⟨_, Lib.hid hI, ?_, ?_⟩
                  · first
                      | exact fin1.below (below_drewN ((Below.refl _ _).alloc (Nat.le_refl _) _) _)
                      | exact fin2.below (below_drewN ((Below.refl _ _).alloc (Nat.le_refl _) _) _)
                  · first
                      | exact below_drewN (bel1.alloc (by simp; exact hb2.size) _) _
                      | exact below_drewN (bel2.alloc (by simp; exact hb2.size) _) _
end Go.Proofs.Ytikdagkopalojaa
