/-
  The law FnMeetLines: the walk.
-/
import Derived.Test.YticoikchcmmpfaaLSet2
import Derived.Test.YticoikchcmmpfaaLMany3
import Derived.Test.YticoikchcmmpfaaLLong2
import Derived.Test.YticoikchcmmpfaaLTurn3
import Derived.Deep.RegionWith
import Derived.Deep.RegionHeld3
namespace Go.Proofs.Yticoikchcmmpfaa
open Go.RowKit
attribute [local go_sem] order_cl cl_zero cl_one cl_two aord_none

theorem CxF.at {w : World} {g n : Nat} {f : Nat → Nat × Nat} (h : CxF w (some ⟨g, 0, none⟩) n f) {k : Nat} (hk : k < n) : w.cell? ⟨g, k, none⟩ = some (.complex .f32 (f k).1 (f k).2) := by
  obtain ⟨b, off, e, _, hc⟩ := h.get hk
  simp only [Option.some.injEq, Addr.mk.injEq, and_true] at e
  obtain ⟨rfl, rfl⟩ := e
  rw [Nat.zero_add] at hc
  exact hc
theorem FlF.at {w : World} {g n : Nat} {f : Nat → Nat} (h : FlF w (some ⟨g, 0, none⟩) n f) {k : Nat} (hk : k < n) : w.cell? ⟨g, k, none⟩ = some (.float .f32 (f k)) := by
  obtain ⟨b, off, e, _, hc⟩ := h.get hk
  simp only [Option.some.injEq, Addr.mk.injEq, and_true] at e
  obtain ⟨rfl, rfl⟩ := e
  rw [Nat.zero_add] at hc
  exact hc

theorem lt_c01 {t c : Rat} (h1 : t ≤ 95 / 10000) (h2 : 99 / 10000 ≤ c) : t < c := by grind

def RetB (v : Value) (w : World) (e : Ending) (w' : World) : Prop := e = .returned v ∧ Below w.heap.size w w'

theorem row_empty (w : World) (B : Nat) (E : TypeId) (hB : B ≤ w.heap.size) : (w.alloc (.cells #[] E)).ownsRow B E 1 (.slice (some ⟨w.heap.size, 0, none⟩) 0 0) 0 [] := by
  have := World.ownsRow_lit (base := B) (e := E) (size := 1) w #[] 0 hB (by unfold maxLen; omega) rfl
  simpa using this

/-- The words of the first k points, of the first k turns. -/
def pts (xs ys : List Int) (k : Nat) : List Value := (List.range k).map fun i => .complex .f32 (pf xs ys i).1 (pf xs ys i).2
def tns (ys : List Int) (k : Nat) : List Value := (List.range k).map fun i => .float .f32 (tT (jf ys i))
theorem pts_succ (xs ys : List Int) (k : Nat) : pts xs ys (k + 1) = pts xs ys k ++ [.complex .f32 (pf xs ys k).1 (pf xs ys k).2] := by simp [pts, List.range_succ]
theorem tns_succ (ys : List Int) (k : Nat) : tns ys (k + 1) = tns ys k ++ [.float .f32 (tT (jf ys k))] := by simp [tns, List.range_succ]

set_option maxRecDepth 8000 in
set_option maxHeartbeats 4000000 in
theorem lawFnMeetLines (a : Option Addr) (la ca : Nat) (xs : List Int) (b : Option Addr) (lb cb : Nat) (ys : List Int) (w : World) (_ : la ≤ 9223372036854775807) (hx : ByS w a la xs) (_ : lb ≤ 9223372036854775807) (hy : ByS w b lb ys) :
    Calls Try.prog 3 #[.slice a la ca, .slice b lb cb] w (RetB (.bool true) w) := by
  have cL := b10Long a b la ca lb cb w
  cases hbig : (decide (1048576 < la) || decide (1048576 < lb)) with
  | true =>
    rw [hbig] at cL
    go_enter Try.func3, Try.ntmps3
    go_wp2_with (go_at_call 5; refine cL.mono ?_; rintro e w1 ⟨rfl, hd1⟩)
    exact bodyPost_ret (by simp [results, Try.results3, go_sem]) rfl ⟨rfl, hd1.below _⟩
  | false =>
    rw [hbig] at cL
    clear hbig
    obtain ⟨n2, n6, hnn⟩ := nn_range ys
    have r00 := b10_range (xs := xs) 0 (n := 33) (by omega)
    have r01 := b10_range (xs := xs) 1 (n := 33) (by omega)
    have r10 := b10_range (xs := ys) 0 (n := 5) (by omega)
    have hZX : ab .quo .f32 (some (floatOfInt .f32 (b10 xs 0 33 - 16))) (some 1082130432) = zXc xs := rfl
    have hZY : ab .quo .f32 (some (floatOfInt .f32 (b10 xs 1 33 - 16))) (some 1082130432) = zYc xs := rfl
    have k32 : cl .f32 1082130432 = some 1082130432 := by decide
    have k32' : cl .f32 1107296256 = some 1107296256 := by decide
    obtain ⟨i0, hi, hz0, hz1, hz2⟩ := info_parts infoC
    obtain ⟨i1, hi1, hy0, hy1', hy2⟩ := info_parts infoF
    have bx0 := fun (W : World) (hb : Below w.heap.size w W) => b10At a la ca xs 0 0 33 rfl (by omega) (by omega) W (hx.below hb)
    have bx1 := fun (W : World) (hb : Below w.heap.size w W) => b10At a la ca xs 1 1 33 rfl (by omega) (by omega) W (hx.below hb)
    have by0 := fun (W : World) (hb : Below w.heap.size w W) => b10At b lb cb ys 0 0 5 rfl (by omega) (by omega) W (hy.below hb)
    generalize b10 xs 0 33 = v00 at *
    generalize b10 xs 1 33 = v01 at *
    generalize b10 ys 0 5 = v10 at *
    obtain ⟨m, rfl⟩ : ∃ m : Nat, v10 = (m : Int) := ⟨v10.toNat, by omega⟩
    have hN : nn ys = m + 2 := by omega
    clear hnn
    go_enter Try.func3, Try.ntmps3
    go_wp2_with fail
    refine cL.mono ?_
    rintro e w1 ⟨rfl, hd1⟩
    have hb1 := hd1.below w.heap.size
    go_wp2_with fail
    refine (bx0 _ hb1).mono ?_
    rintro e w2 ⟨rfl, hd2⟩
    have hb2 := hb1.trans (hd2.below _)
    go_wp2_with (refine wpList_flc rfl rfl rfl rfl rfl (cl_intB _ _) k32 ?_; intro x d hr; rw [hZX] at hr)
    have hx1 := hr
    clear hr
    refine (bx1 _ (below_drewN hb2 _)).mono ?_
    rintro e w3 ⟨rfl, hd3⟩
    have hb3 := (below_drewN hb2 d).trans (hd3.below _)
    go_wp2_with (refine wpList_flc rfl rfl rfl rfl rfl (cl_intB _ _) k32 ?_; intro y d' hr; rw [hZY] at hr)
    refine (by0 _ (below_drewN hb3 _)).mono ?_
    rintro e w4 ⟨rfl, hd4⟩
    have hb4 := (below_drewN hb3 d').trans (hd4.below _)
    clear bx0 bx1 by0 hZX hZY hb1 hb2 hb3 hd1 hd2 hd3 hd4 r00 r01 cL
    have hB4 := hb4.size
    have row1 := (row_empty w4 w.heap.size 24 hB4).alloc (.cells #[] 25)
    have hb5 := hb4.alloc hB4 (.cells #[] 24)
    have hB5 := hb5.size
    have row2 := row_empty (w4.alloc (.cells #[] 24)) w.heap.size 25 hB5
    have hb6 := hb5.alloc hB5 (.cells #[] 25)
    have far0 : Far (.slice (some ⟨w4.heap.size, 0, none⟩) 0 0) (.slice (some ⟨(w4.alloc (.cells #[] 24)).heap.size, 0, none⟩) 0 0) := by
      intro g hg hg'
      have e1 : w4.heap.size = g := by simpa [Value.ownBlock] using hg
      have e2 : (w4.alloc (.cells #[] 24)).heap.size = g := by simpa [Value.ownBlock] using hg'
      simp at e2
      omega
    have es : (w4.alloc (.cells #[] 24)).heap.size = w4.heap.size + 1 := by simp
    rw [es] at row2 far0
    have hy1 := hr
    clear hr hb4 hB4 hb5 hB5 es
    go_wp2_with fail
    go_loopw [7, 8, 9, 10, 11] (fun v7 v8 i _ _ wr => ∃ k : Nat, i = .int .i64 (k : Int) ∧ k ≤ nn ys ∧ wr.ownsRow w.heap.size 24 1 v7 k (pts xs ys k) ∧ wr.ownsRow w.heap.size 25 1 v8 k (tns ys k) ∧ Far v7 v8 ∧ Below w.heap.size w wr) (fun _ _ i _ _ _ => nn ys - (intOf i).toNat)
    case atStart => exact ⟨0, rfl, Nat.zero_le _, row1, row2, far0, hb6⟩
    case round =>
      obtain ⟨k, rfl, hk, hr1, hr2, hfar, hb⟩ := hrel
      clear row1 row2 far0 hb6
      have hB := hb.size
      by_cases hlt : k < nn ys
      · obtain ⟨jd, jv⟩ := jf_range ys k
        have hq := b10_range (xs := ys) (k + 1) (n := 2) (by omega)
        have hq2 := b10_range (xs := xs) (k + 2) (n := 6) (by omega)
        have cy := fun (W : World) (hb : Below w.heap.size w W) (i : Int) (hi : i = ((k + 1 : Nat) : Int)) => b10At b lb cb ys (k + 1) i 2 hi (by omega) (by omega) W (hy.below hb)
        have cx := fun (W : World) (hb : Below w.heap.size w W) (i : Int) (hi : i = ((k + 2 : Nat) : Int)) => b10At a la ca xs (k + 2) i 6 hi (by omega) (by omega) W (hx.below hb)
        obtain ⟨e1, e2, e3, e4, _, _, _, _, v1, v2, v3, v4, _, _, _⟩ := tab_get (j := jf ys k) (by omega) (by omega)
        obtain ⟨_, _, cp1, cp2, ep1, ep2⟩ := p_get xs ys hlt
        have hff : fi (ff xs k) = some (floatOfInt .f32 (1 + b10 xs (k + 2) 6)) := rfl
        unfold turnX at e1
        rw [jv] at e1
        generalize b10 ys (k + 1) 2 = q at *
        generalize hfk : b10 xs (k + 2) 6 = q2 at *
        go_wp2_with fail
        refine (cy _ hb _ (by omega)).mono ?_
        rintro e w5 ⟨rfl, d1, rfl⟩
        go_wp2_with (refine wpList_flc rfl rfl rfl rfl rfl (cl_intB _ _) k32' ?_; intro t d2 ht; rw [e1] at ht)
        obtain rfl := cl_some ht
        refine (cx _ (by repeat refine below_drewN ?_ _
                         exact hb) _ (by omega)).mono ?_
        rintro e w5 ⟨rfl, d3, rfl⟩
        have hfw : cl .f32 (floatOfInt .f32 (1 + q2)) = fi (ff xs k) := by rw [hff]; exact cl_intB _ _
        clear cy cx e1 hff
        go_wp2_with (first | (refine wpList_flc rfl rfl rfl rfl rfl (show cl .f32 1048576000 = some 1048576000 by decide) ht ?_; intro r d4 hr) | (refine wpList_widc rfl rfl Try.underlying25 Try.underlying31 rfl hr ?_; intro r' d5 hr'))
        refine (specPhasor (X := angX (some (tT (jf ys k)))) hr' (qn (jf ys k)) e2 _).mono ?_
        rintro e w5 ⟨u1, u2, rfl, hu1, hu2, d6, rfl⟩
        rw [e3] at hu1
        rw [e4] at hu2
        clear hr hr' e2 e3 e4
        go_wp2_with fail
        refine (specScale _ _ _ _).mono ?_
        rintro e w5 ⟨m1, m2, rfl, hm1, hm2, d7, rfl⟩
        rw [hu1, hfw] at hm1
        rw [hu2, hfw] at hm2
        have r1e : ((wr.drewN (d1 + d2 + d3 + d4 + d5 + d6)).drewN d7).ownsRow w.heap.size 24 1 _ k (pts xs ys k) := hr1
        have r2e : ((wr.drewN (d1 + d2 + d3 + d4 + d5 + d6)).drewN d7).ownsRow w.heap.size 25 1 _ k (tns ys k) := hr2
        have hbe : Below w.heap.size w ((wr.drewN (d1 + d2 + d3 + d4 + d5 + d6)).drewN d7) := below_drewN (below_drewN hb _) _
        clear hr1 hr2 hb hB
        generalize (wr.drewN (d1 + d2 + d3 + d4 + d5 + d6)).drewN d7 = we at *
        have hpx : ab .sub .f32 (zXc xs) (ab .mul .f32 (some (uR (jf ys k))) (fi (ff xs k))) = pXc xs ys k := rfl
        have hpy : ab .sub .f32 (zYc xs) (ab .mul .f32 (some (uI (jf ys k))) (fi (ff xs k))) = pYc xs ys k := rfl
        go_wp2_with (first
          | (refine wpList_cs rfl rfl rfl rfl rfl hx1 hm1 hy1 hm2 ?_; intro p1 p2 d8 hp1 hp2; rw [hpx, ep1] at hp1; rw [hpy, ep2] at hp2; obtain rfl := cl_some hp1; obtain rfl := cl_some hp2; have r1f : (we.drewN d8).ownsRow w.heap.size 24 1 _ k (pts xs ys k) := r1e; have r2f : (we.drewN d8).ownsRow w.heap.size 25 1 _ k (tns ys k) := r2e; have hbf := below_drewN hbe d8; have hBf := hbf.size; generalize we.drewN d8 = wf at *)
          | (at_builtin; refine wpList_append_lies _ rfl (.tmp 69) (.tmp 78) 27 rfl w.heap.size 24 i0 (.complex .f32 0 0) 1 8 Try.underlying27 hi hz0 hz1 hz2 rfl (by decide) _ k (pts xs ys k) rfl (r1f.alloc _) ⟨wf.heap.size, 0, none⟩ 1 1 [.complex .f32 (pf xs ys k).1 (pf xs ys k).2] rfl rfl (World.news_of_block (heap_alloc_new _ _)) (by simp [Value.oneCell']) (by omega) (by unfold maxLen; omega) (by omega) (by simp; omega) (wf.heap.size + 1) (by simp) ?_; intro qa qca wg hown1 hgrow1 hat1 hlt1; have r2g := (r2f.alloc _).kept hgrow1 hfar.kept1; have hbg := (hbf.alloc hBf _).grown hgrow1 (by simp; omega) (fun g hg => (r1f.lt g hg).1); have hBg := hbg.size)
          | (at_builtin; refine wpList_append_lies _ rfl (.tmp 80) (.tmp 82) 28 rfl w.heap.size 25 i1 (.float .f32 0) 1 4 Try.underlying28 hi1 hy0 hy1' hy2 rfl (by decide) _ k (tns ys k) rfl (r2g.alloc _) ⟨wg.heap.size, 0, none⟩ 1 1 [.float .f32 (tT (jf ys k))] rfl rfl (World.news_of_block (heap_alloc_new _ _)) (by simp [Value.oneCell']) (by omega) (by unfold maxLen; omega) (by omega) (by simp; omega) (wg.heap.size + 1) (by simp) ?_; intro qb qcb wh hown2 hgrow2 hat2 hlt2))
        have hqa : ∀ g, (Value.slice (some ⟨qa, 0, none⟩) (k + 1) qca).ownBlock = some g → u8.ownBlock ≠ some g := by
          intro g hg e2
          simp [Value.ownBlock] at hg
          subst hg
          rcases hat1 with e | e
          · exact hfar _ e e2
          · have := (r2f.lt _ e2).2
            omega
        have r1g := (hown1.alloc (.cells #[.float .f32 (tT (jf ys k))] 25)).kept hgrow2 (by
          right
          intro e
          exact hqa qa rfl e.symm)
        go_roundw
        case rel =>
          refine ⟨k + 1, by go_num, by omega, by rw [pts_succ]; exact r1g, by rw [tns_succ]; exact hown2, ?_, (hbg.alloc hBg _).grown hgrow2 (by simp; omega) (fun g hg => (r2g.lt g hg).1)⟩
          intro g hg
          have hqg : qa = g := by simpa [Value.ownBlock] using hg
          subst hqg
          intro e2
          have hqb : qb = qa := by simpa [Value.ownBlock] using e2
          rcases hat2 with e | e
          · exact hqa qa rfl (by rw [← hqb]; exact e)
          · omega
        case measure => simp [intOf]; omega
      · obtain rfl : k = nn ys := by omega
        obtain ⟨g1, c1, rfl, hg1, hc1⟩ := row_at hr1 (by omega)
        obtain ⟨g2, c2, rfl, hg2, hc2⟩ := row_at hr2 (by omega)
        have hA : CxF wr (some ⟨g1, 0, none⟩) (nn ys) (pf xs ys) := ⟨by omega, .inr ⟨g1, 0, rfl, hg1, fun i hi => by rw [Nat.zero_add, hc1 i hi]; simp [pts, hi]⟩⟩
        have hT : FlF wr (some ⟨g2, 0, none⟩) (nn ys) (fun i => tT (jf ys i)) := ⟨by omega, .inr ⟨g2, 0, rfl, hg2, fun i hi => by rw [Nat.zero_add, hc2 i hi]; simp [tns, hi]⟩⟩
        obtain ⟨last, hlast⟩ : ∃ last, nn ys = last + 1 := ⟨nn ys - 1, by omega⟩
        have z0 : wr.cell? ⟨g1, 0, none⟩ = some (.complex .f32 (pf xs ys 0).1 (pf xs ys 0).2) := (hc1 0 (by omega)).trans (by simp [pts, hN])
        have z1 : wr.cell? ⟨g1, last, none⟩ = some (.complex .f32 (pf xs ys last).1 (pf xs ys last).2) := (hc1 last (by omega)).trans (by simp [pts, hlast])
        have y0 : wr.cell? ⟨g2, 0, none⟩ = some (.float .f32 (tT (jf ys 0))) := (hc2 0 (by omega)).trans (by simp [tns, hN])
        have y1 : wr.cell? ⟨g2, last, none⟩ = some (.float .f32 (tT (jf ys last))) := (hc2 last (by omega)).trans (by simp [tns, hlast])
        clear hr1 hr2 hfar hc1 hc2 hk hi hi1 hz0 hz1 hz2 hy0 hy1' hy2
        obtain ⟨t1, ⟨tp, tp1, tp2⟩, ⟨tq, tq1, tq2⟩⟩ := turn_facts xs ys
        rw [show nn ys - 1 = last by omega] at t1 tp1 tq1
        obtain ⟨_, _, cp1, cp2, _, _⟩ := p_get xs ys (k := 0) (by omega)
        obtain ⟨⟨_, vp3, _⟩, ⟨_, vp4, _⟩, cp3, cp4, _, _⟩ := p_get xs ys (k := last) (by omega)
        obtain ⟨⟨_, vp1, _⟩, ⟨_, vp2, _⟩, _⟩ := p_get xs ys (k := 0) (by omega)
        have jd0 := (jf_range ys 0).1
        have jd1 := (jf_range ys last).1
        have num0 : NumC (pf xs ys 0) := ⟨by rw [cp1]; exact vp1.isNum, by rw [cp2]; exact vp2.isNum⟩
        have num1 : NumC (pf xs ys last) := ⟨by rw [cp3]; exact vp3.isNum, by rw [cp4]; exact vp4.isNum⟩
        have cT := fun W => meetTurnsT (j0 := jf ys 0) (j1 := jf ys last) (by omega) (by omega) (by omega) (by omega) _ _ num0 num1 cp1 cp2 cp3 cp4 t1 tp1.isNum tq1.isNum W
        have cT2 := fun W => meetTurnsF (j := jf ys 0) (by omega) (by omega) _ _ num0 num1 W
        have cT3 := fun W => specTurnsF (j := jf ys 0) (by omega) (by omega) _ _ num0 num1 W
        have cMM := fun (ca cb : Nat) (W : World) (h1 : CxF W (some ⟨g1, 0, none⟩) (nn ys) (pf xs ys)) (h2 : FlF W (some ⟨g2, 0, none⟩) (nn ys) (fun i => tT (jf ys i))) => meetMany (n := nn ys) (lines xs ys) (some ⟨g1, 0, none⟩) (some ⟨g2, 0, none⟩) ca cb W h1 h2
        obtain ⟨zx1, zx2⟩ := zX_get xs
        obtain ⟨zy1, zy2⟩ := zY_get xs
        have LF := long_facts xs ys
        go_wp2
        have hwl : IntKind.i64.wrap (2 + (m : Int) - 1) = (last : Int) := by rw [show (2 : Int) + m - 1 = last by omega]; exact IntWalk.i64_in _ (by omega)
        have hl1 : (last : Int) < (nn ys : Int) := by omega
        have hl0 : (0 : Int) < (nn ys : Int) := by omega
        have hl0' : 0 < nn ys := by omega
        have hl0n : nn ys ≠ 0 := by omega
        generalize (2 : Int) + m = nI at *
        clear hN hlast jd0 jd1 hlt
        generalize nn ys = N at *
        generalize hP0 : (pf xs ys 0).1 = a1 at *
        generalize hP1 : (pf xs ys 0).2 = a2 at *
        generalize hP2 : (pf xs ys last).1 = b1 at *
        generalize hP3 : (pf xs ys last).2 = b2 at *
        generalize hS0 : tT (jf ys 0) = s0 at *
        generalize tT (jf ys last) = s1 at *
        go_region_held3 (fun W => (W.cell? ⟨g1, 0, none⟩ = some (.complex .f32 a1 a2) ∧ W.cell? ⟨g1, last, none⟩ = some (.complex .f32 b1 b2)) ∧ (W.cell? ⟨g2, 0, none⟩ = some (.float .f32 s0) ∧ W.cell? ⟨g2, last, none⟩ = some (.float .f32 s1))) (first | exact ⟨⟨z0, z1⟩, y0, y1⟩ | (have hg1' : g1 < w1.heap.size := Nat.lt_of_lt_of_le hg1 hbT.size; exact ⟨⟨(hbT.cell (p := ⟨g1, 0, none⟩) hg1).trans z0, (hbT.cell (p := ⟨g1, last, none⟩) hg1).trans z1⟩, (hbT.cell (p := ⟨g2, 0, none⟩) hg2).trans y0, (hbT.cell (p := ⟨g2, last, none⟩) hg2).trans y1⟩)) ((go_at_call 9; refine (cT _).mono ?_; rintro e w1 ⟨p, q, rfl, hp, hq, hbT⟩))
        have hbT' : Below wr.heap.size wr w1 := below_of_drewN (d := 1) hbT
        have hb1 : Below w.heap.size w w1 := hb.trans (hbT'.mono hB)
        have hA1 := hA.below hbT'
        have hT1 := hT.below hbT'
        have hg1b := Nat.lt_of_lt_of_le hg1 hbT'.size
        have hg2b := Nat.lt_of_lt_of_le hg2 hbT'.size
        have hB1 := hb1.size
        clear hbT hbT' hb hB hA hT cT t1 vp3 vp4 z0 z1 y0 y1 hg1 hg2
        have k05 : cl .f64 4587366580439587226 = c05 := by decide
        have k01 : cl .f64 4576918229304087675 = c01 := by decide
        obtain ⟨f1, n1⟩ := near_test tp1 tq1 zx1 zy1 (tp2.mono (by decide +kernel)) (tq2.mono (by decide +kernel))
        generalize tmX (pXc xs ys 0) (some (uR (jf ys 0))) (pXc xs ys last) (pXc xs ys 0) (pYc xs ys last) (pYc xs ys 0) (some (uR (jf ys 0))) (some (uI (jf ys 0))) (some (uR (jf ys last))) (some (uI (jf ys last))) = TP at *
        generalize tmX (pYc xs ys 0) (some (uI (jf ys 0))) (pXc xs ys last) (pXc xs ys 0) (pYc xs ys last) (pYc xs ys 0) (some (uR (jf ys 0))) (some (uI (jf ys 0))) (some (uR (jf ys last))) (some (uI (jf ys last))) = TQ at *
        have cL1 : ∀ u v, cl .f32 u = ab .sub .f32 TP (zXc xs) → cl .f32 v = ab .sub .f32 TQ (zYc xs) → ∀ W, Calls Try.prog 11 #[.complex .f32 u v] W (RetF (longX (ab .sub .f32 TP (zXc xs)) (ab .sub .f32 TQ (zYc xs))) W) := fun u v hu hv W => by
          have := specLong u v (by rw [hu, hv]; exact f1) W
          rw [hu, hv] at this
          exact this
        go_wp2_with fail
        refine (cMM _ _ _ hA1 hT1).mono ?_
        rintro e w2 ⟨r', q', mm, rfl, hbM, xv, yv, tv, hxv, hyv, htv, exv, eyv, tv0, tv95⟩
        have hb2 : Below w.heap.size w w2 := hb1.trans (hbM.mono hB1)
        have hA2 := hA1.below hbM
        have hT2 := hT1.below hbM
        have hg1c := Nat.lt_of_lt_of_le hg1b hbM.size
        have hg2c := Nat.lt_of_lt_of_le hg2b hbM.size
        have hB2 := hb2.size
        obtain ⟨f2, n2'⟩ := near_test hxv hyv zx1 zy1 exv eyv
        obtain ⟨c1v, hc1v, hc1v'⟩ := c01_vl
        have n3 := no_gt htv.wid hc1v (lt_c01 tv95 hc1v')
        have cL2 : ∀ u v, cl .f32 u = ab .sub .f32 (cl .f32 r') (zXc xs) → cl .f32 v = ab .sub .f32 (cl .f32 q') (zYc xs) → ∀ W, Calls Try.prog 11 #[.complex .f32 u v] W (RetF (longX (ab .sub .f32 (cl .f32 r') (zXc xs)) (ab .sub .f32 (cl .f32 q') (zYc xs))) W) := fun u v hu hv W => by
          have := specLong u v (by rw [hu, hv]; exact f2) W
          rw [hu, hv] at this
          exact this
        clear hA1 hT1 hbM hb1 hg1b hg2b hB1 cMM hxv hyv htv exv eyv tv0 tv95 f1 f2 hc1v hc1v' tp1 tp2 tq1 tq2
        generalize longX (ab .sub .f32 TP (zXc xs)) (ab .sub .f32 TQ (zYc xs)) = L1 at *
        generalize longX (ab .sub .f32 (cl .f32 r') (zXc xs)) (ab .sub .f32 (cl .f32 q') (zYc xs)) = L2 at *
        have z0 : w2.cell? ⟨g1, 0, none⟩ = some (.complex .f32 a1 a2) := (hA2.at (by omega)).trans (by rw [hP0, hP1])
        obtain ⟨fr, fs, ⟨rv, hrv⟩, ⟨sv, hsv⟩, ⟨oxv, hoxv⟩, ⟨oyv, hoyv⟩, LA⟩ := LF
        have cL3 : ∀ u v, cl .f32 u = ab .sub .f32 (zXc xs) (pXc xs ys 0) → cl .f32 v = ab .sub .f32 (zYc xs) (pYc xs ys 0) → ∀ W, Calls Try.prog 11 #[.complex .f32 u v] W (RetF (rc xs ys) W) := fun u v hu hv W => by
          have := specLong u v (by rw [hu, hv]; exact fr) W
          rw [hu, hv] at this
          exact this
        have cL4 : ∀ u v, cl .f32 u = ab .sub .f32 (zXc xs) (oXc xs ys) → cl .f32 v = ab .sub .f32 (zYc xs) (oYc xs ys) → ∀ W, Calls Try.prog 11 #[.complex .f32 u v] W (RetF (sc xs ys) W) := fun u v hu hv W => by
          have := specLong u v (by rw [hu, hv]; exact fs) W
          rw [hu, hv] at this
          exact this
        have r7 := b10_range (xs := ys) 7 (n := 5) (by omega)
        have r8 := b10_range (xs := ys) 8 (n := 9) (by omega)
        have c7 := fun W hW => b10At b lb cb ys 7 7 5 rfl (by omega) (by omega) W hW
        have c8 := fun W hW => b10At b lb cb ys 8 8 9 rfl (by omega) (by omega) W hW
        have hdx : cl .f32 (floatOfInt .f32 (1 + b10 ys 7 5)) = dXc ys := cl_intB _ _
        have hdy : ab .quo .f32 (some (floatOfInt .f32 (b10 ys 8 9 - 4))) (some 1073741824) = dYc ys := rfl
        have k2 : cl .f32 1073741824 = some 1073741824 := by decide
        have hox : ab .add .f32 (zXc xs) (dXc ys) = oXc xs ys := rfl
        have hoy : ab .add .f32 (zYc xs) (dYc ys) = oYc xs ys := rfl
        generalize b10 ys 7 5 = q7 at *
        generalize b10 ys 8 9 = q8 at *
        generalize oXc xs ys = OX at *
        generalize oYc xs ys = OY at *
        generalize dXc ys = DX at *
        generalize dYc ys = DY at *
        generalize rc xs ys = RC at *
        generalize sc xs ys = SC at *
        generalize zXc xs = ZX at *
        generalize zYc xs = ZY at *
        generalize pXc xs ys 0 = PX at *
        generalize pYc xs ys 0 = PY at *
        clear fr fs hrv hsv zx1 zx2 zy1 zy2
        go_wp2_with (first
          | (refine wpList_cs rfl rfl rfl rfl rfl hp hx1 hq hy1 ?_; intro e1 e2 d8 hq1 hq2)
          | (refine wpList_cs rfl rfl rfl rfl rfl hx1 cp1 hy1 cp2 ?_; intro e1 e2 d8 hq1 hq2)
          | (refine wpList_cs rfl rfl rfl rfl rfl hx1 hdx hy1 (by assumption) ?_; intro o1 o2 d8 ho1 ho2; rw [hox] at ho1; rw [hoy] at ho2)
          | (refine wpList_cs rfl rfl rfl rfl rfl hx1 ho1 hy1 ho2 ?_; intro e1 e2 d8 hq1 hq2)
          | (refine wpList_cs rfl rfl rfl rfl rfl rfl hx1 rfl hy1 ?_; intro e1 e2 d8 hq1 hq2)
          | (go_at_call 11; (first | (with_reducible refine (cL1 _ _ (by assumption) (by assumption) _).mono ?_) | (with_reducible refine (cL2 _ _ (by assumption) (by assumption) _).mono ?_) | (with_reducible refine (cL3 _ _ (by assumption) (by assumption) _).mono ?_) | (with_reducible refine (cL4 _ _ (by assumption) (by assumption) _).mono ?_)); rintro e w3 ⟨l, rfl, hl, d3, rfl⟩)
          | (go_at_call 6; (first | (with_reducible refine (c7 _ (hy.below (below_drewN hb2 _))).mono ?_) | (with_reducible refine (c8 _ (hy.below (below_drewN hb2 _))).mono ?_)); rintro e w3 ⟨rfl, d3, rfl⟩)
          | (refine wpList_flc rfl rfl rfl rfl rfl (cl_intB _ _) k2 ?_; intro r d hr; rw [hdy] at hr)
          | (refine wpList_widc rfl rfl Try.underlying25 Try.underlying31 rfl (by first | assumption | exact rfl) ?_; intro r d hr))
        have num0' : NumC (a1, a2) := by rw [← hP0, ← hP1]; exact num0
        have numO : NumC (o1, o2) := ⟨by show isNum .f32 (cl .f32 o1) = true; rw [ho1]; exact hoxv.isNum, by show isNum .f32 (cl .f32 o2) = true; rw [ho2]; exact hoyv.isNum⟩
        clear cL1 cL2 cL3 cL4 c7 c8 hoxv hoyv n1 n2' n3 hp hq hdx hdy hox hoy r7 r8 k01 hx1 hy1
        go_loopw [20, 21, 22, 23, 24] (fun i _ _ _ _ wr' => ∃ k : Nat, i = .int .i64 (k : Int) ∧ k ≤ 2 ∧ Below w2.heap.size w2 wr') (fun i _ _ _ _ _ => 2 - (intOf i).toNat)
        case atStart => exact ⟨0, rfl, by omega, below_drewN (Below.refl _ _) _⟩
        case round =>
          obtain ⟨k, rfl, hk2, hbr⟩ := hrel
          have hk3 : k = 0 ∨ k = 1 ∨ k = 2 := by omega
          clear hk2
          rcases hk3 with rfl | rfl | rfl
          · skip
            obtain ⟨yes, hok, hfacts⟩ := LA true
            have cS := fun r s (hr : cl .f32 r = RC) (hs : cl .f32 s = SC) W => specLongs (a1, a2) (o1, o2) r s true yes num0' numO cp1 cp2 ho1 ho2 hr hs hok W
            have cI := fun r s (hr : cl .f32 r = RC) (hs : cl .f32 s = SC) W => implLongs (a1, a2) (o1, o2) r s true yes num0' numO cp1 cp2 ho1 ho2 hr hs hok W
            have hg3 := Nat.lt_of_lt_of_le hg1c hbr.size
            have z3 := (hbr.cell (p := ⟨g1, 0, none⟩) hg1c).trans z0
            clear hok LA
            generalize lp1 PX PY OX OY RC SC true = Q1 at *
            generalize lp2 PX PY OX OY RC SC true = Q2 at *
            go_wp2_with fail
            refine (cS _ _ (by assumption) (by assumption) _).mono ?_
            rintro e w5 ⟨s1', s2', rfl, _, hb5⟩
            have hb25 : Below w2.heap.size w2 w5 := hbr.trans (hb5.mono hbr.size)
            have z5 := (hb25.cell (p := ⟨g1, 0, none⟩) hg1c).trans z0
            have hg5 := Nat.lt_of_lt_of_le hg1c hb25.size
            clear hb5 z3 hg3 cS
            go_wp2_with fail
            refine (cI _ _ (by assumption) (by assumption) _).mono ?_
            rintro e w6 ⟨p1, p2, rfl, hpp, hb6⟩
            have hb26 : Below w2.heap.size w2 w6 := hb25.trans (hb6.mono hb25.size)
            have z6 := (hb26.cell (p := ⟨g1, 0, none⟩) hg1c).trans z0
            have hg6 := Nat.lt_of_lt_of_le hg1c hb26.size
            clear hb6 z5 hg5 cI hb25 hbr
            cases yes with
            | false =>
              clear hpp hfacts
              go_wp2
              go_roundw
              case rel => exact ⟨1, by first | rfl | go_num, by omega, by first | exact hb26 | exact below_drewN hb26 _⟩
              case measure => simp [intOf]
            | true =>
              obtain ⟨hp1, hp2⟩ := hpp rfl
              obtain ⟨f1, n1, f2, n2'⟩ := hfacts rfl Q1 Q2 rfl rfl
              have cL5 : ∀ u v, cl .f32 u = ab .sub .f32 Q1 PX → cl .f32 v = ab .sub .f32 Q2 PY → ∀ W, Calls Try.prog 11 #[.complex .f32 u v] W (RetF (longX (ab .sub .f32 Q1 PX) (ab .sub .f32 Q2 PY)) W) := fun u v hu hv W => by
                have := specLong u v (by rw [hu, hv]; exact f1) W
                rw [hu, hv] at this
                exact this
              have cL6 : ∀ u v, cl .f32 u = ab .sub .f32 Q1 OX → cl .f32 v = ab .sub .f32 Q2 OY → ∀ W, Calls Try.prog 11 #[.complex .f32 u v] W (RetF (longX (ab .sub .f32 Q1 OX) (ab .sub .f32 Q2 OY)) W) := fun u v hu hv W => by
                have := specLong u v (by rw [hu, hv]; exact f2) W
                rw [hu, hv] at this
                exact this
              clear hpp hfacts f1 f2
              generalize longX (ab .sub .f32 Q1 PX) (ab .sub .f32 Q2 PY) = L5 at *
              generalize longX (ab .sub .f32 Q1 OX) (ab .sub .f32 Q2 OY) = L6 at *
              go_wp2_with (first
                | (refine wpList_cs rfl rfl rfl rfl rfl hp1 cp1 hp2 cp2 ?_; intro e1 e2 d8 hq1 hq2)
                | (refine wpList_cs rfl rfl rfl rfl rfl hp1 ho1 hp2 ho2 ?_; intro e1 e2 d8 hq1 hq2)
                | (go_at_call 11; (first | (with_reducible refine (cL5 _ _ (by assumption) (by assumption) _).mono ?_) | (with_reducible refine (cL6 _ _ (by assumption) (by assumption) _).mono ?_)); rintro e w3 ⟨l', rfl, hl', d3, rfl⟩)
                | (go_at_call 14; refine (b10Gap (by assumption) (by assumption) _).mono ?_; rintro e w3 ⟨gp, rfl, hgp, d3, rfl⟩)
                | (refine wpList_widc rfl rfl Try.underlying25 Try.underlying31 rfl (by assumption) ?_; intro r d hr))
              go_roundw
              case rel => exact ⟨1, by first | rfl | go_num, by omega, by first | exact hb26 | exact below_drewN hb26 _⟩
              case measure => simp [intOf]
          · skip
            obtain ⟨yes, hok, hfacts⟩ := LA false
            have cS := fun r s (hr : cl .f32 r = RC) (hs : cl .f32 s = SC) W => specLongs (a1, a2) (o1, o2) r s false yes num0' numO cp1 cp2 ho1 ho2 hr hs hok W
            have cI := fun r s (hr : cl .f32 r = RC) (hs : cl .f32 s = SC) W => implLongs (a1, a2) (o1, o2) r s false yes num0' numO cp1 cp2 ho1 ho2 hr hs hok W
            have hg3 := Nat.lt_of_lt_of_le hg1c hbr.size
            have z3 := (hbr.cell (p := ⟨g1, 0, none⟩) hg1c).trans z0
            clear hok LA
            generalize lp1 PX PY OX OY RC SC false = Q1 at *
            generalize lp2 PX PY OX OY RC SC false = Q2 at *
            go_wp2_with fail
            refine (cS _ _ (by assumption) (by assumption) _).mono ?_
            rintro e w5 ⟨s1', s2', rfl, _, hb5⟩
            have hb25 : Below w2.heap.size w2 w5 := hbr.trans (hb5.mono hbr.size)
            have z5 := (hb25.cell (p := ⟨g1, 0, none⟩) hg1c).trans z0
            have hg5 := Nat.lt_of_lt_of_le hg1c hb25.size
            clear hb5 z3 hg3 cS
            go_wp2_with fail
            refine (cI _ _ (by assumption) (by assumption) _).mono ?_
            rintro e w6 ⟨p1, p2, rfl, hpp, hb6⟩
            have hb26 : Below w2.heap.size w2 w6 := hb25.trans (hb6.mono hb25.size)
            have z6 := (hb26.cell (p := ⟨g1, 0, none⟩) hg1c).trans z0
            have hg6 := Nat.lt_of_lt_of_le hg1c hb26.size
            clear hb6 z5 hg5 cI hb25 hbr
            cases yes with
            | false =>
              clear hpp hfacts
              go_wp2
              go_roundw
              case rel => exact ⟨2, by first | rfl | go_num, by omega, by first | exact hb26 | exact below_drewN hb26 _⟩
              case measure => simp [intOf]
            | true =>
              obtain ⟨hp1, hp2⟩ := hpp rfl
              obtain ⟨f1, n1, f2, n2'⟩ := hfacts rfl Q1 Q2 rfl rfl
              have cL5 : ∀ u v, cl .f32 u = ab .sub .f32 Q1 PX → cl .f32 v = ab .sub .f32 Q2 PY → ∀ W, Calls Try.prog 11 #[.complex .f32 u v] W (RetF (longX (ab .sub .f32 Q1 PX) (ab .sub .f32 Q2 PY)) W) := fun u v hu hv W => by
                have := specLong u v (by rw [hu, hv]; exact f1) W
                rw [hu, hv] at this
                exact this
              have cL6 : ∀ u v, cl .f32 u = ab .sub .f32 Q1 OX → cl .f32 v = ab .sub .f32 Q2 OY → ∀ W, Calls Try.prog 11 #[.complex .f32 u v] W (RetF (longX (ab .sub .f32 Q1 OX) (ab .sub .f32 Q2 OY)) W) := fun u v hu hv W => by
                have := specLong u v (by rw [hu, hv]; exact f2) W
                rw [hu, hv] at this
                exact this
              clear hpp hfacts f1 f2
              generalize longX (ab .sub .f32 Q1 PX) (ab .sub .f32 Q2 PY) = L5 at *
              generalize longX (ab .sub .f32 Q1 OX) (ab .sub .f32 Q2 OY) = L6 at *
              go_wp2_with (first
                | (refine wpList_cs rfl rfl rfl rfl rfl hp1 cp1 hp2 cp2 ?_; intro e1 e2 d8 hq1 hq2)
                | (refine wpList_cs rfl rfl rfl rfl rfl hp1 ho1 hp2 ho2 ?_; intro e1 e2 d8 hq1 hq2)
                | (go_at_call 11; (first | (with_reducible refine (cL5 _ _ (by assumption) (by assumption) _).mono ?_) | (with_reducible refine (cL6 _ _ (by assumption) (by assumption) _).mono ?_)); rintro e w3 ⟨l', rfl, hl', d3, rfl⟩)
                | (go_at_call 14; refine (b10Gap (by assumption) (by assumption) _).mono ?_; rintro e w3 ⟨gp, rfl, hgp, d3, rfl⟩)
                | (refine wpList_widc rfl rfl Try.underlying25 Try.underlying31 rfl (by assumption) ?_; intro r d hr))
              go_roundw
              case rel => exact ⟨2, by first | rfl | go_num, by omega, by first | exact hb26 | exact below_drewN hb26 _⟩
              case measure => simp [intOf]
          · have hA3 := hA2.below hbr
            have hT3 := hT2.below hbr
            have hb3 := hb2.trans (hbr.mono hB2)
            have hg1d := Nat.lt_of_lt_of_le hg1c hbr.size
            have hg2d := Nat.lt_of_lt_of_le hg2c hbr.size
            have z0 : wr.cell? ⟨g1, 0, none⟩ = some (.complex .f32 a1 a2) := (hA3.at (by omega)).trans (by rw [hP0, hP1])
            have z1 : wr.cell? ⟨g1, last, none⟩ = some (.complex .f32 b1 b2) := (hA3.at (by omega)).trans (by rw [hP2, hP3])
            have y0 : wr.cell? ⟨g2, 0, none⟩ = some (.float .f32 s0) := (hT3.at (by omega)).trans (by rw [hS0])
            have hB3 := hb3.size
            clear LA hA2 hT2 hb2 hbr hA3 hT3
            go_wp2
            go_region_held3 (fun W => (W.cell? ⟨g1, 0, none⟩ = some (.complex .f32 a1 a2) ∧ W.cell? ⟨g1, last, none⟩ = some (.complex .f32 b1 b2)) ∧ W.cell? ⟨g2, 0, none⟩ = some (.float .f32 s0)) (first | exact ⟨⟨z0, z1⟩, y0⟩ | exact ⟨⟨(hbT.cell (p := ⟨g1, 0, none⟩) hg1d).trans z0, (hbT.cell (p := ⟨g1, last, none⟩) hg1d).trans z1⟩, (hbT.cell (p := ⟨g2, 0, none⟩) hg2d).trans y0⟩) ((go_at_call 9; refine (cT2 _).mono ?_; rintro e w5 ⟨p', q'', rfl, hp', hq', hbT⟩))
            have hbT' : Below wr.heap.size wr w5 := below_of_drewN (d := 1) hbT
            have hb5 : Below w.heap.size w w5 := hb3.trans (hbT'.mono hB3)
            have z5 := (hbT'.cell (p := ⟨g1, 0, none⟩) hg1d).trans z0
            have z6 := (hbT'.cell (p := ⟨g1, last, none⟩) hg1d).trans z1
            have y5 := (hbT'.cell (p := ⟨g2, 0, none⟩) hg2d).trans y0
            have hg1e := Nat.lt_of_lt_of_le hg1d hbT'.size
            have hg2e := Nat.lt_of_lt_of_le hg2d hbT'.size
            clear hbT hbT' z0 z1 y0 hg1d hg2d hb3 hB3 cT2
            go_wp2
            go_region_held3 (fun W => (W.cell? ⟨g1, 0, none⟩ = some (.complex .f32 a1 a2) ∧ W.cell? ⟨g1, last, none⟩ = some (.complex .f32 b1 b2)) ∧ W.cell? ⟨g2, 0, none⟩ = some (.float .f32 s0)) (first | exact ⟨⟨z5, z6⟩, y5⟩) ((go_at_call 15; refine (cT3 _).mono ?_; rintro e w6 ⟨p3, q3, rfl, _, _, d9, rfl⟩))
            go_wp2
            refine bodyPost_ret (v := .bool true) (by simp [results, Try.results3, go_sem]) rfl ⟨rfl, ?_⟩
            repeat (first | exact hb5 | with_reducible refine below_drewN ?_ _)
end Go.Proofs.Yticoikchcmmpfaa
