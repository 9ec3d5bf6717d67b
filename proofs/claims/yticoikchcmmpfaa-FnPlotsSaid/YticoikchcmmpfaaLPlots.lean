/-
  The law FnPlots: the walk.
-/
import Derived.Test.YticoikchcmmpfaaPTests
import Derived.Test.YticoikchcmmpfaaLAt
import Derived.Deep.RegionWith
import Derived.Deep.RegionHeld3
namespace Go.Proofs.Yticoikchcmmpfaa
open Go.RowKit
attribute [local go_sem] order_cl cl_zero cl_one cl_two aord_none

def RetB (v : Value) (w : World) (e : Ending) (w' : World) : Prop := e = .returned v ∧ Below w.heap.size w w'
theorem row_empty (w : World) (B : Nat) (E : TypeId) (hB : B ≤ w.heap.size) : (w.alloc (.cells #[] E)).ownsRow B E 1 (.slice (some ⟨w.heap.size, 0, none⟩) 0 0) 0 [] := by
  have := World.ownsRow_lit (base := B) (e := E) (size := 1) w #[] 0 hB (by unfold maxLen; omega) rfl
  simpa using this
/-- The words of the first k marks. -/
def mks (P : Nat → Nat × Nat) (k : Nat) : List Value := (List.range k).map fun i => .complex .f32 (P i).1 (P i).2
theorem mks_succ (P : Nat → Nat × Nat) (k : Nat) : mks P (k + 1) = mks P k ++ [.complex .f32 (P k).1 (P k).2] := by simp [mks, List.range_succ]
theorem mks_cx {w : World} {B : Nat} {E : TypeId} {v : Value} {n : Nat} {P : Nat → Nat × Nat} (h : w.ownsRow B E 1 v n (mks P n)) (hn : 0 < n) (hm : n ≤ 1048576) : ∃ g c, v = .slice (some ⟨g, 0, none⟩) n c ∧ g < w.heap.size ∧ CxF w (some ⟨g, 0, none⟩) n P := by
  obtain ⟨g, c, rfl, hg, hj⟩ := row_at h hn
  exact ⟨g, c, rfl, hg, hm, .inr ⟨g, 0, rfl, hg, fun i hi => by rw [Nat.zero_add, hj i hi]; simp [mks, hi]⟩⟩

theorem pv_rem {n k : Nat} (hk : k < n) : ((k : Int) + (n : Int) - 1).tmod (n : Int) = ((if k = 0 then n - 1 else k - 1 : Nat) : Int) := by
  rw [Int.tmod_eq_emod_of_nonneg (by omega)]
  by_cases h : k = 0
  · subst h
    rw [if_pos rfl, Int.emod_eq_of_lt (by omega) (by omega)]
    omega
  · rw [if_neg h, show (k : Int) + (n : Int) - 1 = ((k : Int) - 1) + n * 1 by omega, Int.add_mul_emod_self_left, Int.emod_eq_of_lt (by omega) (by omega)]
    omega
theorem CxF.at {w : World} {g n : Nat} {f : Nat → Nat × Nat} (h : CxF w (some ⟨g, 0, none⟩) n f) {k : Nat} (hk : k < n) : w.cell? ⟨g, k, none⟩ = some (.complex .f32 (f k).1 (f k).2) := by
  obtain ⟨b, off, e, _, hc⟩ := h.get hk
  simp only [Option.some.injEq, Addr.mk.injEq, and_true] at e
  obtain ⟨rfl, rfl⟩ := e
  rw [Nat.zero_add] at hc
  exact hc
def nP (ys : List Int) : Nat := (3 + b10 ys 0 7).toNat
def rP (xs : List Int) (k : Nat) : Nat := (b10 xs k 5).toNat
theorem plotR (xs ys : List Int) : PlotR (nP ys) (rP xs) ∧ ((nP ys : Nat) : Int) = 3 + b10 ys 0 7 := by
  have h := b10_range (xs := ys) 0 (n := 7) (by omega)
  refine ⟨⟨?_, ?_, fun k _ => ?_⟩, ?_⟩
  · unfold nP; omega
  · unfold nP; omega
  · have h := b10_range (xs := xs) k (n := 5) (by omega)
    unfold rP; omega
  · unfold nP; omega

set_option maxRecDepth 8000 in
set_option maxHeartbeats 4000000 in
theorem lawFnPlots (a : Option Addr) (la ca : Nat) (xs : List Int) (b : Option Addr) (lb cb : Nat) (ys : List Int) (w : World) (_ : la ≤ 9223372036854775807) (hx : ByS w a la xs) (_ : lb ≤ 9223372036854775807) (hy : ByS w b lb ys) :
    Calls Try.prog 4 #[.slice a la ca, .slice b lb cb] w (RetB (.bool true) w) := by
  have cL := b10Long a b la ca lb cb w
  cases hbig : (decide (1048576 < la) || decide (1048576 < lb)) with
  | true =>
    rw [hbig] at cL
    go_enter Try.func4, Try.ntmps4
    go_wp2_with (go_at_call 5; refine cL.mono ?_; rintro e w1 ⟨rfl, hd1⟩)
    exact bodyPost_ret (by simp [results, Try.results4, go_sem]) rfl ⟨rfl, hd1.below _⟩
  | false =>
    rw [hbig] at cL
    clear hbig
    obtain ⟨R, hnn⟩ := plotR xs ys
    have q0 := b10_range (xs := ys) 0 (n := 7) (by omega)
    have q1 := b10_range (xs := ys) 1 (n := 17) (by omega)
    have q2 := b10_range (xs := ys) 2 (n := 17) (by omega)
    have q3 := b10_range (xs := ys) 3 (n := 7) (by omega)
    obtain ⟨i0, hi, hz0, hz1, hz2⟩ := info_parts infoC
    have by0 := fun (W : World) (hb : Below w.heap.size w W) => b10At b lb cb ys 0 0 7 rfl (by omega) (by omega) W (hy.below hb)
    have by1 := fun (W : World) (hb : Below w.heap.size w W) => b10At b lb cb ys 1 1 17 rfl (by omega) (by omega) W (hy.below hb)
    have by2 := fun (W : World) (hb : Below w.heap.size w W) => b10At b lb cb ys 2 2 17 rfl (by omega) (by omega) W (hy.below hb)
    have by3 := fun (W : World) (hb : Below w.heap.size w W) => b10At b lb cb ys 3 3 7 rfl (by omega) (by omega) W (hy.below hb)
    generalize b10 ys 0 7 = v0 at *
    generalize b10 ys 1 17 = v1 at *
    generalize b10 ys 2 17 = v2 at *
    generalize b10 ys 3 7 = v3 at *
    obtain ⟨m, rfl⟩ : ∃ m : Nat, v0 = (m : Int) := ⟨v0.toNat, by omega⟩
    obtain ⟨bb, rfl⟩ : ∃ m : Nat, v1 = (m : Int) := ⟨v1.toNat, by omega⟩
    obtain ⟨cc, rfl⟩ : ∃ m : Nat, v2 = (m : Int) := ⟨v2.toNat, by omega⟩
    obtain ⟨sb, rfl⟩ : ∃ m : Nat, v3 = (m : Int) := ⟨v3.toNat, by omega⟩
    have hbb : bb < 17 := by omega
    have hcc : cc < 17 := by omega
    have hsb : sb < 7 := by omega
    generalize hN : nP ys = n at *
    have hnm : (3 : Int) + (m : Int) = (n : Int) := hnn.symm
    have hBX : ab .quo .f32 (some (floatOfInt .f32 ((bb : Int) - 8))) (some 1082130432) = byX bb := rfl
    have hCX : ab .quo .f32 (some (floatOfInt .f32 ((cc : Int) - 8))) (some 1082130432) = byX cc := rfl
    have k32 : cl .f32 1082130432 = some 1082130432 := by decide
    clear hnn hN
    go_enter Try.func4, Try.ntmps4
    go_wp2_with fail
    refine cL.mono ?_
    rintro e w1 ⟨rfl, hd1⟩
    have hb1 := hd1.below w.heap.size
    go_wp2_with fail
    refine (by0 _ hb1).mono ?_
    rintro e w2 ⟨rfl, hd2⟩
    have hb2 := hb1.trans (hd2.below _)
    go_wp2_with fail
    refine (by1 _ hb2).mono ?_
    rintro e w3 ⟨rfl, hd3⟩
    have hb3 := hb2.trans (hd3.below _)
    go_wp2_with (refine wpList_flc rfl rfl rfl rfl rfl (cl_intB _ _) k32 ?_; intro bw d1 hbw; rw [hBX] at hbw)
    refine (by2 _ (below_drewN hb3 _)).mono ?_
    rintro e w4 ⟨rfl, hd4⟩
    have hb4 := (below_drewN hb3 d1).trans (hd4.below _)
    go_wp2_with (refine wpList_flc rfl rfl rfl rfl rfl (cl_intB _ _) k32 ?_; intro cw d2 hcw; rw [hCX] at hcw)
    clear hb1 hb2 hb3 hd1 hd2 hd3 hd4 cL by0 by1 by2 q0 q1 q2 hBX hCX
    have hB4 := hb4.size
    have row1 : World.ownsRow (((w4.alloc (.cells #[] 24)).alloc (.cells #[] 24)).drewN d2) w.heap.size 24 1 (.slice (some ⟨w4.heap.size, 0, none⟩) 0 0) 0 (mks (plotP n (rP xs)) 0) := (row_empty w4 w.heap.size 24 hB4).alloc (.cells #[] 24)
    have hb5 := hb4.alloc hB4 (.cells #[] 24)
    have hB5 := hb5.size
    have row2' := row_empty (w4.alloc (.cells #[] 24)) w.heap.size 24 hB5
    have hb6 : Below w.heap.size w (((w4.alloc (.cells #[] 24)).alloc (.cells #[] 24)).drewN d2) := below_drewN (hb5.alloc hB5 (.cells #[] 24)) _
    have far0 : Far (.slice (some ⟨w4.heap.size, 0, none⟩) 0 0) (.slice (some ⟨(w4.alloc (.cells #[] 24)).heap.size, 0, none⟩) 0 0) := by
      intro g hg hg'
      have e1 : w4.heap.size = g := by simpa [Value.ownBlock] using hg
      have e2 : (w4.alloc (.cells #[] 24)).heap.size = g := by simpa [Value.ownBlock] using hg'
      simp at e2
      omega
    have es : (w4.alloc (.cells #[] 24)).heap.size = w4.heap.size + 1 := by simp
    rw [es] at row2' far0
    have row2 : World.ownsRow (((w4.alloc (.cells #[] 24)).alloc (.cells #[] 24)).drewN d2) w.heap.size 24 1 (.slice (some ⟨w4.heap.size + 1, 0, none⟩) 0 0) 0 (mks (movP n (rP xs) bb cc) 0) := row2'
    obtain ⟨hmov, hQ⟩ := movP_ok R hbb hcc
    have hP := plotW_of R
    have hn3 := R.n3
    have hn9 := R.n9
    clear row2' hb4 hB4 hb5 hB5 es
    go_loopw [7, 8, 9, 10] (fun v7 v8 i _ wr => ∃ k : Nat, i = .int .i64 (k : Int) ∧ k ≤ n ∧ wr.ownsRow w.heap.size 24 1 v7 k (mks (plotP n (rP xs)) k) ∧ wr.ownsRow w.heap.size 24 1 v8 k (mks (movP n (rP xs) bb cc) k) ∧ Far v7 v8 ∧ Below w.heap.size w wr) (fun _ _ i _ _ => n - (intOf i).toNat)
    case atStart => exact ⟨0, rfl, Nat.zero_le _, row1, row2, far0, hb6⟩
    case round =>
      obtain ⟨k, rfl, hk, hr1, hr2, hfar, hb⟩ := hrel
      clear row1 row2 far0 hb6
      have hB := hb.size
      by_cases hlt : k < n
      · obtain ⟨e1, e2, e3, _⟩ := pdir_get hn3 hn9 hlt
        have hv := b10_range (xs := xs) k (n := 5) (by omega)
        have cx := fun (W : World) (hb : Below w.heap.size w W) => b10At a la ca xs k (k : Int) 5 rfl (by omega) (by omega) W (hx.below hb)
        obtain ⟨er, _, _⟩ := r_get (R.r5 k hlt)
        obtain ⟨ec1, ec2, vc1, vc2, _⟩ := corn_get hn3 hn9 hlt (R.r5 k hlt)
        obtain ⟨em1, em2⟩ := hmov k hlt
        have hang : ab .quo .f64 (some (floatOfInt .f64 (k : Int))) (some (floatOfInt .f64 (n : Int))) = angN n k := rfl
        have hrv : ((rP xs k : Nat) : Int) = b10 xs k 5 := by unfold rP; omega
        rw [hrv, Int.add_comm] at er
        generalize b10 xs k 5 = q at *
        have ctwo : cl .f32 1073741824 = some 1073741824 := by decide
        go_wp2_with (refine wpList_flc rfl rfl rfl rfl rfl (cl_intB _ _) (cl_intB _ _) ?_; intro t d3 ht; rw [hang] at ht)
        refine (specPhasor (X := angN n k) ht (4 * k / n) e1 _).mono ?_
        rintro e w5 ⟨u1, u2, rfl, hu1, hu2, d4, rfl⟩
        rw [e2] at hu1
        rw [e3] at hu2
        clear ht hang e1 e2 e3
        go_wp2_with fail
        refine (cx _ (below_drewN hb _)).mono ?_
        rintro e w5 ⟨rfl, d5, rfl⟩
        clear cx
        go_wp2_with (refine wpList_flc rfl rfl rfl rfl rfl (cl_intB _ _) ctwo ?_; intro rw' d6 hrw; rw [er] at hrw)
        refine (specScale _ _ _ _).mono ?_
        rintro e w5 ⟨z1, z2, rfl, hz1', hz2', d7, rfl⟩
        rw [hu1, hrw, ec1] at hz1'
        rw [hu2, hrw, ec2] at hz2'
        obtain rfl := cl_some hz1'
        obtain rfl := cl_some hz2'
        clear hu1 hu2 hrw er ec1 ec2 ctwo hv hrv
        have hpk : Value.complex .f32 (cX n k (rP xs k)) (cY n k (rP xs k)) = .complex .f32 (plotP n (rP xs) k).1 (plotP n (rP xs) k).2 := rfl
        have hbe : Below w.heap.size w ((wr.drewN (d3 + d4 + d5 + d6)).drewN d7) := below_drewN (below_drewN hb _) _
        have r1e : ((wr.drewN (d3 + d4 + d5 + d6)).drewN d7).ownsRow w.heap.size 24 1 _ k (mks (plotP n (rP xs)) k) := hr1
        have r2e : ((wr.drewN (d3 + d4 + d5 + d6)).drewN d7).ownsRow w.heap.size 24 1 _ k (mks (movP n (rP xs) bb cc) k) := hr2
        clear hr1 hr2 hb hB
        have hcx : cl .f32 (cX n k (rP xs k)) = some (cX n k (rP xs k)) := vl_cl vc1
        have hcy : cl .f32 (cY n k (rP xs k)) = some (cY n k (rP xs k)) := vl_cl vc2
        have hm1 := mks_succ (plotP n (rP xs)) k
        have hm2 := mks_succ (movP n (rP xs) bb cc) k
        rw [← hpk] at hm1
        clear hpk vc1 vc2
        generalize (wr.drewN (d3 + d4 + d5 + d6)).drewN d7 = we at *
        generalize cX n k (rP xs k) = z1 at *
        generalize cY n k (rP xs k) = z2 at *
        generalize (movP n (rP xs) bb cc k).1 = y1 at *
        generalize (movP n (rP xs) bb cc k).2 = y2 at *
        have hBe := hbe.size
        go_wp2_with (first
          | (at_builtin; refine wpList_append_lies _ rfl (.tmp 75) (.tmp 77) 27 rfl w.heap.size 24 i0 (.complex .f32 0 0) 1 8 Try.underlying27 hi hz0 hz1 hz2 rfl (by decide) _ k (mks (plotP n (rP xs)) k) rfl (r1e.alloc _) ⟨we.heap.size, 0, none⟩ 1 1 [.complex .f32 z1 z2] rfl rfl (World.news_of_block (heap_alloc_new _ _)) (by simp [Value.oneCell']) (by omega) (by unfold maxLen; omega) (by omega) (by simp; omega) (we.heap.size + 1) (by simp) ?_; intro qa qca wg hown1 hgrow1 hat1 hlt1; have r2g := (r2e.alloc _).kept hgrow1 hfar.kept1; have hbg := (hbe.alloc hBe _).grown hgrow1 (by simp; omega) (fun g hg => (r1e.lt g hg).1); have hBg := hbg.size)
          | (refine wpList_cs rfl rfl rfl rfl rfl hcx hbw hcy hcw ?_; intro p1 p2 d8 hp1 hp2; rw [em1] at hp1; rw [em2] at hp2; obtain rfl := cl_some hp1; obtain rfl := cl_some hp2; have r1h : (wg.drewN d8).ownsRow w.heap.size 24 1 _ (k + 1) (mks (plotP n (rP xs)) k ++ [.complex .f32 z1 z2]) := hown1; have r2h : (wg.drewN d8).ownsRow w.heap.size 24 1 _ k (mks (movP n (rP xs) bb cc) k) := r2g; have hbh := below_drewN hbg d8; have hBh := hbh.size; have hsz : Hid ((wg.drewN d8).heap.size = wg.heap.size) := Lib.hid rfl; generalize wg.drewN d8 = wh at *)
          | (at_builtin; refine wpList_append_lies _ rfl (.tmp 79) (.tmp 83) 27 rfl w.heap.size 24 i0 (.complex .f32 0 0) 1 8 Try.underlying27 hi hz0 hz1 hz2 rfl (by decide) _ k (mks (movP n (rP xs) bb cc) k) rfl (r2h.alloc _) ⟨wh.heap.size, 0, none⟩ 1 1 [.complex .f32 y1 y2] rfl rfl (World.news_of_block (heap_alloc_new _ _)) (by simp [Value.oneCell']) (by omega) (by unfold maxLen; omega) (by omega) (by simp; omega) (wh.heap.size + 1) (by simp) ?_; intro qb qcb wi hown2 hgrow2 hat2 hlt2))
        have hqa : ∀ g, (Value.slice (some ⟨qa, 0, none⟩) (k + 1) qca).ownBlock = some g → u8.ownBlock ≠ some g := by
          intro g hg e2
          simp [Value.ownBlock] at hg
          subst hg
          rcases hat1 with e | e
          · exact hfar _ e e2
          · have := (r2e.lt _ e2).2
            omega
        have r1i := (r1h.alloc (.cells #[.complex .f32 y1 y2] 24)).kept hgrow2 (by
          right
          intro e
          exact hqa qa rfl e.symm)
        go_roundw
        case rel =>
          refine ⟨k + 1, by go_num, by omega, by rw [hm1]; exact r1i, by rw [hm2]; exact hown2, ?_, (hbh.alloc hBh _).grown hgrow2 (by simp; omega) (fun g hg => (r2h.lt g hg).1)⟩
          intro g hg
          have hqg : qa = g := by simpa [Value.ownBlock] using hg
          subst hqg
          intro e2
          have hqb : qb = qa := by simpa [Value.ownBlock] using e2
          rcases hat2 with e | e
          · exact hqa qa rfl (by rw [← hqb]; exact e)
          · have := hsz.out
            omega
        case measure => simp [intOf]; omega
      · obtain rfl : k = n := by omega
        obtain ⟨g1, c1, rfl, hg1, hA⟩ := mks_cx hr1 (by omega) (by omega)
        obtain ⟨g2, c2, rfl, hg2, hA2⟩ := mks_cx hr2 (by omega) (by omega)
        clear hr1 hr2 hfar hmov
        obtain ⟨t1a, t1b⟩ := tAreas hP hQ
        obtain ⟨_, hvP, _⟩ := hP.area
        obtain ⟨_, hvQ, _⟩ := hQ.area
        obtain ⟨hsv, hs0, hs1⟩ := share_get hsb
        obtain ⟨hbv, hb2⟩ := by_get hbb
        have cA1 := fun (W : World) hW => plotArea2 (some ⟨g1, 0, none⟩) k c1 _ W hW hP.num hn3 (by omega) hvP.isNum
        have cA2 := fun (W : World) hW => plotArea2 (some ⟨g2, 0, none⟩) k c2 _ W hW hQ.num hn3 (by omega) hvQ.isNum
        have hSX : ab .quo .f32 (some (floatOfInt .f32 (1 + (sb : Int)))) (some 1090519040) = shareX sb := rfl
        have k8 : cl .f32 1090519040 = some 1090519040 := by decide
        have hpn := hP.num
        have hqn := hQ.num
        clear hvP hvQ
        generalize plotP k (rP xs) = P at *
        generalize movP k (rP xs) bb cc = Q at *
        have hbr0 : Below wr.heap.size wr wr := Below.refl _ _
        go_wp2_with fail
        refine (cA1 _ hA).mono ?_
        rintro e w5 ⟨area, rfl, harea, hd5⟩
        have hr5 := hd5.below wr.heap.size
        go_wp2_with fail
        refine (cA2 _ (hA2.below hr5)).mono ?_
        rintro e w6 ⟨same, rfl, hsame, hd6⟩
        have hr6 := hr5.trans (hd6.below _)
        go_wp2_with fail
        refine (by3 _ (hb.trans (hr6.mono hB))).mono ?_
        rintro e w7 ⟨rfl, hd7⟩
        have hr7 := hr6.trans (hd7.below _)
        go_wp2_with (refine wpList_flc rfl rfl rfl rfl rfl (cl_intB _ _) k8 ?_; intro sw d8 hsw; rw [hSX] at hsw)
        have hS : ShareOk sw ((1 + (sb : Rat)) / 8) false := ⟨by rw [hsw]; exact hsv, Rat.le_trans (by decide +kernel) hs0, hs1, fun e => by cases e⟩
        have hS0 : ShareOk 0 0 true := ⟨by rw [cl_zero]; exact zero_vl, Rat.le_refl, by decide +kernel, fun _ => cl_zero _⟩
        refine (cutPlot hP hS (some ⟨g1, 0, none⟩) c1 _ (hA.below (below_drewN hr7 d8))).mono ?_
        rintro e w8 ⟨atw, rfl, hat, hd8⟩
        have hr8 := (below_drewN hr7 d8).trans (hd8.mono (below_drewN hr7 d8).size)
        go_wp2_with fail
        refine (cutPlot hQ hS (some ⟨g2, 0, none⟩) c2 _ (hA2.below hr8)).mono ?_
        rintro e w9 ⟨thw, rfl, hth, hd9⟩
        have hr9 := hr8.trans (hd9.mono hr8.size)
        go_wp2_with fail
        refine (cutPlot hP hS0 (some ⟨g1, 0, none⟩) c1 _ (hA.below hr9)).mono ?_
        rintro e w10 ⟨lww, rfl, hlw, hd10⟩
        have hr10 := hr9.trans (hd10.mono hr9.size)
        have t2 := tThere R hbv hb2 hs0 hs1 hat hth
        have t3 := tLow hat hlw
        have k05 : cl .f64 4587366580439587226 = some 4587366580439587226 := by decide
        have k001 : cl .f64 4562254508917369340 = some 4562254508917369340 := by decide
        unfold q05 at t1b t2
        unfold q001 at t3
        have hb10 : Below w.heap.size w w10 := hb.trans (hr10.mono hB)
        have hth' : Hid (CutAt k (rP xs) (byV bb) ((1 + (sb : Rat)) / 8) false Q thw) := Lib.hid hth
        have hA10 := hA.below hr10
        have hA210 := hA2.below hr10
        have hw10 := hr10.size
        clear cA1 cA2 hd5 hd6 hd7 hd8 hd9 hd10 hr5 hr6 hr7 hr8 hr9 hbr0 by3 hS hS0 hlw hth hSX k8 k32 hA hA2 hb hB hr10 hbv hb2
        have hsmall : Hid ((∀ (bx b2 d : Rat), True) ∧ True) := Lib.hid ⟨fun _ _ _ => trivial, trivial⟩
        clear hsmall
        generalize hAR : areaX P k = AREA at *
        generalize areaX Q k = SAME at *
        have cG1 := fun x y (h1 : cl .f64 x = wid AREA) (h2 : cl .f64 y = wid SAME) W => b10Gap h1 h2 W
        have cG2 := fun x y (h1 : cl .f64 x = ab .add .f64 (wid (cl .f32 atw)) (wid (byX bb))) (h2 : cl .f64 y = wid (cl .f32 thw)) W => b10Gap h1 h2 W
        generalize gapX (wid AREA) (wid SAME) = G1 at *
        generalize gapX (ab .add .f64 (wid (cl .f32 atw)) (wid (byX bb))) (wid (cl .f32 thw)) = G2 at *
        generalize hBXX : byX bb = BX at *
        clear hBXX
        go_wp2_with (first
          | (go_at_call 14; refine (cG1 _ _ (by assumption) (by assumption) _).mono ?_; rintro e w' ⟨gp, rfl, hgp, dg, rfl⟩)
          | (go_at_call 14; refine (cG2 _ _ (by assumption) (by assumption) _).mono ?_; rintro e w' ⟨gp, rfl, hgp, dg, rfl⟩)
          | (refine wpList_widc rfl rfl Try.underlying25 Try.underlying31 rfl (by first | assumption | exact rfl) ?_; intro r' d5 hr')
          | (refine wpList_flc rfl rfl rfl rfl rfl (by first | assumption | exact rfl) (by first | assumption | exact rfl) ?_; intro r' d5 hr'))
        have hrow0 : RowW ((w10.alloc (.cells #[] 24)).drewN 0) w10.heap.size (.slice (some ⟨w10.heap.size, 0, none⟩) 0 0) [] := ⟨row_empty w10 w10.heap.size 24 (Nat.le_refl _), _, _, rfl⟩
        have hb11 : ∀ d, Below w10.heap.size w10 ((w10.alloc (.cells #[] 24)).drewN d) := fun d => below_drewN ((Below.refl _ _).alloc (Nat.le_refl _) _) _
        have hx0 : (0 : Rat) ≤ 100 * uu := by decide +kernel
        have he0 : (0 : Rat) ≤ 650 * uu := by decide +kernel
        have hMn := hat.num
        have hbm := hat.bd
        clear t1b t2 t3 cG1 cG2 k001
        go_loopw [23, 24, 25, 26, 170] (fun v _ _ _ i wr' => ∃ (j : Nat) (ws : List (Nat × Nat)), i = .int .i64 (j : Int) ∧ j ≤ k ∧ RowW wr' w10.heap.size v ws ∧ CutSt P k (wv atw) (100 * uu) (650 * uu) 0 0 j ws ∧ Below w10.heap.size w10 wr') (fun _ _ _ _ i _ => k - (intOf i).toNat)
        case atStart => exact ⟨0, [], rfl, Nat.zero_le _, hrow0, cut_start hx0, hb11 _⟩
        case round =>
          obtain ⟨j, ws, rfl, hj, ⟨t1, va, vc, rfl⟩, hcut, hbl⟩ := hrel
          have hB0 := hbl.size
          have hwl : 2 * ws.length ≤ 3 * j + 1 := by have := hcut.cnt; omega
          by_cases hjl : j < k
          · have hck := (hA10.below hbl).at hjl
            have hckp := (hA10.below hbl).at (nx_pv hjl).1
            have hg1' : g1 < wr.heap.size := by obtain ⟨_, _, e, hlt, _⟩ := (hA10.below hbl).get hjl; cases e; exact hlt
            have ew1 : IntKind.i64.wrap ((j : Int) + (k : Int)) = (j : Int) + (k : Int) := IntWalk.i64_in _ (by omega)
            have ew2 : IntKind.i64.wrap ((j : Int) + (k : Int) - 1) = (j : Int) + (k : Int) - 1 := IntWalk.i64_in _ (by omega)
            have ex := pv_rem hjl
            have en : IntKind.i64.wrap (((if j = 0 then k - 1 else j - 1 : Nat) : Nat) : Int) = ((if j = 0 then k - 1 else j - 1 : Nat) : Int) := IntWalk.i64_in _ (by split <;> omega)
            have hk0 : (k : Int) ≠ 0 := by omega
            have hpl := (nx_pv hjl).1
            rw [show P (if j = 0 then k - 1 else j - 1) = pw P k j from rfl] at hckp
            generalize (if j = 0 then k - 1 else j - 1 : Nat) = pj at *
            have hpk : NumF (pw P k j).1 := (hpn _ (nx_pv hjl).1).1
            have hqk : NumF (P j).1 := (hpn j hjl).1
            have hp6 : Ab (wv (pw P k j).2) (603 / 100) := ((hP.in6 (nx_pv hjl).1).2).mono (by decide +kernel)
            have hq6 : Ab (wv (P j).2) (603 / 100) := ((hP.in6 hjl).2).mono (by decide +kernel)
            by_cases hp : wv (pw P k j).1 ≤ wv atw <;> by_cases hq : wv (P j).1 ≤ wv atw
            · have hcut2 := Lib.hid (cut_LL hcut hx0 he0 hp hq (hP.box hjl))
              have hp' := le_yes hpk hMn hp
              have hq' := le_yes hqk hMn hq
              have hjk : Hid (j + 1 ≤ k) := Lib.hid hjl
              clear hp hq hpk hqk hcut hp6 hq6 hP hQ R hat hpn hqn
              generalize pw P k j = z at *
              generalize P j = q at *
              obtain ⟨q1, q2⟩ := q
              obtain ⟨z1, z2⟩ := z
              go_wp2_with (first | (at_builtin; refine wpList_append_lies _ rfl (.tmp 221) (.tmp 223) 27 rfl w10.heap.size 24 i0 (.complex .f32 0 0) 1 8 Try.underlying27 hi hz0 hz1 hz2 rfl (by decide) _ _ (cws ws) rfl (t1.alloc _) ⟨wr.heap.size, 0, none⟩ 1 1 [(.complex .f32 q1 q2)] rfl rfl (World.news_of_block (heap_alloc_new _ _)) (by simp [Value.oneCell']) (by omega) (by unfold maxLen; omega) (by omega) (by simp; omega) (wr.heap.size + 1) (by simp) ?_; intro qa qca wf hown1 hgrow1 hat1 hlt1))
              go_roundw
              case rel => exact ⟨j + 1, _, by go_num, hjk.out, row_snoc hown1, hcut2.out, (hbl.alloc hB0 _).grown hgrow1 (by simp; omega) (fun g hg => (t1.lt g hg).1)⟩
              case measure => simp [intOf]; omega
            · obtain ⟨f1', f2', hc⟩ := hP.crossL hMn hbm hjl (.inl ⟨hp, Rat.not_le.1 hq⟩)
              have f1 : Fits (mulRe (ab .sub .f32 (cl .f32 (P j).1) (cl .f32 (pw P k j).1)) (ab .sub .f32 (cl .f32 (P j).2) (cl .f32 (pw P k j).2)) (ab .quo .f32 (ab .sub .f32 (cl .f32 atw) (cl .f32 (pw P k j).1)) (ab .sub .f32 (cl .f32 (P j).1) (cl .f32 (pw P k j).1))) (some 0)) := f1'
              have f2 : Fits (mulIm (ab .sub .f32 (cl .f32 (P j).1) (cl .f32 (pw P k j).1)) (ab .sub .f32 (cl .f32 (P j).2) (cl .f32 (pw P k j).2)) (ab .quo .f32 (ab .sub .f32 (cl .f32 atw) (cl .f32 (pw P k j).1)) (ab .sub .f32 (cl .f32 (P j).1) (cl .f32 (pw P k j).1))) (some 0)) := f2'
              have hcut2 : Hid (∀ c c', cl .f32 c = ab .add .f32 (cl .f32 (pw P k j).1) (nar (mulRe (ab .sub .f32 (cl .f32 (P j).1) (cl .f32 (pw P k j).1)) (ab .sub .f32 (cl .f32 (P j).2) (cl .f32 (pw P k j).2)) (ab .quo .f32 (ab .sub .f32 (cl .f32 atw) (cl .f32 (pw P k j).1)) (ab .sub .f32 (cl .f32 (P j).1) (cl .f32 (pw P k j).1))) (some 0))) → cl .f32 c' = ab .add .f32 (cl .f32 (pw P k j).2) (nar (mulIm (ab .sub .f32 (cl .f32 (P j).1) (cl .f32 (pw P k j).1)) (ab .sub .f32 (cl .f32 (P j).2) (cl .f32 (pw P k j).2)) (ab .quo .f32 (ab .sub .f32 (cl .f32 atw) (cl .f32 (pw P k j).1)) (ab .sub .f32 (cl .f32 (P j).1) (cl .f32 (pw P k j).1))) (some 0))) → CutSt P k (wv atw) (100 * uu) (650 * uu) 0 0 (j + 1) (ws ++ [(c, c')])) := Lib.hid fun c c' e e' => by
                obtain ⟨i1, i2, i3⟩ := hc c c' e e'
                exact cut_LR hcut hx0 he0 hp hq i1 i2 hp6 i3
              clear hc f1' f2'
              have hp' := le_yes hpk hMn hp
              have hq' := le_no hqk hMn hq
              have hjk : Hid (j + 1 ≤ k) := Lib.hid hjl
              clear hp hq hpk hqk hcut hp6 hq6 hP hQ R hat hpn hqn
              generalize pw P k j = z at *
              generalize P j = q at *
              obtain ⟨q1, q2⟩ := q
              obtain ⟨z1, z2⟩ := z
              go_wp2_with (first | (at_builtin; refine wpList_append_lies _ rfl (.tmp 197) (.tmp 215) 27 rfl w10.heap.size 24 i0 (.complex .f32 0 0) 1 8 Try.underlying27 hi hz0 hz1 hz2 rfl (by decide) _ _ (cws ws) rfl (t1.alloc _) ⟨wr.heap.size, 0, none⟩ 1 1 [(.complex .f32 u1 u2)] rfl rfl (World.news_of_block (heap_alloc_new _ _)) (by simp [Value.oneCell']) (by omega) (by unfold maxLen; omega) (by omega) (by simp; omega) (wr.heap.size + 1) (by simp) ?_; intro qa qca wf hown1 hgrow1 hat1 hlt1; have hb1 : Below w10.heap.size w10 wf := (below_drewN hbl _).alloc hB0 _ |>.grown hgrow1 (by simp; omega) (fun g hg => (t1.lt g hg).1); have hB1 := hb1.size) | (refine wpList_cm rfl rfl rfl rfl (by assumption) (by assumption) (by assumption) (cl_zero _) f1 f2 ?_; intro m1 m2 d hm1 hm2) | (refine wpList_cs rfl rfl rfl rfl rfl (by first | assumption | exact rfl) (by first | assumption | exact rfl) (by first | assumption | exact rfl) (by first | assumption | exact rfl) ?_; intro u1 u2 d hu1 hu2) | (refine wpList_flc rfl rfl rfl rfl rfl (by first | assumption | exact rfl) (by first | assumption | exact rfl) ?_; intro r d hr))
              have hcut3 := hcut2.out u1 u2 hu1 hu2
              go_roundw
              case rel => exact ⟨j + 1, _, by go_num, hjk.out, row_snoc hown1, hcut3, hb1⟩
              case measure => simp [intOf]; omega
            · obtain ⟨f1', f2', hc⟩ := hP.crossL hMn hbm hjl (.inr ⟨hq, Rat.not_le.1 hp⟩)
              have f1 : Fits (mulRe (ab .sub .f32 (cl .f32 (P j).1) (cl .f32 (pw P k j).1)) (ab .sub .f32 (cl .f32 (P j).2) (cl .f32 (pw P k j).2)) (ab .quo .f32 (ab .sub .f32 (cl .f32 atw) (cl .f32 (pw P k j).1)) (ab .sub .f32 (cl .f32 (P j).1) (cl .f32 (pw P k j).1))) (some 0)) := f1'
              have f2 : Fits (mulIm (ab .sub .f32 (cl .f32 (P j).1) (cl .f32 (pw P k j).1)) (ab .sub .f32 (cl .f32 (P j).2) (cl .f32 (pw P k j).2)) (ab .quo .f32 (ab .sub .f32 (cl .f32 atw) (cl .f32 (pw P k j).1)) (ab .sub .f32 (cl .f32 (P j).1) (cl .f32 (pw P k j).1))) (some 0)) := f2'
              have hcut2 : Hid (∀ c c', cl .f32 c = ab .add .f32 (cl .f32 (pw P k j).1) (nar (mulRe (ab .sub .f32 (cl .f32 (P j).1) (cl .f32 (pw P k j).1)) (ab .sub .f32 (cl .f32 (P j).2) (cl .f32 (pw P k j).2)) (ab .quo .f32 (ab .sub .f32 (cl .f32 atw) (cl .f32 (pw P k j).1)) (ab .sub .f32 (cl .f32 (P j).1) (cl .f32 (pw P k j).1))) (some 0))) → cl .f32 c' = ab .add .f32 (cl .f32 (pw P k j).2) (nar (mulIm (ab .sub .f32 (cl .f32 (P j).1) (cl .f32 (pw P k j).1)) (ab .sub .f32 (cl .f32 (P j).2) (cl .f32 (pw P k j).2)) (ab .quo .f32 (ab .sub .f32 (cl .f32 atw) (cl .f32 (pw P k j).1)) (ab .sub .f32 (cl .f32 (P j).1) (cl .f32 (pw P k j).1))) (some 0))) → CutSt P k (wv atw) (100 * uu) (650 * uu) 0 0 (j + 1) (ws ++ [(c, c')] ++ [P j])) := Lib.hid fun c c' e e' => by
                obtain ⟨i1, i2, i3⟩ := hc c c' e e'
                exact cut_RL hcut hx0 he0 hp hq (hP.box hjl) i1 i2 hq6 i3
              clear hc f1' f2'
              have hp' := le_no hpk hMn hp
              have hq' := le_yes hqk hMn hq
              have hjk : Hid (j + 1 ≤ k) := Lib.hid hjl
              clear hp hq hpk hqk hcut hp6 hq6 hP hQ R hat hpn hqn
              generalize pw P k j = z at *
              generalize P j = q at *
              obtain ⟨q1, q2⟩ := q
              obtain ⟨z1, z2⟩ := z
              go_wp2_with (first | (at_builtin; refine wpList_append_lies _ rfl (.tmp 197) (.tmp 215) 27 rfl w10.heap.size 24 i0 (.complex .f32 0 0) 1 8 Try.underlying27 hi hz0 hz1 hz2 rfl (by decide) _ _ (cws ws) rfl (t1.alloc _) ⟨wr.heap.size, 0, none⟩ 1 1 [(.complex .f32 u1 u2)] rfl rfl (World.news_of_block (heap_alloc_new _ _)) (by simp [Value.oneCell']) (by omega) (by unfold maxLen; omega) (by omega) (by simp; omega) (wr.heap.size + 1) (by simp) ?_; intro qa qca wf hown1 hgrow1 hat1 hlt1; have hb1 : Below w10.heap.size w10 wf := (below_drewN hbl _).alloc hB0 _ |>.grown hgrow1 (by simp; omega) (fun g hg => (t1.lt g hg).1); have hB1 := hb1.size) | (at_builtin; refine wpList_append_lies _ rfl (.tmp 221) (.tmp 223) 27 rfl w10.heap.size 24 i0 (.complex .f32 0 0) 1 8 Try.underlying27 hi hz0 hz1 hz2 rfl (by decide) _ _ _ rfl (hown1.alloc _) ⟨wf.heap.size, 0, none⟩ 1 1 [(.complex .f32 q1 q2)] rfl rfl (World.news_of_block (heap_alloc_new _ _)) (by simp [Value.oneCell']) (by omega) (by unfold maxLen; omega) (by omega) (by simp; omega) (wf.heap.size + 1) (by simp) ?_; intro qb qcb wg hown2 hgrow2 hat2 hlt2) | (refine wpList_cm rfl rfl rfl rfl (by assumption) (by assumption) (by assumption) (cl_zero _) f1 f2 ?_; intro m1 m2 d hm1 hm2) | (refine wpList_cs rfl rfl rfl rfl rfl (by first | assumption | exact rfl) (by first | assumption | exact rfl) (by first | assumption | exact rfl) (by first | assumption | exact rfl) ?_; intro u1 u2 d hu1 hu2) | (refine wpList_flc rfl rfl rfl rfl rfl (by first | assumption | exact rfl) (by first | assumption | exact rfl) ?_; intro r d hr))
              have hcut3 := hcut2.out u1 u2 hu1 hu2
              go_roundw
              case rel => exact ⟨j + 1, _, by go_num, hjk.out, row_snoc2 hown2, hcut3, (hb1.alloc hB1 _).grown hgrow2 (by simp; omega) (fun g hg => (hown1.lt g hg).1)⟩
              case measure => simp [intOf]; omega
            · have hcut2 := Lib.hid (cut_RR hcut hx0 he0 hp hq)
              have hp' := le_no hpk hMn hp
              have hq' := le_no hqk hMn hq
              have hjk : Hid (j + 1 ≤ k) := Lib.hid hjl
              clear hp hq hpk hqk hcut hp6 hq6 hP hQ R hat hpn hqn
              generalize pw P k j = z at *
              generalize P j = q at *
              obtain ⟨q1, q2⟩ := q
              obtain ⟨z1, z2⟩ := z
              go_wp2
              go_roundw
              case rel => exact ⟨j + 1, ws, by go_num, hjk.out, ⟨t1, _, _, rfl⟩, hcut2.out, hbl⟩
              case measure => simp [intOf]; omega
          · obtain rfl : k = j := by omega
            obtain ⟨a', c', e', hW⟩ := RowW.cx ⟨t1, va, vc, rfl⟩ (by omega)
            cases e'
            have t5 := tLeft hP hsv hs0 hs1 hat hcut
            rw [hAR] at t5
            have hA11 := hA10.below hbl
            have hA211 := hA210.below hbl
            have kHalf : cl .f64 4602678819172646912 = some 4602678819172646912 := by decide
            clear hcut hwl hjl t1 hMn hbm hpn hqn hx0 he0 hA10 hA210 hb11 hrow0
            generalize hG : (fun j => ws.getD j (0, 0)) = g at *
            generalize ws.length = N at *
            clear hG
            go_wp2
            go_loopw [22, 27, 28, 29, 228] (fun s _ _ _ i wr' => ∃ (j x : Nat), j ≤ N ∧ i = .int .i64 (j : Int) ∧ s = .float .f64 x ∧ Hid (cl .f64 x = sum64 g N j) ∧ Drew wr wr') (fun _ _ _ _ i _ => N - (intOf i).toNat)
            case atStart => exact ⟨0, 0, Nat.zero_le _, rfl, rfl, Lib.hid (cl_zero _), by first | exact Drew.refl _ | exact Drew.n _ _⟩
            case round =>
              obtain ⟨j, x, hj, rfl, rfl, hs, dd, rfl⟩ := hrel
              by_cases hjl : j < N
              · obtain ⟨bk, off, rfl, hbk, hck⟩ := hW.get hjl
                have hnl := nx_lt hjl
                obtain ⟨b', off', eb, _, hck'⟩ := hW.get hnl
                cases eb
                have hm := hW.max
                have hx2 : ∀ r1 r2 r3 r4 m1 m2 s1 h1 r, cl .f64 r1 = wid (cl .f32 (g j).1) → cl .f64 r2 = wid (cl .f32 (g (nx N j)).2) → cl .f64 m1 = ab .mul .f64 (cl .f64 r1) (cl .f64 r2) → cl .f64 r3 = wid (cl .f32 (g j).2) → cl .f64 r4 = wid (cl .f32 (g (nx N j)).1) → cl .f64 m2 = ab .mul .f64 (cl .f64 r3) (cl .f64 r4) → cl .f64 s1 = ab .sub .f64 (cl .f64 m1) (cl .f64 m2) → cl .f64 h1 = ab .mul .f64 (some 4602678819172646912) (cl .f64 s1) → cl .f64 r = ab .add .f64 (cl .f64 x) (cl .f64 h1) → Hid (cl .f64 r = sum64 g N (j + 1)) := fun r1 r2 r3 r4 m1 m2 s1 h1 r e1 e2 e3 e4 e5 e6 e7 e8 e9 => Lib.hid (by rw [e9, e8, e7, e3, e6, e1, e2, e4, e5, hs.out]; rfl)
                have ew : IntKind.i64.wrap ((j : Int) + 1) = (j : Int) + 1 := IntWalk.i64_in _ (by omega)
                have ex := nx_rem hjl
                have en : IntKind.i64.wrap ((nx N j : Nat) : Int) = ((nx N j : Nat) : Int) := IntWalk.i64_in _ (by omega)
                have hn0 : (N : Int) ≠ 0 := by omega
                have hjN : Hid (j + 1 ≤ N) := Lib.hid hjl
                clear hs hP hQ R hat t5
                generalize (g (nx N j)).1 = y1 at *
                generalize (g (nx N j)).2 = y2 at *
                generalize nx N j = nk at *
                generalize (g j).1 = z1 at *
                generalize (g j).2 = z2 at *
                go_wp2_with (first
                  | (refine wpList_widc rfl rfl Try.underlying25 Try.underlying31 rfl (by exact rfl) ?_; intro r d hr)
                  | (refine wpList_flc rfl rfl rfl rfl rfl (by first | exact kHalf | exact rfl) (by exact rfl) ?_; intro r d hr))
                have hn := hx2 _ _ _ _ _ _ _ _ _ (by assumption) (by assumption) (by assumption) (by assumption) (by assumption) (by assumption) (by assumption) (by assumption) hr
                go_roundw
                case rel => exact ⟨j + 1, _, hjN.out, by go_num, rfl, hn, Drew.n _ _⟩
                case measure => simp [intOf]; omega
              · obtain rfl : N = j := by omega
                have hsS := hs.out
                have k01 : cl .f64 4576918229304087675 = some 4576918229304087675 := by decide
                have k02 : cl .f64 4581421828931458171 = some 4581421828931458171 := by decide
                have kOne : cl .f64 4607182418800017408 = some 4607182418800017408 := by decide
                clear hs hW kHalf
                go_wp2_with fail
                refine (spreadOf hP (some ⟨g1, 0, none⟩) c1 _ (hA11.below (below_drewN (Below.refl _ _) _))).mono ?_
                rintro e wA ⟨l1, s1, a1, rfl, hsp1, hbA⟩
                have hbA' := (below_drewN (Below.refl _ _) dd).trans hbA
                have hrA := (below_drewN hbl dd).trans (hbA.mono hbl.size)
                go_wp2_with fail
                refine (spreadOf hQ (some ⟨g2, 0, none⟩) c2 _ (hA211.below hbA')).mono ?_
                rintro e wB ⟨l2, s2, a2, rfl, hsp2, hbB⟩
                have hrB := hrA.trans (hbB.mono hrA.size)
                have hfin := hb10.trans (hrB.mono hb10.size)
                obtain ⟨t6, t7, t8⟩ := tSpr hsp1 hsp2
                unfold q05 qOne at t5
                unfold q01 at t7
                unfold q02 at t8
                clear hP hQ R hat hsp1 hsp2 hbA hbA' hrA hbB hrB hA11 hA211 hbl hb10 hsv hs0 hs1
                generalize sum64 g N N = SUM at *
                generalize shareX sb = SX at *
                have cG3 := fun x y (h1 : cl .f64 x = SUM) (h2 : cl .f64 y = ab .mul .f64 (wid SX) (wid AREA)) W => b10Gap h1 h2 W
                have cG4 := fun x y (h1 : cl .f64 x = wid (cl .f32 l1)) (h2 : cl .f64 y = wid (cl .f32 l2)) W => b10Gap h1 h2 W
                have cG5 := fun x y (h1 : cl .f64 x = wid (cl .f32 s1)) (h2 : cl .f64 y = wid (cl .f32 s2)) W => b10Gap h1 h2 W
                generalize gapX SUM (ab .mul .f64 (wid SX) (wid AREA)) = G3 at *
                generalize gapX (wid (cl .f32 l1)) (wid (cl .f32 l2)) = G4 at *
                generalize gapX (wid (cl .f32 s1)) (wid (cl .f32 s2)) = G5 at *
                go_wp2_with (first
                  | (go_at_call 14; refine (cG3 _ _ (by assumption) (by assumption) _).mono ?_; rintro e w' ⟨gp, rfl, hgp, dg, rfl⟩)
                  | (go_at_call 14; refine (cG4 _ _ (by assumption) (by assumption) _).mono ?_; rintro e w' ⟨gp, rfl, hgp, dg, rfl⟩)
                  | (go_at_call 14; refine (cG5 _ _ (by assumption) (by assumption) _).mono ?_; rintro e w' ⟨gp, rfl, hgp, dg, rfl⟩)
                  | (refine wpList_widc rfl rfl Try.underlying25 Try.underlying31 rfl (by first | assumption | exact rfl) ?_; intro r' d5 hr')
                  | (refine wpList_flc rfl rfl rfl rfl rfl (by first | assumption | exact rfl) (by first | assumption | exact rfl) ?_; intro r' d5 hr'))
                exact bodyPost_ret (by simp [results, Try.results4, go_sem]) rfl ⟨rfl, below_drewN hfin _⟩
end Go.Proofs.Yticoikchcmmpfaa
