/-
  Peaks: what is meant, and the specification's words.
-/
import Derived.Test.YtcmdmecmgoabaaaPeaks3
namespace Go.Proofs.Ytcmdmecmgoabaaa
open Go.RowKit Go.Shelf
attribute [local go_sem] order_cl cl_zero cl_one cl_two aord_none

theorem grown_of_below' {w w' : World} (h : Below w.heap.size w w') : w.grownBy w' none := ⟨h.os, h.tape, h.output, h.size, fun k hk _ => h.block k hk⟩
/-! ### Greater and less -/
theorem order_gt {x y : Ieee.Datum} : x.order y = some .gt ↔ y.order x = some .lt := by
  have hN : ∀ a b : Nat, compare a b = .gt ↔ compare b a = .lt := fun a b => by
    simp only [compare, compareOfLessAndEq]
    split <;> split <;> (try split) <;> (try split) <;> simp <;> omega
  have hI : ∀ a b : Int, compare a b = .gt ↔ compare b a = .lt := fun a b => by
    simp only [compare, compareOfLessAndEq]
    split <;> split <;> (try split) <;> (try split) <;> simp <;> omega
  cases x with
  | nan s t => cases y <;> simp [Ieee.Datum.order]
  | infinity s =>
    cases y with
    | nan s t => simp [Ieee.Datum.order]
    | infinity t => simp only [Ieee.Datum.order, Option.some.injEq]; exact hN _ _
    | number t n j => cases s <;> simp [Ieee.Datum.order]
  | number s m i =>
    cases y with
    | nan s t => simp [Ieee.Datum.order]
    | infinity t => cases t <;> simp [Ieee.Datum.order]
    | number t n j =>
      simp only [Ieee.Datum.order, Option.some.injEq]
      rw [show min j i = min i j by omega]
      exact hI _ _
theorem gt_lt (X Y : Option Nat) : gtB X Y = ltB Y X := by
  unfold gtB ltB
  cases X with
  | none => cases Y <;> rfl
  | some x =>
    cases Y with
    | none => rfl
    | some y =>
      have h : aord .f32 (some x) (some y) = some .gt ↔ aord .f32 (some y) (some x) = some .lt := order_gt
      cases h1 : (aord .f32 (some y) (some x) == some .lt) with
      | true => rw [beq_iff_eq] at h1; rw [h.2 h1]; rfl
      | false =>
        have h2 : ¬ aord .f32 (some y) (some x) = some .lt := by simpa using h1
        have h3 := fun e => h2 (h.1 e)
        simpa using h3

/-! ### Peaks -/
open Classical in
noncomputable def peakB (wide high : Int) (zs : List Nat) (i : Nat) : Bool := decide (∀ k : Int, Nb wide high ((i : Int).tmod wide) ((i : Int).tdiv wide) i k → gtB (cl .f32 (zs.getD i 0)) (cl .f32 (zs.getD k.toNat 0)) = true)
noncomputable def peaksTo (wide high : Int) (zs : List Nat) (n : Nat) : List Int := ((List.range n).filter (peakB wide high zs)).map fun i : Nat => (i : Int)
theorem peaksTo_yes {wide high : Int} {zs : List Nat} {k : Nat} (h : peakB wide high zs k = true) : peaksTo wide high zs (k + 1) = peaksTo wide high zs k ++ [(k : Int)] := by
  unfold peaksTo
  rw [List.range_succ, List.filter_append, List.map_append]
  simp [h]
theorem peaksTo_no {wide high : Int} {zs : List Nat} {k : Nat} (h : peakB wide high zs k = false) : peaksTo wide high zs (k + 1) = peaksTo wide high zs k := by
  unfold peaksTo
  rw [List.range_succ, List.filter_append, List.map_append]
  simp [h]
theorem peaksTo_len (wide high : Int) (zs : List Nat) (n : Nat) : (peaksTo wide high zs n).length ≤ n := by
  unfold peaksTo
  rw [List.length_map]
  exact Nat.le_trans (List.length_filter_le _ _) (by simp)
/-- Is place k lower than place i? -/
def lower (zs : List Nat) (i : Nat) (k : Int) : Bool := gtB (cl .f32 (zs.getD i 0)) (cl .f32 (zs.getD k.toNat 0))
open Classical in
theorem all_peak {wide high : Int} {zs : List Nat} {i : Nat} {L : List Int} (h : ∀ k, k ∈ L ↔ Nb wide high ((i : Int).tmod wide) ((i : Int).tdiv wide) i k) : L.all (lower zs i) = peakB wide high zs i := by
  unfold peakB
  cases h1 : L.all (lower zs i) with
  | true =>
    rw [List.all_eq_true] at h1
    exact (decide_eq_true fun k hk => h1 k ((h k).2 hk)).symm
  | false =>
    rw [List.all_eq_false] at h1
    obtain ⟨k, hk, hl⟩ := h1
    exact (decide_eq_false fun hall => hl (hall k ((h k).1 hk))).symm
theorem nb_lt {wide high x y i k : Int} (hw : 2 ≤ wide ∧ wide ≤ 16) (h : Nb wide high x y i k) : 0 ≤ k ∧ k < wide * high := by
  obtain ⟨u, v, h1, h2, _, _, h5, _, _⟩ := h
  have e1 : 0 ≤ v * wide := Int.mul_nonneg h2.1 (by omega)
  have e2 : (v + 1) * wide ≤ high * wide := Int.mul_le_mul_of_nonneg_right (by omega) (by omega)
  rw [Int.add_mul, Int.one_mul, Int.mul_comm high wide] at e2
  omega
theorem place_of {wide high : Int} {i n : Nat} (hw : 2 ≤ wide ∧ wide ≤ 16) (hn : wide * high = n) (hi : i < n) : (0 ≤ (i : Int).tmod wide ∧ (i : Int).tmod wide < wide) ∧ (0 ≤ (i : Int).tdiv wide ∧ (i : Int).tdiv wide < high) := by
  refine ⟨⟨Int.tmod_nonneg _ (by omega), Int.tmod_lt_of_pos _ (by omega)⟩, Int.tdiv_nonneg (by omega) (by omega), ?_⟩
  rw [Int.tdiv_eq_ediv_of_nonneg (by omega)]
  exact Int.ediv_lt_of_lt_mul (by omega) (by rw [Int.mul_comm, hn]; omega)

theorem valid_parts' {wide high : Int} {zs : List Nat} (h : validB wide high zs = true) : sidesB wide high = true ∧ (zs.length : Int) = wide * high ∧ finAll zs = true := by
  unfold validB at h
  simp only [Bool.and_eq_true, beq_iff_eq] at h
  exact ⟨h.1.1, h.1.2, h.2⟩
theorem sides_parts {wide high : Int} (h : sidesB wide high = true) : (2 ≤ wide ∧ wide ≤ 16) ∧ (2 ≤ high ∧ high ≤ 16) := by
  unfold sidesB at h
  simp only [Bool.and_eq_true, decide_eq_true_eq] at h
  exact h
/-- A new list (nil, if the answer is no) with an answer. -/
def NewI (out : List Int) (ok : Bool) (w : World) (e : Ending) (w' : World) : Prop :=
  ∃ a cap, e = .returned (.tuple #[.slice a out.length cap, .bool ok]) ∧ MineV 2 w.heap.size w' a out.length (ints out) ∧ Below w.heap.size w w'
noncomputable def outP (wide high : Int) (zs : List Nat) : List Int := if validB wide high zs then peaksTo wide high zs zs.length else []
theorem take_all {L : List Int} {p : Int → Bool} {j : Nat} {x : Int} (hj : j < L.length) (hx : L.getD j 0 = x) : (L.take (j + 1)).all p = ((L.take j).all p && p x) := by
  rw [List.take_succ_eq_append_getElem hj, List.all_append, ← hx, getD_at hj]
  simp

set_option maxRecDepth 8000 in
set_option maxHeartbeats 4000000 in
theorem specPeaksOf (wide high : Int) (a : Option Addr) (len cap : Nat) (zs : List Nat) (w : World) (h : FlS w a len zs) :
    Calls Try.prog 37 #[GV wide high a len cap] w (NewI (outP wide high zs) (validB wide high zs) w) := by
  have hb : ∀ o, Below w.heap.size w (w.alloc o) := fun o => (Below.refl _ _).alloc (Nat.le_refl _) _
  have L0 := Lies.new (wk := w) (wide := wide) (high := high) (cap := cap) 33 h
  have call := l06Is _ _ _ _ _ _ _ _ L0.at' L0.fl
  unfold GV
  cases hv : validB wide high zs with
  | false =>
    have e : outP wide high zs = [] := by unfold outP; rw [hv]; rfl
    rw [e]
    rw [hv] at call
    go_enter Try.func37, Try.ntmps37
    go_wp2_with (go_at_call 54; refine call.mono ?_; rintro e w' ⟨rfl, d, rfl⟩)
    exact bodyPost_ret (by simp [results, Try.results37, go_sem]) rfl ⟨none, 0, rfl, MineV.nil _ _ _, below_drewN (hb _) _⟩
  | true =>
    have e : outP wide high zs = peaksTo wide high zs zs.length := by unfold outP; rw [hv]; rfl
    rw [e]
    rw [hv] at call
    obtain ⟨hs, hn, _⟩ := valid_parts' hv
    obtain ⟨hw, hh⟩ := sides_parts hs
    obtain ⟨hm1, hm2⟩ := sides_mul hs
    have hlen := h.len
    subst hlen
    have hwr : IntKind.i64.wrap (wide * high) = (zs.length : Int) := by rw [← hn]; exact IntWalk.i64_in _ (by omega)
    rw [← hn] at hm1 hm2
    obtain ⟨i0, hi0, hz0, hz1, hz2⟩ := info_parts infoI
    go_enter Try.func37, Try.ntmps37
    go_wp2_with fail
    refine call.mono ?_
    rintro e w1 ⟨rfl, hd⟩
    have L1 := L0.next (hd.below _)
    have hbw : Below w.heap.size w w1 := (hb _).trans (hd.below _)
    clear call L0 hd hb
    have hF1 := h.below hbw
    have cAt : ∀ wr, Below w1.heap.size w1 wr → At wr w.heap.size wide high a zs.length cap := fun wr hb => (L1.next hb).at'
    have hpl := L1.lt
    have hrow0 := row_emptyI w1 w1.heap.size 2 (Nat.le_refl _)
    have hb0 : Below w1.heap.size w1 (w1.alloc (.cells #[] 2)) := (Below.refl _ _).alloc (Nat.le_refl _) _
    go_wp2
    generalize w1.alloc (.cells #[] 2) = w2 at *
    go_loopw [4, 5] (fun V s wr => ∃ k : Nat, k ≤ zs.length ∧ s = .int .i64 (k : Int) ∧ wr.ownsRow w1.heap.size 2 1 V (peaksTo wide high zs k).length (ints (peaksTo wide high zs k)) ∧ Below w1.heap.size w1 wr) (fun _ s _ => zs.length - (intOf s).toNat)
    case atStart => exact ⟨0, Nat.zero_le _, rfl, hrow0, hb0⟩
    case round =>
      obtain ⟨k, hk, rfl, hrow, hb⟩ := hrel
      clear hrow0 hb0
      generalize u4 = V at *
      generalize wr = wi at *
      obtain ⟨d0, d1, d2⟩ := cAt wi hb
      by_cases hlt : k < zs.length
      · obtain ⟨hxb, hyb⟩ := place_of hw hn.symm hlt
        have cA := l06Around w.heap.size wide high _ _ k wi (Nat.lt_of_lt_of_le hpl hb.size) d0 d1 hw hh (by omega) rfl rfl hxb hyb
        obtain ⟨b, off, z, rfl, hbb, hck, hzz⟩ := hF1.get hlt
        have hlow : Hid (∀ x : Int, lower zs k x = gtB (cl .f32 z) (cl .f32 (zs.getD x.toNat 0))) := Lib.hid fun x => by unfold lower; rw [hzz.out]
        go_wp2_with (go_at_call 79; refine cA.mono ?_; intro e w3 he; obtain ⟨aL, L, cL, he, hL, hmem, hb3⟩ := he; subst he)
        have hpk := Lib.hid (all_peak (zs := zs) hmem)
        have hbd : ∀ j, j < L.length → 0 ≤ L.getD j 0 ∧ L.getD j 0 < (zs.length : Int) := fun j hj => by
          rw [getD_at hj, hn]
          exact nb_lt hw ((hmem _).1 (List.getElem_mem hj))
        have hB3 := hb.trans (hb3.mono hb.size)
        have hrow3 : w3.ownsRow w1.heap.size 2 1 V (peaksTo wide high zs k).length (ints (peaksTo wide high zs k)) := hrow.kept (grown_of_below' hb3) (by cases V.ownBlock <;> simp)
        have hLm := hL.2.1
        clear hmem hrow hb hb3 d0 d1 d2 cA hck
        obtain ⟨d0, d1, d2⟩ := cAt w3 hB3
        have hF3 := hF1.below hB3
        go_loopw [6, 8] (fun pk s wr => ∃ (j : Nat), j ≤ L.length ∧ s = .int .i64 (j : Int) ∧ pk = .bool ((L.take j).all (lower zs k)) ∧ Drew w3 wr) (fun _ s _ => L.length - (intOf s).toNat)
        case atStart => exact ⟨0, Nat.zero_le _, rfl, rfl, Drew.refl _⟩
        case round =>
          obtain ⟨j, hj, rfl, rfl, d, rfl⟩ := hrel
          by_cases hltj : j < L.length
          · obtain ⟨bL, oL, x, rfl, hbL, hcL, hxL⟩ := hL.get hltj
            have hxb' := hbd j hltj
            rw [hxL.out] at hxb'
            obtain ⟨X, rfl⟩ : ∃ X : Nat, x = (X : Int) := ⟨x.toNat, by omega⟩
            have hXl : X < zs.length := by omega
            obtain ⟨b', off', z', e', hbb', hck', hzz'⟩ := hF3.get hXl
            obtain ⟨_, _, zi, e'', _, hcki, hzi⟩ := hF3.get hlt
            simp at e' e''
            obtain ⟨rfl, rfl⟩ := e'
            obtain ⟨rfl, rfl⟩ := e''
            obtain rfl : z = zi := hzz.out.symm.trans hzi.out
            have hstep : Hid ((L.take (j + 1)).all (lower zs k) = ((L.take j).all (lower zs k) && gtB (cl .f32 z) (cl .f32 z'))) := Lib.hid (by
              rw [take_all hltj hxL.out, hlow.out]
              congr 2
              rw [← hzz'.out]
              simp)
            have hD : Hid (∀ q, Drew w3 ((w3.drewN d).drewN q)) := Lib.hid fun q => ⟨_, World.drewN_drewN _ _ _⟩
            have k1 : (w3.drewN d).cell? ⟨w.heap.size, 2, none⟩ = some (.slice (some ⟨b, off, none⟩) zs.length cap) := d2
            have k2 : (w3.drewN d).cell? ⟨b, off + k, none⟩ = some (.float .f32 z) := hcki
            have k3 : (w3.drewN d).cell? ⟨b, off + X, none⟩ = some (.float .f32 z') := hck'
            have k4 : (w3.drewN d).cell? ⟨bL, oL + j, none⟩ = some (.int .i64 (X : Int)) := hcL
            clear hck' hcki hcL d0 d1 hzz' hzi
            generalize w3.drewN d = wd at *
            cases hpj : (L.take j).all (lower zs k) with
            | false =>
              rw [hpj] at hstep
              go_wp2
              go_quiet (fail)
              go_wp2
              go_roundw
              case rel => exact ⟨j + 1, by omega, by go_num, by rw [hstep.out]; rfl, hD.out _⟩
              case measure => simp [intOf]; omega
            | true =>
              rw [hpj, Bool.true_and] at hstep
              cases hg : gtB (cl .f32 z) (cl .f32 z')
              all_goals
                have hg' : (aord .f32 (cl .f32 z) (cl .f32 z') == some .gt) = _ := hg
                rw [hg] at hstep
                go_wp2
                go_quiet (fail)
                go_wp2
                go_roundw
                case rel => exact ⟨j + 1, by omega, by go_num, by rw [hstep.out], hD.out _⟩
                case measure => simp [intOf]; omega
          · obtain rfl : j = L.length := by omega
            have hfull : (L.take L.length).all (lower zs k) = peakB wide high zs k := by rw [List.take_length]; exact hpk.out
            rw [hfull]
            have hB4 := below_drewN hB3 d
            have hrow4 : (w3.drewN d).ownsRow w1.heap.size 2 1 V (peaksTo wide high zs k).length (ints (peaksTo wide high zs k)) := hrow3
            have hpl2 := peaksTo_len wide high zs k
            generalize w3.drewN d = wd at *
            have hBd := hB4.size
            cases hpk' : peakB wide high zs k with
            | false =>
              have e := peaksTo_no hpk'
              go_wp2
              go_roundw
              case rel => exact ⟨k + 1, by omega, by go_num, by rw [e]; exact hrow4, hB4⟩
              case measure => simp [intOf]; omega
            | true =>
              have e := Lib.hid (peaksTo_yes hpk')
              generalize peaksTo wide high zs k = us at *
              go_wp2_with (at_builtin; refine wpList_append_lies _ rfl (.tmp 47) (.tmp 49) 52 rfl w1.heap.size 2 i0 (.int .i64 0) 1 8 Try.underlying52 hi0 hz0 hz1 hz2 rfl (by decide) V us.length (ints us) rfl (hrow4.alloc _) ⟨wd.heap.size, 0, none⟩ 1 1 [.int .i64 (k : Int)] rfl rfl (World.news_of_block (heap_alloc_new _ _)) (ints_one _) (by omega) (by unfold maxLen; omega) (by omega) (by simp; omega) (wd.heap.size + 1) (by simp) ?_; intro q cq w5 hown hgrow hat hlt2)
              go_roundw
              case rel =>
                refine ⟨k + 1, by omega, by go_num, ?_, (hB4.alloc hBd _).grown hgrow (by simp; omega) fun k hk => (hrow4.lt k hk).1⟩
                rw [e.out]
                simpa [ints] using hown
              case measure => simp [intOf]; omega
      · obtain rfl : k = zs.length := by omega
        have hpl2 := peaksTo_len wide high zs zs.length
        obtain ⟨ar, cr, rfl, hM⟩ := row_mineI hrow (by omega)
        go_wp2
        exact bodyPost_ret (by simp [results, Try.results37, go_sem]) rfl ⟨ar, cr, rfl, hM.mono hbw.size, hbw.trans (hb.mono hbw.size)⟩
end Go.Proofs.Ytcmdmecmgoabaaa
