/-
  How heights spread along rises: the specification's words.
-/
import Derived.Test.YtikdagkopalojaaHeights
import Derived.Deep.RegionWith
namespace Go.Proofs.Ytikdagkopalojaa
open Go.RowKit Go.Shelf

def bools (ts : List Bool) : List Value := ts.map Value.bool
theorem bools_len (ts : List Bool) : (bools ts).length = ts.length := by simp [bools]
theorem bools_get {ts : List Bool} {k : Nat} (h : k < ts.length) : (bools ts)[k]? = some (.bool (ts.getD k false)) := by simp [bools, h]
theorem bools_set (ts : List Bool) (k : Nat) (b : Bool) : (bools ts).set k (.bool b) = bools (ts.set k b) := by simp [bools, List.map_set]
theorem ints_set (xs : List Int) (k : Nat) (b : Int) : (ints xs).set k (.int .i64 b) = ints (xs.set k b) := by simp [ints, List.map_set]

/-- A new list (nil, if the answer is no) with an answer. -/
def NewIn (out : List Int) (ok : Bool) (w : World) (e : Ending) (w' : World) : Prop :=
  ∃ a cap, e = .returned (.tuple #[.slice a out.length cap, .bool ok]) ∧ MineV 2 w.heap.size w' a out.length (ints out) ∧ Below w.heap.size w w'

theorem infoI : (Try.prog.info? 2).map (fun i => (i.zero, i.size, i.bytes)) = some (some (.int .i64 0), 1, 8) := by kernel_rfl
theorem infoB : (Try.prog.info? 4).map (fun i => (i.zero, i.size, i.bytes)) = some (some (.bool false), 1, 1) := by kernel_rfl
theorem madeI (n : Nat) : (madeCells (Value.int .i64 0).cells (n * 1)).toList = ints (List.replicate n 0) := by
  rw [Nat.mul_one]
  exact (toList_madeCells_one _ _).trans (by simp [ints])
theorem madeB (n : Nat) : (madeCells (Value.bool false).cells (n * 1)).toList = bools (List.replicate n false) := by
  rw [Nat.mul_one]
  exact (toList_madeCells_one _ _).trans (by simp [bools])

theorem NewIn.no {rs : List Rise} {n : Int} {w w' : World} (e : okH rs n = false) (hb : Below w.heap.size w w') : NewIn (outH rs n) (okH rs n) w (.returned (.tuple #[.slice none 0 0, .bool false])) w' := by
  have : outH rs n = [] := by unfold outH; rw [e]; rfl
  rw [this, e]
  exact ⟨none, 0, rfl, MineV.nil _ _ _, hb⟩

theorem NewIn.yes {rs : List Rise} {n : Nat} {st : HS} {w w' : World} {g c : Nat} (hv : risesB rs n = true) (hst : HS.fin rs 32 (HS.start n) = st) (hall : st.ts.all id = true) (hl : st.hs.length = n) (hn : n ≤ 32) (hg : w.heap.size ≤ g) (ho : Own 2 w' g (ints st.hs)) (hb : Below w.heap.size w w') :
    NewIn (outH rs n) (okH rs n) w (.returned (.tuple #[.slice (some ⟨g, 0, none⟩) n c, .bool true])) w' := by
  have hlast : lastH rs n = st := hst
  have e : okH rs n = true := by unfold okH; rw [hv, Int.toNat_natCast, hlast, hall]; rfl
  have : outH rs n = st.hs := by unfold outH; rw [e, Int.toNat_natCast, hlast]; rfl
  rw [this, e]
  refine ⟨some ⟨g, 0, none⟩, c, by rw [hl], ⟨by simp [ints], by omega, .inr ⟨g, [], rfl, hg, by simpa using ho⟩⟩, hb⟩

theorem okH_no {rs : List Rise} {n : Nat} {st : HS} (hst : HS.fin rs 32 (HS.start n) = st) (hall : st.ts.all id = false) : okH rs n = false := by
  have hlast : lastH rs n = st := hst
  unfold okH
  rw [Int.toNat_natCast, hlast, hall, Bool.and_false]

/-- The two lists that are made. -/
theorem made2 {w w0 w1 w2 : World} {m : Nat} (hbw : Below w.heap.size w w0) (hown : w1.ownsRow w0.heap.size 2 1 (Value.slice (some ⟨w0.heap.size, 0, none⟩) m m) m (madeCells (Value.int .i64 0).cells (m * 1)).toList) (hgrow : w0.grownBy w1 none)
    (hown' : w2.ownsRow w1.heap.size 4 1 (Value.slice (some ⟨w1.heap.size, 0, none⟩) m m) m (madeCells (Value.bool false).cells (m * 1)).toList) (hgrow' : w1.grownBy w2 none) :
    Own 2 w2 w0.heap.size (ints (List.replicate m 0)) ∧ Own 4 w2 w1.heap.size (bools (List.replicate m false)) ∧ Below w.heap.size w w2 ∧ w0.heap.size < w1.heap.size := by
  have o1 := Own.of_row hown
  rw [madeI] at o1
  have o2 := Own.of_row hown'
  rw [madeB] at o2
  have hb1 := hbw.grown hgrow hbw.size (by simp)
  exact ⟨o1.grown hgrow' (by simp), o2, hb1.grown hgrow' hb1.size (by simp), o1.lt⟩
theorem first_false {m : Nat} (h : 1 ≤ m) : (bools (List.replicate m false))[0]? = some (.bool false) := by
  obtain ⟨k, rfl⟩ : ∃ k, m = k + 1 := ⟨m - 1, by omega⟩
  simp [bools, List.replicate_succ]
theorem start_own {w : World} {g m : Nat} (h : Own 4 w g (bools (List.replicate m false))) : Own 4 (w.setCell ⟨g, 0, none⟩ (.bool true)) g (bools (HS.start m).ts) := by
  have := h.set 0 (.bool true)
  rw [bools_set] at this
  exact this

theorem pd_cast (ts : List Bool) (x y : Nat) (s l : Int) : pdB ts ⟨x, y, s, l⟩ = (ts.getD x false != ts.getD y false) := by simp [pdB, tol]
theorem upd_from {st : HS} {x : Nat} (y : Nat) (s l : Int) (h : st.ts.getD x false = true) : st.upd ⟨x, y, s, l⟩ = ⟨st.hs.set y (st.hs.getD x 0 + s), st.ts.set y true⟩ := by
  unfold HS.upd tol hei
  simp only [Int.toNat_natCast]
  rw [if_pos h]
theorem upd_to {st : HS} {x : Nat} (y : Nat) (s l : Int) (h : st.ts.getD x false = false) : st.upd ⟨x, y, s, l⟩ = ⟨st.hs.set x (st.hs.getD y 0 - s), st.ts.set x true⟩ := by
  unfold HS.upd tol hei
  simp only [Int.toNat_natCast]
  rw [if_neg (by rw [h]; simp)]

set_option maxRecDepth 20000 in
set_option maxHeartbeats 2000000 in
theorem specRiseHeights (a : Option Addr) (len cap : Nat) (n : Int) (rs : List Rise) (w : World) (h : RiS w a len rs) :
    Calls Try.prog 29 #[.slice a len cap, .int .i64 n] w (NewIn (outH rs n) (okH rs n) w) := by
  have call := l05Rises a len cap n rs w h
  have hl := h.size
  have hm := h.max
  cases hv : risesB rs n with
  | false =>
    rw [hv] at call
    have e : okH rs n = false := by unfold okH; rw [hv]; rfl
    go_enter Try.func29, Try.ntmps29
    go_wp2_with (go_at_call 40; refine call.mono ?_; rintro e w' ⟨rfl, d, rfl⟩; have := NewIn.no e (below_drewN (Below.refl w.heap.size w) d))
    exact bodyPost_ret (by simp [results, Try.results29, go_sem]) rfl this
  | true =>
    rw [hv] at call
    have hlen := len_of hv
    obtain ⟨m, rfl⟩ : ∃ m : Nat, n = m := ⟨n.toNat, by omega⟩
    obtain ⟨i0, hi, hz0, hz1, hz2⟩ := info_parts infoI
    obtain ⟨i1, hi', hy0, hy1, hy2⟩ := info_parts infoB
    go_enter Try.func29, Try.ntmps29
    go_wp2_with fail
    refine call.mono ?_
    rintro e w' ⟨rfl, d, rfl⟩
    have hbw := below_drewN (Below.refl w.heap.size w) d
    generalize w.drewN d = w0 at *
    go_wp2_with (first
      | (at_make; refine wpList_make_full _ rfl (.tmp 17) (.tmp 17) 48 rfl w0.heap.size 2 i0 _ 1 Try.underlying48 hi hz0 hz1 .i64 .i64 _ _ m rfl rfl rfl rfl (by rw [hz2]; omega) (by unfold maxLen; omega) (Nat.le_refl _) ?_; intro w1 hown hgrow)
      | (at_make; refine wpList_make_full _ rfl (.tmp 19) (.tmp 19) 79 rfl w1.heap.size 4 i1 _ 1 Try.underlying79 hi' hy0 hy1 .i64 .i64 _ _ m rfl rfl rfl rfl (by rw [hy2]; omega) (by unfold maxLen; omega) (Nat.le_refl _) ?_; intro w2 hown' hgrow'; obtain ⟨oh, ot, hb2, hlt12⟩ := made2 hbw hown hgrow hown' hgrow'; have d0 : w2.cell? ⟨w1.heap.size, 0, none⟩ = some (.bool false) := ot.at (first_false (by omega)); have f0 := ot.free 0))
    have oT := start_own ot
    have oH : Own 2 (w2.setCell ⟨w1.heap.size, 0, none⟩ (.bool true)) w0.heap.size (ints (HS.start m).hs) := oh.other (by simp; omega) _
    have hB := hb2.setCell (p := ⟨w1.heap.size, 0, none⟩) (Nat.le_trans hbw.size (Nat.le_of_lt hlt12)) (.bool true)
    have hG := hbw.size
    generalize w2.setCell ⟨w1.heap.size, 0, none⟩ (.bool true) = w3 at *
    have hinv0 := Lib.hid (HS.start_inv rs (n := m) (by omega))
    clear hown hgrow hown' hgrow' d0 f0 ot oh hb2 hi hi' hz0 hz1 hz2 hy0 hy1 hy2
    have hgt : w.heap.size ≤ w1.heap.size := by omega
    generalize w0.heap.size = gh at *
    generalize w1.heap.size = gt at *
    have hne : gh ≠ gt := by omega
    have hne' : gt ≠ gh := by omega
    go_loopg [8, 9, 10, 11, 25] 32 (fun gg _ _ _ _ _ wr => ∃ st : HS, Hid (HS.Inv rs m (HS.start m) gg st) ∧ Own 2 wr gh (ints st.hs) ∧ Own 4 wr gt (bools st.ts) ∧ Below w.heap.size w wr)
    case atStart => exact ⟨_, hinv0, oH, oT, hB⟩
    case round =>
      obtain ⟨st, hinv, oh, ot, hb⟩ := hrel
      clear oH oT hB hinv0
      have htl := hinv.out.tl
      have hhl := hinv.out.hl
      go_wp2
      go_loopw [8, 9, 10, 11, 25] (fun s8 _ _ _ i wq => ∃ k : Nat, s8 = .bool false ∧ k ≤ len ∧ i = .int .i64 k ∧ Drew wr wq ∧ Hid (∀ j, j < k → pdB st.ts (R rs j) = false)) (fun _ _ _ _ i _ => len - (intOf i).toNat)
      case atStart => exact ⟨0, rfl, Nat.zero_le _, rfl, Drew.refl _, fun j hj => absurd hj (Nat.not_lt_zero _)⟩
      case round =>
        obtain ⟨k, rfl, hk, rfl, ⟨d, rfl⟩, hall⟩ := hrel
        by_cases hlt : k < len
        · obtain ⟨b0, off0, r, rfl, hbb, hck, hzz⟩ := h.get hlt
          have hnext := Lib.hid fun hp => hinv.out.next hv (k := k) (by omega) hp hall.out
          obtain ⟨⟨ef0, ef1⟩, et0, et1⟩ := ends_of hv (k := k) (by omega)
          have hfit := hinv.out.fits hv (k := k) (by omega)
          rw [R, hzz.out] at hnext ef0 ef1 et0 et1 hfit
          obtain ⟨f, t, s, l⟩ := r
          obtain ⟨x, rfl⟩ : ∃ x : Nat, f = x := ⟨f.toNat, by simp only at ef0; omega⟩
          obtain ⟨y, rfl⟩ : ∃ y : Nat, t = y := ⟨t.toNat, by simp only at et0; omega⟩
          simp only at ef0 ef1 et0 et1 hfit
          obtain ⟨c0, c1, c2, c3⟩ := hck.below hb hbb
          simp only at c0 c1 c2 c3
          have hfx := (hfit x).1
          have hfy := (hfit y).2
          have tx : wr.cell? ⟨gt, x, none⟩ = some (.bool (st.ts.getD x false)) := ot.at (bools_get (by omega))
          have ty : wr.cell? ⟨gt, y, none⟩ = some (.bool (st.ts.getD y false)) := ot.at (bools_get (by omega))
          have hx : wr.cell? ⟨gh, x, none⟩ = some (.int .i64 (st.hs.getD x 0)) := oh.at (ints_get (by omega))
          have hy : wr.cell? ⟨gh, y, none⟩ = some (.int .i64 (st.hs.getD y 0)) := oh.at (ints_get (by omega))
          have z1 := ot.free x
          have z2 := ot.free y
          have z3 := oh.free x
          have z4 := oh.free y
          have hpd : Hid (pdB st.ts ⟨x, y, s, l⟩ = (st.ts.getD x false != st.ts.getD y false)) := Lib.hid (pd_cast _ _ _ _ _)
          have hup1 := Lib.hid fun h => upd_from (st := st) (x := x) y s l h
          have hup2 := Lib.hid fun h => upd_to (st := st) (x := x) y s l h
          have hzz2 : Hid (R rs k = ⟨x, y, s, l⟩) := hzz
          clear hfit hck hzz
          generalize st.hs.getD x 0 = vx at *
          generalize st.hs.getD y 0 = vy at *
          cases hbx : st.ts.getD x false <;> cases hby : st.ts.getD y false
          all_goals
            rw [hbx] at tx
            rw [hby] at ty
          · go_wp2
            go_quiet (fail)
            go_wp2
            go_roundw
            case rel =>
              refine ⟨k + 1, rfl, by omega, by go_num, Drew.n _ _, Lib.hid fun j hj => ?_⟩
              by_cases e : j = k
              · rw [e, hzz2.out, hpd.out, hbx, hby]; rfl
              · exact hall.out j (by omega)
            case measure => simp [intOf]; omega
          · have hI := hnext.out (by rw [hpd.out, hbx, hby]; rfl)
            rw [hup2.out hbx] at hI
            go_wp2
            go_quiet (fail)
            go_wp2
            go_region_with (fail)
            all_goals
              go_wp2
              go_roundg (gk - 1)
              case measure => omega
              case rel => exact ⟨_, Lib.hid hI.1, by rw [← ints_set]; exact (oh.set x _).other hne _, by rw [← bools_set]; exact (ot.other hne' _).set x _, below_drewN ((hb.setCell (p := ⟨gh, x, none⟩) hG _).setCell (p := ⟨gt, x, none⟩) hgt _) _⟩
          · have hI := hnext.out (by rw [hpd.out, hbx, hby]; rfl)
            rw [hup1.out hbx] at hI
            go_wp2
            go_quiet (fail)
            go_wp2
            go_region_with (fail)
            all_goals
              go_wp2
              go_roundg (gk - 1)
              case measure => omega
              case rel => exact ⟨_, Lib.hid hI.1, by rw [← ints_set]; exact (oh.set y _).other hne _, by rw [← bools_set]; exact (ot.other hne' _).set y _, below_drewN ((hb.setCell (p := ⟨gh, y, none⟩) hG _).setCell (p := ⟨gt, y, none⟩) hgt _) _⟩
          · go_wp2
            go_quiet (fail)
            go_wp2
            go_roundw
            case rel =>
              refine ⟨k + 1, rfl, by omega, by go_num, Drew.n _ _, Lib.hid fun j hj => ?_⟩
              by_cases e : j = k
              · rw [e, hzz2.out, hpd.out, hbx, hby]; rfl
              · exact hall.out j (by omega)
            case measure => simp [intOf]; omega
        · obtain rfl : k = len := by omega
          have hstop := Lib.hid (hinv.out.stop (by rw [hl]; exact hall.out))
          have hb' := below_drewN hb d
          have oh' : Own 2 (wr.drewN d) gh (ints st.hs) := oh
          have ot' : Own 4 (wr.drewN d) gt (bools st.ts) := ot
          clear oh ot hb
          generalize wr.drewN d = wz at *
          go_wp2
          go_loopw [12, 88] (fun _ i wq => ∃ j : Nat, j ≤ m ∧ i = .int .i64 j ∧ wz = wq ∧ Hid ((st.ts.take j).all id = true)) (fun _ i _ => m - (intOf i).toNat)
          case atStart => exact ⟨0, Nat.zero_le _, rfl, rfl, by show _ = _; simp⟩
          case round =>
            obtain ⟨j, hj, rfl, rfl, htold⟩ := hrel
            by_cases hjm : j < m
            · have tj : wz.cell? ⟨gt, j, none⟩ = some (.bool (st.ts.getD j false)) := ot'.at (bools_get (by omega))
              have htake : Hid ((st.ts.take (j + 1)).all id = ((st.ts.take j).all id && st.ts.getD j false)) := by
                refine Lib.hid ?_
                rw [List.take_succ_eq_append_getElem (by omega), List.all_append, getD_at (by omega)]
                simp
              have hall' : Hid (st.ts.getD j false = false → st.ts.all id = false) := by
                refine Lib.hid fun h => ?_
                have hj' : j < st.ts.length := by omega
                rw [getD_at hj'] at h
                rw [List.all_eq_false]
                exact ⟨_, List.getElem_mem (by omega), by simp [h]⟩
              cases hbj : st.ts.getD j false
              all_goals
                rw [hbj] at tj
                go_wp2
              · have e := okH_no hstop.out (hall'.out hbj)
                have := NewIn.no e hb'
                exact bodyPost_ret (by simp [results, Try.results29, go_sem]) rfl this
              · go_roundw
                case rel => exact ⟨j + 1, by omega, by go_num, trivial, Lib.hid (by rw [htake.out, htold.out, hbj]; rfl)⟩
                case measure => simp [intOf]; omega
            · obtain rfl : j = m := by omega
              have hall' : st.ts.all id = true := by
                have := htold.out
                rw [List.take_of_length_le (by omega)] at this
                exact this
              go_wp2
              have := NewIn.yes (c := j) hv hstop.out hall' hhl (by omega) hG oh' hb'
              exact bodyPost_ret (by simp [results, Try.results29, go_sem]) rfl this
end Go.Proofs.Ytikdagkopalojaa
