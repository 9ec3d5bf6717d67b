/-
  The least squares of rises: the specification's words.
-/
import Derived.Test.YtikdagkopalojaaSquares
import Derived.Test.YtikdagkopalojaaRises3
import Derived.Test.YtikdagkopalojaaRing
import Derived.Deep.Cut
import Derived.Deep.CutRange
import Derived.Laws.MakeOwn
namespace Go.Proofs.Ytikdagkopalojaa
open Go.RowKit
attribute [local go_sem] order_cl cl_zero cl_one cl_two aord_none

def qsQ (n : Nat) (rs : List Rise) : List Nat := wordsOf (n * n) (sqAt n rs rs.length)
def bsQ (n : Nat) (rs : List Rise) : List Nat := wordsOf n (bAt rs rs.length)
def hsQ (n : Nat) (rs : List Rise) : List Nat := 0 :: outS (n * n) n (qsQ n rs) (bsQ n rs)
def sumQ (n : Nat) (rs : List Rise) : Cl := allAt rs (clsOf (hsQ n rs)) rs.length
def argQ (rs : List Rise) (count : Int) : Bool := risesB rs count && inB count 2 11
def okQ (rs : List Rise) (count : Int) : Bool := argQ rs count && okS ((count - 1).toNat * (count - 1).toNat) (count - 1).toNat (qsQ (count - 1).toNat rs) (bsQ (count - 1).toNat rs) && isNum .f32 (sumQ (count - 1).toNat rs)
def outQ (rs : List Rise) (count : Int) : List Nat := if okQ rs count then hsQ (count - 1).toNat rs else []
def allQ (rs : List Rise) (count : Int) : Cl := if okQ rs count then sumQ (count - 1).toNat rs else some 0

/-- A new list (nil, if the answer is no), a number and an answer. -/
def NewQ (out : List Nat) (X : Cl) (ok : Bool) (w : World) (e : Ending) (w' : World) : Prop :=
  ∃ a cap r, e = .returned (.tuple #[.slice a out.length cap, .float .f32 r, .bool ok]) ∧ cl .f32 r = X ∧ MineV 37 w.heap.size w' a out.length (fls out) ∧ Below w.heap.size w w'
theorem NewQ.no {rs : List Rise} {count : Int} {w w' : World} (h : okQ rs count = false) (hb : Below w.heap.size w w') : NewQ (outQ rs count) (allQ rs count) (okQ rs count) w (.returned (.tuple #[.slice none 0 0, .float .f32 0, .bool false])) w' := by
  unfold outQ allQ
  rw [h]
  exact ⟨none, 0, 0, rfl, cl_zero _, MineV.nil _ _ _, hb⟩

theorem rise_of {rs : List Rise} {n : Nat} (h : risesB rs ((n : Int) + 1) = true) {k : Nat} (hk : k < rs.length) {r : Rise} (hr : rs.getD k default = r) :
    ∃ f t : Nat, r.f = (f : Int) ∧ r.t = (t : Int) ∧ f ≤ n ∧ t ≤ n ∧ f ≠ t ∧ (-10000000 ≤ r.s ∧ r.s ≤ 10000000) ∧ (1 ≤ r.l ∧ r.l ≤ 10000000) := by
  have h1 := ok_of h hk
  rw [R, hr] at h1
  unfold Rise.ok Rise.plain inB at h1
  simp only [Bool.and_eq_true, decide_eq_true_eq, bne_iff_ne] at h1
  obtain ⟨⟨⟨⟨h2, h3⟩, h4⟩, h5⟩, h6⟩ := h1
  refine ⟨r.f.toNat, r.t.toNat, by omega, by omega, by omega, by omega, by omega, h2, h3⟩

theorem rows_apart {p q n a b : Nat} (hne : p ≠ q) (ha : a = p * n) (hb : b = q * n) : a + n ≤ b ∨ b + n ≤ a := by
  rcases Nat.lt_or_gt_of_ne hne with h | h
  · left
    have := Nat.mul_le_mul_right n (show p + 1 ≤ q by omega)
    rw [Nat.add_mul, Nat.one_mul] at this
    omega
  · right
    have := Nat.mul_le_mul_right n (show q + 1 ≤ p by omega)
    rw [Nat.add_mul, Nat.one_mul] at this
    omega
set_option maxRecDepth 20000 in
set_option maxHeartbeats 8000000 in
theorem specRiseSquares (a : Option Addr) (len cap : Nat) (count : Int) (rs : List Rise) (w : World) (h : RiS w a len rs) :
    Calls Try.prog 20 #[.slice a len cap, .int .i64 count] w (NewQ (outQ rs count) (allQ rs count) (okQ rs count) w) := by
  have hm := h.max
  have hl := h.size
  have call := l05Rises a len cap count rs w h
  have cN := fun W => inSB count 2 11 W
  cases hr : risesB rs count with
  | false =>
    have e : okQ rs count = false := by unfold okQ argQ; rw [hr]; rfl
    rw [hr] at call
    go_enter Try.func20, Try.ntmps20
    go_wp2_with (go_at_call 40; refine call.mono ?_; rintro e w' ⟨rfl, d, rfl⟩)
    exact bodyPost_ret (by simp [results, Try.results20, go_sem]) rfl (NewQ.no e (below_drewN (Below.refl _ _) _))
  | true =>
    rw [hr] at call
    cases hc : inB count 2 11 with
    | false =>
      have e : okQ rs count = false := by unfold okQ argQ; rw [hc, Bool.and_false]; rfl
      rw [hc] at cN
      go_enter Try.func20, Try.ntmps20
      go_wp2_with (first | (go_at_call 40; refine call.mono ?_; rintro e w' ⟨rfl, d, rfl⟩) | (go_at_call 53; refine (cN _).mono ?_; rintro e w' ⟨rfl, rfl⟩))
      exact bodyPost_ret (by simp [results, Try.results20, go_sem]) rfl (NewQ.no e (below_drewN (Below.refl _ _) _))
    | true =>
      rw [hc] at cN
      have hcb : 2 ≤ count ∧ count ≤ 11 := by unfold inB at hc; exact of_decide_eq_true hc
      obtain ⟨n, hn⟩ : ∃ n : Nat, count = (n : Int) + 1 := ⟨(count - 1).toNat, by omega⟩
      subst hn
      have hn1 : 1 ≤ n := by omega
      have hn10 : n ≤ 10 := by omega
      have hnn : (((n : Int) + 1) - 1).toNat = n := by omega
      have harg : argQ rs ((n : Int) + 1) = true := by unfold argQ; rw [hr, hc]; rfl
      obtain ⟨m, HM', hm100, hwm⟩ := square hn10
      have HM := Lib.hid HM'
      clear HM'
      obtain ⟨i0, hi, hz0, hz1, hz2⟩ := info_parts infoF
      have hw1 : IntKind.i64.wrap ((n : Int) + 1 - 1) = (n : Int) := by rw [show (n : Int) + 1 - 1 = (n : Int) by omega]; exact IntWalk.i64_in _ (by omega)
      go_enter Try.func20, Try.ntmps20
      go_wp2_with (first | (go_at_call 40; refine call.mono ?_; rintro e w0 ⟨rfl, hd0⟩; have hb0 := hd0.below w.heap.size; have hz0' := hb0.size) | (go_at_call 53; refine (cN _).mono ?_; rintro e w' ⟨rfl, rfl⟩) | (at_make; refine wpList_make_full _ rfl (.tmp 35) (.tmp 35) 36 rfl w0.heap.size 37 i0 (.float .f32 0) 1 Try.underlying36 hi hz0 hz1 .i64 .i64 _ _ m rfl rfl rfl rfl (by rw [hz2]; omega) (by unfold maxLen; omega) (Nat.le_refl _) ?_; intro w1 hown hgrow) | (at_make; refine wpList_make_full _ rfl (.tmp 37) (.tmp 37) 36 rfl w1.heap.size 37 i0 (.float .f32 0) 1 Try.underlying36 hi hz0 hz1 .i64 .i64 _ _ n rfl rfl rfl rfl (by rw [hz2]; omega) (by unfold maxLen; omega) (Nat.le_refl _) ?_; intro w2 hown2 hgrow2))
      have hS2 : Mat w2 w0.heap.size m (sqAt n rs 0) := by
        have := Own.of_row hown
        rw [fls_made] at this
        exact Mat.grown ⟨List.replicate m 0, [], by simp, fun t ht => by simp [List.getD_eq_getElem?_getD, ht, cl_zero, sqAt], by simpa using this⟩ hgrow2 (by simp)
      have hB2 : Mat w2 w1.heap.size n (bAt rs 0) := by
        have := Own.of_row hown2
        rw [fls_made] at this
        exact ⟨List.replicate n 0, [], by simp, fun t ht => by simp [List.getD_eq_getElem?_getD, ht, cl_zero, bAt], by simpa using this⟩
      have hb1 : Below w.heap.size w w1 := hb0.grown hgrow hb0.size (by simp)
      have hb2 : Below w.heap.size w w2 := hb1.grown hgrow2 hb1.size (by simp)
      have hlt01 : w0.heap.size < w1.heap.size := (Own.of_row hown).lt
      have hg1 : w.heap.size ≤ w0.heap.size := hz0'
      have hg2 : w.heap.size ≤ w1.heap.size := hb1.size
      clear hown hgrow hown2 hgrow2 hb0 hb1 hz0' call cN hd0
      generalize w0.heap.size = g at *
      generalize w1.heap.size = gb at *
      have hne : g ≠ gb := by omega
      have hne' : gb ≠ g := by omega
      clear hlt01
      go_loopw [41] (fun i wr => ∃ k : Nat, k ≤ len ∧ i = .int .i64 (k : Int) ∧ Mat wr g m (sqAt n rs k) ∧ Mat wr gb n (bAt rs k) ∧ Below w.heap.size w wr) (fun i _ => len - (intOf i).toNat)
      case atStart => exact ⟨0, Nat.zero_le _, rfl, hS2, hB2, hb2⟩
      case round =>
        obtain ⟨k, hk, rfl, hS, hB, hb⟩ := hrel
        clear hS2 hB2 hb2
        generalize wr = wi at *
        by_cases hlt : k < len
        · obtain ⟨b, off, r, e, hbb, ⟨c0, c1, c2, c3⟩, hrk⟩ := (h.below hb).get hlt
          subst e
          obtain ⟨f, t, ef, et, hf, ht, hft, hsb, hlb⟩ := rise_of hr (by omega) hrk.out
          have hbg : b ≠ g := by
            obtain ⟨b', off', r', e, hbb', _, _⟩ := h.get hlt
            simp at e
            omega
          have hbgb : b ≠ gb := by
            obtain ⟨b', off', r', e, hbb', _, _⟩ := h.get hlt
            simp at e
            omega
          have hbg' : g ≠ b := fun e => hbg e.symm
          have hbgb' : gb ≠ b := fun e => hbgb e.symm
          have hnextS : Hid (sqAt n rs (k + 1) = stS n r (sqAt n rs k)) := Lib.hid (by show stS n (rs.getD k default) _ = _; rw [hrk.out])
          have hnextB : Hid (bAt rs (k + 1) = stB r (bAt rs k)) := Lib.hid (by show stB (rs.getD k default) _ = _; rw [hrk.out])
          generalize sqAt n rs k = S at *
          generalize bAt rs k = B at *
          have hWU : Hid (∀ x y : Nat, cl .f32 x = ab .quo .f32 (cl .f32 1065353216) (cl .f32 (floatOfInt .f32 r.l)) → cl .f32 y = ab .mul .f32 (cl .f32 x) (cl .f32 (floatOfInt .f32 r.s)) → cl .f32 x = wF r ∧ cl .f32 y = upF r) := Lib.hid fun x y h1 h2 => ⟨h1, by rw [h2, h1]; rfl⟩
          rw [ef] at c0
          rw [et] at c1
          have hftS : Hid (∀ S, stS n r S = sqC n f t (wF r) (sqA n t (wF r) (sqA n f (wF r) S))) := Lib.hid fun S => by unfold stS; rw [ef, et, Int.toNat_natCast, Int.toNat_natCast]
          have hftB : Hid (∀ B, stB r B = bB t (upF r) (bA f (upF r) B)) := Lib.hid fun B => by unfold stB; rw [ef, et, Int.toNat_natCast, Int.toNat_natCast]
          generalize r.s = rs' at *
          generalize r.l = rl at *
          clear ef et hrk
          rcases f with _ | p <;> rcases t with _ | q
          · exact absurd rfl hft
          · have hqn : q < n := by omega
            obtain ⟨aq, haq, haql, hwq⟩ := rowAt HM.out hqn hn10
            obtain ⟨qq, hqq, hqqm, hw5⟩ := placeAt haql hqn hm100
            obtain ⟨y2, hy2, e2⟩ := hS.get hqqm
            obtain ⟨z2, hz2', e6⟩ := hB.get hqn
            have f2 := hS.free qq
            have f6 := hB.free q
            simp only [Int.natCast_add, Int.natCast_one, Int.natCast_zero] at c0 c1
            go_wp2_with (first | (have k3 := hr3; refine wpList_fl rfl rfl rfl rfl rfl ?_; intro r4 d4 hr4) | (have k2 := hr2; refine wpList_fl rfl rfl rfl rfl rfl ?_; intro r3 d3 hr3) | (have k1 := hr1; refine wpList_fl rfl rfl rfl rfl rfl ?_; intro r2 d2 hr2) | (refine wpList_fl rfl rfl rfl rfl rfl ?_; intro r1 d1 hr1))
            go_roundw
            case rel =>
              obtain ⟨hW, hU⟩ := hWU.out r1 r2 hr1 hr2
              rw [hW] at hr3
              rw [hU] at hr4
              have eS : sqAt n rs (k + 1) = updE S qq (cl .f32 r3) := by
                rw [hnextS.out, hftS.out]
                exact stS_t (by rw [hqq.out, haq.out]) (by rw [hr3, e2.out])
              have eB : bAt rs (k + 1) = updE B q (cl .f32 r4) := by
                rw [hnextB.out, hftB.out]
                exact stB_t (by rw [hr4, e6.out])
              refine ⟨k + 1, by omega, by go_num, ?_, ?_, below_drewN ((hb.setCell hg1 _).setCell hg2 _) _⟩
              · rw [eS]
                exact ((hS.set hqqm rfl).other hne _).drew _
              · rw [eB]
                exact ((hB.other hne' _).set hqn rfl).drew _
            case measure => simp [intOf]; omega
          · have hpn : p < n := by omega
            obtain ⟨ap, hap, hapl, hwp⟩ := rowAt HM.out hpn hn10
            obtain ⟨pp, hpp, hppm, hw5⟩ := placeAt hapl hpn hm100
            obtain ⟨y2, hy2, e2⟩ := hS.get hppm
            obtain ⟨z2, hz2', e6⟩ := hB.get hpn
            have f2 := hS.free pp
            have f6 := hB.free p
            simp only [Int.natCast_add, Int.natCast_one, Int.natCast_zero] at c0 c1
            go_wp2_with (first | (have k3 := hr3; refine wpList_fl rfl rfl rfl rfl rfl ?_; intro r4 d4 hr4) | (have k2 := hr2; refine wpList_fl rfl rfl rfl rfl rfl ?_; intro r3 d3 hr3) | (have k1 := hr1; refine wpList_fl rfl rfl rfl rfl rfl ?_; intro r2 d2 hr2) | (refine wpList_fl rfl rfl rfl rfl rfl ?_; intro r1 d1 hr1))
            go_roundw
            case rel =>
              obtain ⟨hW, hU⟩ := hWU.out r1 r2 hr1 hr2
              rw [hW] at hr3
              rw [hU] at hr4
              have eS : sqAt n rs (k + 1) = updE S pp (cl .f32 r3) := by
                rw [hnextS.out, hftS.out]
                exact stS_f (by rw [hpp.out, hap.out]) (by rw [hr3, e2.out])
              have eB : bAt rs (k + 1) = updE B p (cl .f32 r4) := by
                rw [hnextB.out, hftB.out]
                exact stB_f (by rw [hr4, e6.out])
              refine ⟨k + 1, by omega, by go_num, ?_, ?_, below_drewN ((hb.setCell hg1 _).setCell hg2 _) _⟩
              · rw [eS]
                exact ((hS.set hppm rfl).other hne _).drew _
              · rw [eB]
                exact ((hB.other hne' _).set hpn rfl).drew _
            case measure => simp [intOf]; omega
          · have hpq : p ≠ q := by omega
            have hpn : p < n := by omega
            have hqn : q < n := by omega
            obtain ⟨ap, hap, hapl, hwp⟩ := rowAt HM.out hpn hn10
            obtain ⟨aq, haq, haql, hwq⟩ := rowAt HM.out hqn hn10
            have hrows := rows_apart hpq hap.out haq.out
            obtain ⟨pp, hpp, hppm, hw2⟩ := placeAt hapl hpn hm100
            obtain ⟨pq, hpq', hpqm, hw3⟩ := placeAt hapl hqn hm100
            obtain ⟨qp, hqp, hqpm, hw4⟩ := placeAt haql hpn hm100
            obtain ⟨qq, hqq, hqqm, hw5⟩ := placeAt haql hqn hm100
            have n1 : pp ≠ qq := by have := hpp.out; have := hqq.out; omega
            have n2 : pp ≠ pq := by have := hpp.out; have := hpq'.out; omega
            have n3 : pp ≠ qp := by have := hpp.out; have := hqp.out; omega
            have n4 : qq ≠ pq := by have := hqq.out; have := hpq'.out; omega
            have n5 : qq ≠ qp := by have := hqq.out; have := hqp.out; omega
            have n6 : pq ≠ qp := by have := hpq'.out; have := hqp.out; omega
            have n1' := n1.symm
            have n2' := n2.symm
            have n3' := n3.symm
            have n4' := n4.symm
            have n5' := n5.symm
            have n6' := n6.symm
            have hpq2 := hpq.symm
            obtain ⟨y1, hy1, e1⟩ := hS.get hppm
            obtain ⟨y2, hy2, e2⟩ := hS.get hqqm
            obtain ⟨y3, hy3, e3⟩ := hS.get hpqm
            obtain ⟨y4, hy4, e4⟩ := hS.get hqpm
            obtain ⟨z1, hz1', e5⟩ := hB.get hpn
            obtain ⟨z2, hz2', e6⟩ := hB.get hqn
            have f1 := hS.free pp
            have f2 := hS.free qq
            have f3 := hS.free pq
            have f4 := hS.free qp
            have f5 := hB.free p
            have f6 := hB.free q
            clear hrows
            simp only [Int.natCast_add, Int.natCast_one] at c0 c1
            go_wp2_with (first | (have k7 := hr7; refine wpList_fl rfl rfl rfl rfl rfl ?_; intro r8 d8 hr8) | (have k6 := hr6; refine wpList_fl rfl rfl rfl rfl rfl ?_; intro r7 d7 hr7) | (have k5 := hr5; refine wpList_fl rfl rfl rfl rfl rfl ?_; intro r6 d6 hr6) | (have k4 := hr4; refine wpList_fl rfl rfl rfl rfl rfl ?_; intro r5 d5 hr5) | (have k3 := hr3; refine wpList_fl rfl rfl rfl rfl rfl ?_; intro r4 d4 hr4) | (have k2 := hr2; refine wpList_fl rfl rfl rfl rfl rfl ?_; intro r3 d3 hr3) | (have k1 := hr1; refine wpList_fl rfl rfl rfl rfl rfl ?_; intro r2 d2 hr2) | (refine wpList_fl rfl rfl rfl rfl rfl ?_; intro r1 d1 hr1))
            go_roundw
            case rel =>
              obtain ⟨hW, hU⟩ := hWU.out r1 r2 hr1 hr2
              rw [hW] at hr3 hr5 hr7 hr8
              rw [hU] at hr4 hr6
              have eS : sqAt n rs (k + 1) = updE (updE (updE (updE S pp (cl .f32 r3)) qq (cl .f32 r5)) pq (cl .f32 r7)) qp (cl .f32 r8) := by
                rw [hnextS.out, hftS.out]
                exact stS_both (by rw [hpp.out, hap.out]) (by rw [hqq.out, haq.out]) (by rw [hpq'.out, hap.out]) (by rw [hqp.out, haq.out]) n1' n2' n3' n4' n5' n6' (by rw [hr3, e1.out]) (by rw [hr5, e2.out]) (by rw [hr7, e3.out]) (by rw [hr8, e4.out])
              have eB : bAt rs (k + 1) = updE (updE B p (cl .f32 r4)) q (cl .f32 r6) := by
                rw [hnextB.out, hftB.out]
                exact stB_both hpq2 (by rw [hr4, e5.out]) (by rw [hr6, e6.out])
              refine ⟨k + 1, by omega, by go_num, ?_, ?_, below_drewN ((((((hb.setCell hg1 _).setCell hg2 _).setCell hg1 _).setCell hg2 _).setCell hg1 _).setCell hg1 _) _⟩
              · rw [eS]
                exact ((((((hS.set hppm rfl).other hne _).set hqqm rfl).other hne _).set hpqm rfl).set hqpm rfl).drew _
              · rw [eB]
                exact ((((((hB.other hne' _).set hpn rfl).other hne' _).set hqn rfl).other hne' _).other hne' _).drew _
            case measure => simp [intOf]; omega
        · obtain rfl : k = len := by omega
          obtain ⟨us, rest, hul, huc, huo⟩ := hS
          obtain ⟨vs, rest', hvl, hvc, hvo⟩ := hB
          rw [← hl] at huc hvc
          have hFq : FlS wi (some ⟨g, 0, none⟩) m us := ⟨hul, by omega, .inr ⟨g, 0, rfl, huo.lt, fun t ht => by rw [Nat.zero_add]; exact huo.at (by rw [List.getElem?_append_left (by rw [fls_len]; omega)]; exact fls_get (by omega))⟩⟩
          have hFb : FlS wi (some ⟨gb, 0, none⟩) n vs := ⟨hvl, by omega, .inr ⟨gb, 0, rfl, hvo.lt, fun t ht => by rw [Nat.zero_add]; exact hvo.at (by rw [List.getElem?_append_left (by rw [fls_len]; omega)]; exact fls_get (by omega))⟩⟩
          have cs := specSolveEven (some ⟨g, 0, none⟩) (some ⟨gb, 0, none⟩) m m n n us vs wi hFq hFb
          have hwq : us.map (cl .f32) = (qsQ n rs).map (cl .f32) := by unfold qsQ; rw [← HM.out]; exact words_of hul huc
          have hwb : vs.map (cl .f32) = (bsQ n rs).map (cl .f32) := words_of hvl hvc
          have hsol := solve_alike (m := m) (n := n) hwq hwb
          rw [hsol.1, hsol.2] at cs
          have hokQ : Hid (okQ rs ((n : Int) + 1) = (okS m n (qsQ n rs) (bsQ n rs) && isNum .f32 (sumQ n rs))) := Lib.hid (by unfold okQ; rw [hnn, harg, Bool.true_and, ← HM.out])
          have hhs : Hid (hsQ n rs = 0 :: outS m n (qsQ n rs) (bsQ n rs)) := Lib.hid (by unfold hsQ; rw [← HM.out])
          have hlenS := Lib.hid (outS_len (m := m) (n := n) (qs := qsQ n rs) (bs := bsQ n rs))
          clear huc hvc huo hvo hFq hFb hsol hul hvl hwq hwb
          cases hok : okS m n (qsQ n rs) (bsQ n rs) with
          | false =>
            rw [hok] at cs hokQ
            have e := hokQ.out
            rw [Bool.false_and] at e
            go_wp2_with (go_at_call 37; refine cs.mono ?_; intro e w3 he; obtain ⟨ax, cx, he, hMx, hb3⟩ := he; subst he)
            exact bodyPost_ret (by simp [results, Try.results20, go_sem]) rfl (NewQ.no e (hb.trans (hb3.mono hb.size)))
          | true =>
            have hln := hlenS.out hok
            rw [hok, Bool.true_and] at hokQ
            rw [hok] at cs
            generalize outS m n (qsQ n rs) (bsQ n rs) = xs at *
            go_wp2_with fail
            refine cs.mono ?_
            intro e w3 he
            obtain ⟨ax, cx, he, hMx, hb3⟩ := he
            subst he
            have hB3 := hb.trans (hb3.mono hb.size)
            obtain ⟨hx1, hx2, hx3⟩ := hMx
            rcases hx3 with hx3 | ⟨gx, restx, rfl, hgx, hox⟩
            · omega
            have hrow1 := row_one (E := 37) w3 hB3.size (.float .f32 0)
            have hcells := fun j u (hj : (fls xs)[j]? = some u) => fls_cells (hox.alloc (.cells #[.float .f32 0] 37)) j u hj
            have hBl3 := hB3.size
            go_wp2_with (at_builtin; refine wpList_append_lies _ rfl (.tmp 176) (.tmp 177) 36 rfl w.heap.size 37 i0 (.float .f32 0) 1 4 Try.underlying36 hi hz0 hz1 hz2 rfl (by decide) (.slice (some ⟨w3.heap.size, 0, none⟩) 1 1) 1 [.float .f32 0] rfl hrow1 ⟨gx, 0, none⟩ n cx (fls xs) rfl (by rw [fls_len, hln, Nat.mul_one]) hcells (fls_one xs) (by omega) (by unfold maxLen; omega) (by omega) (by simp; omega) (w3.heap.size + 1) (by simp) ?_; intro gh ch w4 hown hgrow hat hlt4)
            have hb4 : Below w.heap.size w w4 := (hB3.alloc hBl3 _).grown hgrow (by simp; omega) fun q hq => by simp [Value.ownBlock] at hq; omega
            have hrow4 : w4.ownsRow w.heap.size 37 1 (.slice (some ⟨gh, 0, none⟩) (1 + n) ch) (1 + n) (fls (hsQ n rs)) := by
              rw [hhs.out]
              exact hown
            have hM4 := (MineV.of_row hrow4 (by omega)).2
            have hF4 := hM4.fls
            have hhl : (hsQ n rs).length = 1 + n := hF4.1
            obtain ⟨gh', ch', resth, eh, hgh, hoh⟩ := row_ownF hrow4 (by omega)
            simp only [Value.slice.injEq, Option.some.injEq, Addr.mk.injEq, and_true, true_and] at eh
            obtain ⟨rfl, rfl⟩ := eh
            have hRi := h.below hb4
            clear hown hgrow hat hlt4 hrow1 hcells hB3 hb3 cs hhs hlenS hF4
            go_wp2
            go_loopw [18, 181] (fun s i wr => ∃ (j z : Nat), j ≤ k ∧ i = .int .i64 (j : Int) ∧ s = .float .f32 z ∧ Hid (cl .f32 z = allAt rs (clsOf (hsQ n rs)) j) ∧ Drew w4 wr) (fun _ i _ => k - (intOf i).toNat)
            case atStart => exact ⟨0, 0, Nat.zero_le _, rfl, rfl, cl_zero _, Drew.refl _⟩
            case round =>
              obtain ⟨j, z, hj, rfl, rfl, hz, d, rfl⟩ := hrel
              by_cases hltj : j < k
              · obtain ⟨b, off, r, e, hbb, ⟨c0, c1, c2, c3⟩, hrk⟩ := (hRi.drewN d).get hltj
                subst e
                obtain ⟨f, t, ef, et, hf, ht, hft, hsb, hlb⟩ := rise_of hr (by omega) hrk.out
                rw [ef] at c0
                rw [et] at c1
                have ht' : t < 1 + n := by omega
                have hf' : f < 1 + n := by omega
                have ht2 : (t : Int) < 1 + (n : Int) := by omega
                have hf2 : (f : Int) < 1 + (n : Int) := by omega
                have k1 : (w4.drewN d).cell? ⟨gh, t, none⟩ = some (.float .f32 ((hsQ n rs).getD t 0)) := (hoh.drew d).at (by rw [List.getElem?_append_left (by rw [fls_len]; omega)]; exact fls_get (by omega))
                have k2 : (w4.drewN d).cell? ⟨gh, f, none⟩ = some (.float .f32 ((hsQ n rs).getD f 0)) := (hoh.drew d).at (by rw [List.getElem?_append_left (by rw [fls_len]; omega)]; exact fls_get (by omega))
                have hmiss : Hid (missF r (clsOf (hsQ n rs)) = ab .sub .f32 (cl .f32 (floatOfInt .f32 r.s)) (ab .sub .f32 (cl .f32 ((hsQ n rs).getD t 0)) (cl .f32 ((hsQ n rs).getD f 0)))) := Lib.hid (by unfold missF clsOf; rw [ef, et, Int.toNat_natCast, Int.toNat_natCast])
                have hstep : Hid (allAt rs (clsOf (hsQ n rs)) (j + 1) = ab .add .f32 (allAt rs (clsOf (hsQ n rs)) j) (ab .mul .f32 (ab .mul .f32 (wF r) (missF r (clsOf (hsQ n rs)))) (missF r (clsOf (hsQ n rs))))) := Lib.hid (by
                  show ab .add .f32 _ (ab .mul .f32 (ab .mul .f32 (wF (rs.getD j default)) (missF (rs.getD j default) _)) (missF (rs.getD j default) _)) = _
                  rw [hrk.out])
                have hwF : Hid (wF r = ab .quo .f32 (cl .f32 1065353216) (cl .f32 (floatOfInt .f32 r.l))) := Lib.hid rfl
                have hD : Hid (∀ q, Drew w4 ((w4.drewN d).drewN q)) := Lib.hid fun q => ⟨_, World.drewN_drewN _ _ _⟩
                generalize (hsQ n rs).getD t 0 = yt at *
                generalize (hsQ n rs).getD f 0 = yf at *
                generalize w4.drewN d = wd at *
                clear ef et hrk
                go_wp2_with (refine wpList_fl rfl rfl rfl rfl rfl ?_; intro rw' dw hrw)
                refine QS.wp_region (.bool true) (by kernel_rfl) (by kernel_rfl) ?_
                iterate 22 (refine QS.det (fun K hK => ?_); go_simp; refine hK _ ?_; clear hK K)
                refine QS.fl rfl rfl rfl rfl rfl ?_
                intro r1 hr1
                refine QS.fl rfl rfl rfl rfl rfl ?_
                intro r2 hr2
                refine QS.det (fun K hK => ?_); go_simp; refine hK _ ?_; clear hK K
                refine QS.nil ?_
                intro nq
                have hm2 : Hid (cl .f32 r2 = missF r (clsOf (hsQ n rs))) := Lib.hid (by rw [hmiss.out, hr2, hr1])
                have hw2 : Hid (cl .f32 rw' = wF r) := Lib.hid (by rw [hwF.out, hrw])
                clear hr1 hr2 hrw
                go_wp2_with (first | (have k2 := hr4; refine wpList_fl rfl rfl rfl rfl rfl ?_; intro r5 d5 hr5) | (have k1 := hr3; refine wpList_fl rfl rfl rfl rfl rfl ?_; intro r4 d4 hr4) | (refine wpList_fl rfl rfl rfl rfl rfl ?_; intro r3 d3 hr3))
                go_roundw
                case rel => exact ⟨j + 1, r5, by omega, by go_num, rfl, Lib.hid (by rw [hstep.out, hr5, hr4, hr3, hz.out, hm2.out, hw2.out]), hD.out _⟩
                case measure => simp [intOf]; omega
              · obtain rfl : j = k := by omega
                rw [← hl] at hz
                have hz' : Hid (cl .f32 z = sumQ n rs) := hz
                have cF := fun W => l01Finite z W
                rw [hz'.out] at cF
                have hbd := below_drewN hb4 d
                have hMd : MineV 37 w.heap.size (w4.drewN d) (some ⟨gh, 0, none⟩) (1 + n) (fls (hsQ n rs)) := hM4.below (below_drewN (Below.refl _ _) d)
                generalize w4.drewN d = wd at *
                cases hfin : isNum .f32 (sumQ n rs) with
                | false =>
                  rw [hfin] at cF hokQ
                  have e := hokQ.out
                  go_wp2_with (go_at_call 54; refine (cF _).mono ?_; rintro e w' ⟨rfl, d2, rfl⟩)
                  exact bodyPost_ret (by simp [results, Try.results20, go_sem]) rfl (NewQ.no e (below_drewN hbd _))
                | true =>
                  rw [hfin] at cF hokQ
                  have e := hokQ.out
                  go_wp2_with (go_at_call 54; refine (cF _).mono ?_; rintro e w' ⟨rfl, d2, rfl⟩)
                  refine bodyPost_ret (v := .tuple #[.slice (some ⟨gh, 0, none⟩) (1 + n) ch, .float .f32 z, .bool true]) (by simp [results, Try.results20, go_sem]) rfl ?_
                  unfold outQ allQ
                  rw [e, if_pos rfl, if_pos rfl, hnn]
                  exact ⟨some ⟨gh, 0, none⟩, ch, z, by rw [hhl], hz'.out, by rw [hhl]; exact hMd.below (below_drewN (Below.refl _ _) d2), below_drewN hbd d2⟩
end Go.Proofs.Ytikdagkopalojaa
