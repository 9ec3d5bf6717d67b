/-
  The least squares of rises: the program's words.
-/
import Derived.Test.YtikdagkopalojaaSquares3
import Derived.Test.YtikdagkopalojaaRises4
import Derived.Deep.DeepCutAuto
import Derived.BigRegion
namespace Go.Proofs.Ytikdagkopalojaa
open Go.RowKit Go.Shelf
attribute [local go_sem] order_cl cl_zero cl_one cl_two aord_none

@[local go_sem] theorem run_neg_float (P : Program) (W : World) (b : Nat) : (Op.unary .neg (.float .f32 b)).run P W = .ok (.float .f32 (Op.negFloat .f32 b)) W := rfl
theorem mk_fls {n : Nat} (hn : n ≤ 100) : ∃ cI : Array Value, cI.toList = fls (List.replicate n 0) ∧ ∀ W, (Instr.makeSlice 36 (.int .i64 (n : Int)) (.int .i64 (n : Int))).run Try.prog W = .ok (.slice (some ⟨W.heap.size, 0, none⟩) n n) (W.alloc (.cells cI 37)) := by
  obtain ⟨i0, hi, hz0, hz1, hz2⟩ := info_parts infoF
  refine ⟨madeCells (Value.float .f32 0).cells (n * 1), fls_made n, fun W => ?_⟩
  have := run_make W 36 37 i0 (.float .f32 0) Try.underlying36 hi hz0 .i64 .i64 (n : Int) (n : Int) (by omega) (Int.le_refl _) (by rw [hz2]; omega) (by omega)
  rw [hz1] at this
  simpa using this

theorem OnlyAt.box {E : TypeId} {w w' : World} {g q len : Nat} {vs : List Value} (h : OnlyAt (some ⟨g, 0, none⟩) len w w') (ho : Own E w q vs) (hne : q ≠ g) : Own E w' q vs :=
  ho.block (h.2.2.2.2 q fun _ g' hg' => by simp only [Option.some.injEq, Addr.mk.injEq, and_true] at hg'; omega)
theorem OnlyAt.mat {w w' : World} {g q m len : Nat} {S : Nat → Cl} (h : OnlyAt (some ⟨g, 0, none⟩) len w w') (ho : Mat w q m S) (hne : q ≠ g) : Mat w' q m S := by
  obtain ⟨us, rest, h1, h2, h3⟩ := ho
  exact ⟨us, rest, h1, h2, h.box h3 hne⟩

/-- The blocks of the call: the squares, what they are to give, and the two variables that the function holds. -/
structure SqB (w : World) (B g gb gs gn m n : Nat) (S T : Nat → Cl) : Prop where
  oS : Mat w g m S
  oB : Mat w gb n T
  os : Own 36 w gs [.slice (some ⟨g, 0, none⟩) m m]
  on : Own 2 w gn [.int .i64 (n : Int)]
  bg : B ≤ g
  bb : B ≤ gb
  bs : B ≤ gs
  bn : B ≤ gn
  n1 : gb ≠ g
  n2 : gs ≠ g
  n3 : gn ≠ g
  n4 : gs ≠ gb
  n5 : gn ≠ gb
section
variable {w w' : World} {B g gb gs gn m n : Nat} {S S' T : Nat → Cl}
theorem SqB.below (h : SqB w B g gb gs gn m n S T) (hb : Below w.heap.size w w') : SqB w' B g gb gs gn m n S T :=
  ⟨h.oS.below hb, h.oB.below hb, h.os.below hb, h.on.below hb, h.bg, h.bb, h.bs, h.bn, h.n1, h.n2, h.n3, h.n4, h.n5⟩
theorem SqB.only (h : SqB w B g gb gs gn m n S T) (hM : Mat w' g m S') (ho : OnlyAt (some ⟨g, 0, none⟩) 1 w w') : SqB w' B g gb gs gn m n S' T :=
  ⟨hM, ho.mat h.oB h.n1, ho.box h.os h.n2, ho.box h.on h.n3, h.bg, h.bb, h.bs, h.bn, h.n1, h.n2, h.n3, h.n4, h.n5⟩
theorem SqB.set (h : SqB w B g gb gs gn m n S T) {t v : Nat} (ht : t < n) {V : Cl} (hv : cl .f32 v = V) : SqB (w.setCell ⟨gb, t, none⟩ (.float .f32 v)) B g gb gs gn m n S (updE T t V) :=
  ⟨h.oS.other (fun e => h.n1 e.symm) _, h.oB.set ht hv, h.os.other h.n4 _, h.on.other h.n5 _, h.bg, h.bb, h.bs, h.bn, h.n1, h.n2, h.n3, h.n4, h.n5⟩
theorem SqB.drew (h : SqB w B g gb gs gn m n S T) (d : Nat) : SqB (w.drewN d) B g gb gs gn m n S T := h.below (below_drewN (Below.refl _ _) d)
def AddB (B g gb gs gn m n i k : Nat) (W : Cl) (S T : Nat → Cl) (w : World) (e : Ending) (w' : World) : Prop := e = .returned (.tuple #[]) ∧ SqB w' B g gb gs gn m n (addS n i k W S) T ∧ OnlyAt (some ⟨g, 0, none⟩) 1 w w'
theorem SqB.add (h : SqB w B g gb gs gn m n S T) (i k wb : Nat) (hn : n ≤ 10) (hm : m = n * n) (hi : i ≤ n) (hk : k ≤ n) :
    Calls Try.prog 55 #[.int .i64 (i : Int), .int .i64 (k : Int), .float .f32 wb, .pointer (some ⟨gs, 0, none⟩), .pointer (some ⟨gn, 0, none⟩)] w (AddB B g gb gs gn m n i k (cl .f32 wb) S T w) :=
  (implAdd m n g gs gn i k wb S w hn hm hi hk h.oS (h.os.at rfl) (h.on.at rfl)).mono fun _ _ ⟨e, hM, ho⟩ => ⟨e, h.only hM ho, ho⟩
end

theorem four (w : World) (c0 c1 c2 c3 : Array Value) (E0 E1 E2 E3 : TypeId) : Own E0 ((((w.alloc (.cells c0 E0)).alloc (.cells c1 E1)).alloc (.cells c2 E2)).alloc (.cells c3 E3)).drew w.heap.size c0.toList ∧ Own E1 ((((w.alloc (.cells c0 E0)).alloc (.cells c1 E1)).alloc (.cells c2 E2)).alloc (.cells c3 E3)).drew (w.heap.size + 1) c1.toList ∧
    Own E2 ((((w.alloc (.cells c0 E0)).alloc (.cells c1 E1)).alloc (.cells c2 E2)).alloc (.cells c3 E3)).drew (w.heap.size + 1 + 1) c2.toList ∧ Own E3 ((((w.alloc (.cells c0 E0)).alloc (.cells c1 E1)).alloc (.cells c2 E2)).alloc (.cells c3 E3)).drew (w.heap.size + 1 + 1 + 1) c3.toList := by
  have o0 := Own.new w c0.toList E0
  have o1 := Own.new (w.alloc (.cells c0 E0)) c1.toList E1
  have o2 := Own.new ((w.alloc (.cells c0 E0)).alloc (.cells c1 E1)) c2.toList E2
  have o3 := Own.new (((w.alloc (.cells c0 E0)).alloc (.cells c1 E1)).alloc (.cells c2 E2)) c3.toList E3
  simp only [Array.toArray_toList, World.size_alloc] at o0 o1 o2 o3
  exact ⟨((o0.alloc _).alloc _).alloc _, (o1.alloc _).alloc _, o2.alloc _, o3⟩
theorem SqB.start {w : World} {B g gb gs gn m n : Nat} {cM cB : Array Value} (rs : List Rise) (hcM : cM.toList = fls (List.replicate m 0)) (hcB : cB.toList = fls (List.replicate n 0)) (oM : Own 37 w g cM.toList) (oB : Own 37 w gb cB.toList)
    (os : Own 36 w gs [.slice (some ⟨g, 0, none⟩) m m]) (on : Own 2 w gn [.int .i64 (n : Int)]) (bg : B ≤ g) (bb : B ≤ gb) (bs : B ≤ gs) (bn : B ≤ gn) (n1 : gb ≠ g) (n2 : gs ≠ g) (n3 : gn ≠ g) (n4 : gs ≠ gb) (n5 : gn ≠ gb) :
    SqB w B g gb gs gn m n (sqAt n rs 0) (bAt rs 0) := by
  rw [hcM] at oM
  rw [hcB] at oB
  exact ⟨⟨List.replicate m 0, [], by simp, fun t ht => by simp [List.getD_eq_getElem?_getD, ht, cl_zero, sqAt], by simpa using oM⟩, ⟨List.replicate n 0, [], by simp, fun t ht => by simp [List.getD_eq_getElem?_getD, ht, cl_zero, bAt], by simpa using oB⟩, os, on, bg, bb, bs, bn, n1, n2, n3, n4, n5⟩

/-- Four turns are a rise's. -/
theorem add_all {n f t wb : Nat} {S : Nat → Cl} {W : Cl} (hW : cl .f32 wb = W) : addS n t f (cl .f32 (Op.negFloat .f32 wb)) (addS n f t (cl .f32 (Op.negFloat .f32 wb)) (addS n t t (cl .f32 wb) (addS n f f (cl .f32 wb) S))) = sqC n f t W (sqA n t W (sqA n f W S)) := by
  have e1 : ∀ i S, addS n i i (cl .f32 wb) S = sqA n i W S := fun i S => by
    unfold addS sqA
    rw [hW]
    by_cases h : 0 < i
    · rw [if_pos ⟨h, h⟩, if_pos h]
    · rw [if_neg (fun e => h e.1), if_neg h]
  have e2 : ∀ i k S, addS n i k (cl .f32 (Op.negFloat .f32 wb)) S = if 0 < i ∧ 0 < k then sqD n i k W S else S := fun i k S => by
    unfold addS sqD
    rw [ab_neg, hW]
  rw [e1, e1, e2, e2]
  unfold sqC
  by_cases h : 0 < f ∧ 0 < t
  · rw [if_pos h, if_pos ⟨h.2, h.1⟩, if_pos h]
  · rw [if_neg h, if_neg (fun e => h ⟨e.2, e.1⟩), if_neg h]

set_option maxRecDepth 20000 in
set_option maxHeartbeats 8000000 in
theorem implRiseSquares (a : Option Addr) (len cap : Nat) (count : Int) (rs : List Rise) (w : World) (h : RiS w a len rs) :
    Calls Try.prog 21 #[.slice a len cap, .int .i64 count] w (NewQ (outQ rs count) (allQ rs count) (okQ rs count) w) := by
  have hm := h.max
  have hl := h.size
  have call := implAreRises a len cap count rs w h
  have cN := fun W => inI count 2 11 W
  cases hr : risesB rs count with
  | false =>
    have e : okQ rs count = false := by unfold okQ argQ; rw [hr]; rfl
    rw [hr] at call
    go_enter Try.func21, Try.ntmps21
    go_wp2_with (go_at_call 13; refine call.mono ?_; rintro e w' ⟨rfl, hb⟩)
    exact bodyPost_ret (by simp [results, Try.results21, go_sem]) rfl (NewQ.no e hb)
  | true =>
    rw [hr] at call
    by_cases hcb : 2 ≤ count ∧ count ≤ 11
    rotate_left
    · have e : okQ rs count = false := by unfold okQ argQ inB; rw [decide_eq_false hcb, Bool.and_false]; rfl
      rw [decide_eq_false hcb] at cN
      go_enter Try.func21, Try.ntmps21
      go_wp2_with (first | (go_at_call 13; refine call.mono ?_; rintro e w' ⟨rfl, hb⟩) | (go_at_call 42; refine (cN _).mono ?_; rintro e w' ⟨rfl, rfl⟩))
      exact bodyPost_ret (by simp [results, Try.results21, go_sem]) rfl (NewQ.no e hb)
    · rw [decide_eq_true hcb] at cN
      obtain ⟨n, hn⟩ : ∃ n : Nat, count = (n : Int) + 1 := ⟨(count - 1).toNat, by omega⟩
      subst hn
      have hn1 : 1 ≤ n := by omega
      have hn10 : n ≤ 10 := by omega
      have hnn : (((n : Int) + 1) - 1).toNat = n := by omega
      have harg : argQ rs ((n : Int) + 1) = true := by unfold argQ inB; rw [hr, decide_eq_true hcb]; rfl
      obtain ⟨m, HM', hm100, hwm⟩ := square hn10
      have HM := Lib.hid HM'
      clear HM'
      obtain ⟨i0, hi, hz0, hz1, hz2⟩ := info_parts infoF
      have hw1 : IntKind.i64.wrap ((n : Int) + 1 - 1) = (n : Int) := by rw [show (n : Int) + 1 - 1 = (n : Int) by omega]; exact IntWalk.i64_in _ (by omega)
      obtain ⟨cM, hcM, hmkM⟩ := mk_fls hm100
      obtain ⟨cB, hcB, hmkB⟩ := mk_fls (n := n) (by omega)
      go_enter Try.func21, Try.ntmps21
      go_wp2_with (first | (go_at_call 13; refine call.mono ?_; rintro e w0 ⟨rfl, hb0⟩; have hz0' := hb0.size) | (go_at_call 42; refine (cN _).mono ?_; rintro e w' ⟨rfl, rfl⟩))
      have hbn := hb0.alloc hb0.size (.cells #[.int .i64 (n : Int)] 2)
      go_cut [8, 9] (fun s8 s9 wx => ∃ g gb gs, s8 = .pointer (some ⟨gs, 0, none⟩) ∧ s9 = .slice (some ⟨gb, 0, none⟩) n n ∧ SqB wx w.heap.size g gb gs w0.heap.size m n (sqAt n rs 0) (bAt rs 0) ∧ Below w.heap.size w wx)
      case first =>
        go_region
        all_goals go_wp2
        all_goals go_meet
        all_goals clear hmkM hmkB call cN
        all_goals
          refine ⟨?_, _, _, rfl, rfl, SqB.start rs hcM hcB ?_ ?_ ?_ ?_ ?_ ?_ ?_ ?_ ?_ ?_ ?_ ?_ ?_, below_drewN (((hbn.alloc (by have := hb0.size; simp; omega) _).alloc (by have := hb0.size; simp; omega) _).alloc (by have := hb0.size; simp; omega) _) 1⟩
          rotate_left 3
          · (first | exact (four _ _ _ _ _ _ _ _ _).2.1 | exact (four _ _ _ _ _ _ _ _ _).2.2.1 | exact (four _ _ _ _ _ _ _ _ _).2.2.2)
          all_goals (first | omega | exact (four _ _ _ _ _ _ _ _ _).1 | exact (four _ _ _ _ _ _ _ _ _).2.1 | exact (four _ _ _ _ _ _ _ _ _).2.2.1 | exact (four _ _ _ _ _ _ _ _ _).2.2.2)
      case rest =>
        obtain ⟨g, gb, gs, rfl, rfl, hbk, hb⟩ := hcut
        generalize w0.heap.size = gn at *
        have eg : ∀ args W, (callFunc 55 args).run Try.prog W = .ok (.enter 55 args) W := enters_of Try.func55 (by kernel_rfl) rfl
        clear hmkM hmkB hcM hcB call cN hbn hb0
        go_wp2
        go_loopw [43] (fun i wr => ∃ k : Nat, k ≤ len ∧ i = .int .i64 (k : Int) ∧ SqB wr w.heap.size g gb gs gn m n (sqAt n rs k) (bAt rs k) ∧ Below w.heap.size w wr) (fun i _ => len - (intOf i).toNat)
        case atStart => exact ⟨0, Nat.zero_le _, rfl, hbk, hb⟩
        case round =>
          obtain ⟨k, hk, rfl, hbk, hb⟩ := hrel
          generalize wr = wi at *
          by_cases hlt : k < len
          · obtain ⟨b, off, r, e, hbb, ⟨c0, c1, c2, c3⟩, hrk⟩ := (h.below hb).get hlt
            subst e
            obtain ⟨f, t, ef, et, hf, ht, hft, hsb, hlb⟩ := rise_of hr (by omega) hrk.out
            have hnextS : Hid (sqAt n rs (k + 1) = stS n r (sqAt n rs k)) := Lib.hid (by show stS n (rs.getD k default) _ = _; rw [hrk.out])
            have hnextB : Hid (bAt rs (k + 1) = stB r (bAt rs k)) := Lib.hid (by show stB (rs.getD k default) _ = _; rw [hrk.out])
            have hbk0 := fun vs => hbk.below ((Below.refl _ _).alloc (Nat.le_refl _) (.cells vs 59))
            have hb1 := fun vs => hb.alloc hb.size (.cells vs 59)
            have hbox := fun vs => Own.new wi vs 59
            have hgr1 : wi.heap.size ≠ g := by have := hbk.oS.lt; omega
            have hgr2 : wi.heap.size ≠ gb := by have := hbk.oB.lt; omega
            have hB0 := hb.size
            clear hbk hb
            generalize sqAt n rs k = S at *
            generalize bAt rs k = T at *
            have hWU : Hid (∀ x y : Nat, cl .f32 x = ab .quo .f32 (cl .f32 1065353216) (cl .f32 (floatOfInt .f32 r.l)) → cl .f32 y = ab .mul .f32 (cl .f32 x) (cl .f32 (floatOfInt .f32 r.s)) → cl .f32 x = wF r ∧ cl .f32 y = upF r) := Lib.hid fun x y h1 h2 => ⟨h1, by rw [h2, h1]; rfl⟩
            have hWF : Hid (∀ x : Nat, cl .f32 x = ab .quo .f32 (cl .f32 1065353216) (cl .f32 (floatOfInt .f32 r.l)) → cl .f32 x = wF r) := Lib.hid fun x h1 => h1
            rw [ef] at c0
            rw [et] at c1
            have hftS : Hid (∀ S, stS n r S = sqC n f t (wF r) (sqA n t (wF r) (sqA n f (wF r) S))) := Lib.hid fun S => by unfold stS; rw [ef, et, Int.toNat_natCast, Int.toNat_natCast]
            have hftB : Hid (∀ B, stB r B = bB t (upF r) (bA f (upF r) B)) := Lib.hid fun B => by unfold stB; rw [ef, et, Int.toNat_natCast, Int.toNat_natCast]
            generalize r.s = rs' at *
            generalize r.l = rl at *
            clear ef et hrk
            go_wp2_with (refine wpList_fl rfl rfl rfl rfl rfl ?_; intro rw' dw hrw)
            have hk1 := (hbk0 #[.int .i64 (f : Int), .int .i64 (t : Int), .int .i64 rs', .int .i64 rl]).drew dw
            have hb2 := below_drewN (hb1 #[.int .i64 (f : Int), .int .i64 (t : Int), .int .i64 rs', .int .i64 rl]) dw
            have hx1 := (hbox [.int .i64 (f : Int), .int .i64 (t : Int), .int .i64 rs', .int .i64 rl]).drew dw
            clear hbk0 hb1 hbox c0 c1 c2 c3
            generalize wi.heap.size = gr at *
            generalize ((wi.alloc (.cells #[.int .i64 (f : Int), .int .i64 (t : Int), .int .i64 rs', .int .i64 rl] 59)).drewN dw) = wd at *
            refine (hk1.add f f rw' hn10 HM.out hf hf).mono ?_
            rintro e w1 ⟨rfl, hk2, ho1⟩
            have hx2 := ho1.box hx1 hgr1
            have hb3 := hb2.trans (ho1.below fun _ g' hg' => (by simp only [Option.some.injEq, Addr.mk.injEq, and_true] at hg'; have := hk1.bg; omega))
            clear hk1 hx1 hb2 ho1
            have d0 : w1.cell? ⟨gr, 0, none⟩ = some (.int .i64 (f : Int)) := hx2.at rfl
            have d1 : w1.cell? ⟨gr, 1, none⟩ = some (.int .i64 (t : Int)) := hx2.at rfl
            go_wp2_with fail
            refine (hk2.add t t rw' hn10 HM.out ht ht).mono ?_
            rintro e w2 ⟨rfl, hk3, ho1⟩
            have hx3 := ho1.box hx2 hgr1
            have hb4 := hb3.trans (ho1.below fun _ g' hg' => (by simp only [Option.some.injEq, Addr.mk.injEq, and_true] at hg'; have := hk2.bg; omega))
            clear hk2 hx2 hb3 ho1 d0 d1
            have d0 : w2.cell? ⟨gr, 0, none⟩ = some (.int .i64 (f : Int)) := hx3.at rfl
            have d1 : w2.cell? ⟨gr, 1, none⟩ = some (.int .i64 (t : Int)) := hx3.at rfl
            go_wp2_with fail
            refine (hk3.add f t (Op.negFloat .f32 rw') hn10 HM.out hf ht).mono ?_
            rintro e w3 ⟨rfl, hk4, ho1⟩
            have hx4 := ho1.box hx3 hgr1
            have hb5 := hb4.trans (ho1.below fun _ g' hg' => (by simp only [Option.some.injEq, Addr.mk.injEq, and_true] at hg'; have := hk3.bg; omega))
            clear hk3 hx3 hb4 ho1 d0 d1
            have d0 : w3.cell? ⟨gr, 0, none⟩ = some (.int .i64 (f : Int)) := hx4.at rfl
            have d1 : w3.cell? ⟨gr, 1, none⟩ = some (.int .i64 (t : Int)) := hx4.at rfl
            go_wp2_with fail
            refine (hk4.add t f (Op.negFloat .f32 rw') hn10 HM.out ht hf).mono ?_
            rintro e w4 ⟨rfl, hk5, ho1⟩
            have hx5 := ho1.box hx4 hgr1
            have hb6 := hb5.trans (ho1.below fun _ g' hg' => (by simp only [Option.some.injEq, Addr.mk.injEq, and_true] at hg'; have := hk4.bg; omega))
            clear hk4 hx4 hb5 ho1 d0 d1
            have d0 : w4.cell? ⟨gr, 0, none⟩ = some (.int .i64 (f : Int)) := hx5.at rfl
            have d1 : w4.cell? ⟨gr, 1, none⟩ = some (.int .i64 (t : Int)) := hx5.at rfl
            have d2 : w4.cell? ⟨gr, 2, none⟩ = some (.int .i64 rs') := hx5.at rfl
            have hbB := hk5.bb
            have eS : sqAt n rs (k + 1) = addS n t f (cl .f32 (Op.negFloat .f32 rw')) (addS n f t (cl .f32 (Op.negFloat .f32 rw')) (addS n t t (cl .f32 rw') (addS n f f (cl .f32 rw') S))) := by
              rw [hnextS.out, hftS.out, add_all (hWF.out _ hrw)]
            rw [← eS] at hk5
            clear eS hnextS hftS hx5
            have hoB := hk5.oB
            rcases f with _ | p <;> rcases t with _ | q
            · exact absurd rfl hft
            · have hqn : q < n := by omega
              obtain ⟨z2, hz2', e6⟩ := hoB.get hqn
              have f6 := hoB.free q
              simp only [Int.natCast_add, Int.natCast_one, Int.natCast_zero] at d0 d1
              go_wp2_with (first | (have k1 := hr2; refine wpList_fl rfl rfl rfl rfl rfl ?_; intro r3 d3 hr3) | (refine wpList_fl rfl rfl rfl rfl rfl ?_; intro r2 d2 hr2))
              go_roundw
              case rel =>
                obtain ⟨hW, hU⟩ := hWU.out rw' r2 hrw hr2
                rw [hU] at hr3
                have eB : bAt rs (k + 1) = updE T q (cl .f32 r3) := by
                  rw [hnextB.out, hftB.out]
                  exact stB_t (by rw [hr3, e6.out])
                refine ⟨k + 1, by omega, by go_num, ?_, below_drewN (hb6.setCell hbB _) _⟩
                rw [eB]
                exact (hk5.set hqn rfl).drew _
              case measure => simp [intOf]; omega
            · have hpn : p < n := by omega
              obtain ⟨z2, hz2', e6⟩ := hoB.get hpn
              have f6 := hoB.free p
              simp only [Int.natCast_add, Int.natCast_one, Int.natCast_zero] at d0 d1
              go_wp2_with (first | (have k1 := hr2; refine wpList_fl rfl rfl rfl rfl rfl ?_; intro r3 d3 hr3) | (refine wpList_fl rfl rfl rfl rfl rfl ?_; intro r2 d2 hr2))
              go_roundw
              case rel =>
                obtain ⟨hW, hU⟩ := hWU.out rw' r2 hrw hr2
                rw [hU] at hr3
                have eB : bAt rs (k + 1) = updE T p (cl .f32 r3) := by
                  rw [hnextB.out, hftB.out]
                  exact stB_f (by rw [hr3, e6.out])
                refine ⟨k + 1, by omega, by go_num, ?_, below_drewN (hb6.setCell hbB _) _⟩
                rw [eB]
                exact (hk5.set hpn rfl).drew _
              case measure => simp [intOf]; omega
            · have hpq : p ≠ q := by omega
              have hpq2 := hpq.symm
              have hpn : p < n := by omega
              have hqn : q < n := by omega
              obtain ⟨z1, hz1', e5⟩ := hoB.get hpn
              obtain ⟨z2, hz2', e6⟩ := hoB.get hqn
              have f5 := hoB.free p
              have f6 := hoB.free q
              simp only [Int.natCast_add, Int.natCast_one] at d0 d1
              go_wp2_with (first | (have k2 := hr3; refine wpList_fl rfl rfl rfl rfl rfl ?_; intro r4 d4 hr4) | (have k1 := hr2; refine wpList_fl rfl rfl rfl rfl rfl ?_; intro r3 d3 hr3) | (refine wpList_fl rfl rfl rfl rfl rfl ?_; intro r2 d2 hr2))
              go_roundw
              case rel =>
                obtain ⟨hW, hU⟩ := hWU.out rw' r2 hrw hr2
                rw [hU] at hr3 hr4
                have eB : bAt rs (k + 1) = updE (updE T p (cl .f32 r3)) q (cl .f32 r4) := by
                  rw [hnextB.out, hftB.out]
                  exact stB_both hpq2 (by rw [hr3, e5.out]) (by rw [hr4, e6.out])
                refine ⟨k + 1, by omega, by go_num, ?_, below_drewN ((hb6.setCell hbB _).setCell hbB _) _⟩
                rw [eB]
                exact ((hk5.set hpn rfl).set hqn rfl).drew _
              case measure => simp [intOf]; omega
          · obtain rfl : k = len := by omega
            obtain ⟨us, rest, hul, huc, huo⟩ := hbk.oS
            obtain ⟨vs, rest', hvl, hvc, hvo⟩ := hbk.oB
            have hgs : wi.cell? ⟨gs, 0, none⟩ = some (.slice (some ⟨g, 0, none⟩) m m) := hbk.os.at rfl
            rw [← hl] at huc hvc
            have hFq : FlS wi (some ⟨g, 0, none⟩) m us := ⟨hul, by omega, .inr ⟨g, 0, rfl, huo.lt, fun t ht => by rw [Nat.zero_add]; exact huo.at (by rw [List.getElem?_append_left (by rw [fls_len]; omega)]; exact fls_get (by omega))⟩⟩
            have hFb : FlS wi (some ⟨gb, 0, none⟩) n vs := ⟨hvl, by omega, .inr ⟨gb, 0, rfl, hvo.lt, fun t ht => by rw [Nat.zero_add]; exact hvo.at (by rw [List.getElem?_append_left (by rw [fls_len]; omega)]; exact fls_get (by omega))⟩⟩
            have cs := implSolveEven (some ⟨g, 0, none⟩) (some ⟨gb, 0, none⟩) m m n n us vs wi hFq hFb
            have hwq : us.map (cl .f32) = (qsQ n rs).map (cl .f32) := by unfold qsQ; rw [← HM.out]; exact words_of hul huc
            have hwb : vs.map (cl .f32) = (bsQ n rs).map (cl .f32) := words_of hvl hvc
            have hsol := solve_alike (m := m) (n := n) hwq hwb
            rw [hsol.1, hsol.2] at cs
            have hokQ : Hid (okQ rs ((n : Int) + 1) = (okS m n (qsQ n rs) (bsQ n rs) && isNum .f32 (sumQ n rs))) := Lib.hid (by unfold okQ; rw [hnn, harg, Bool.true_and, ← HM.out])
            have hhs : Hid (hsQ n rs = 0 :: outS m n (qsQ n rs) (bsQ n rs)) := Lib.hid (by unfold hsQ; rw [← HM.out])
            have hlenS := Lib.hid (outS_len (m := m) (n := n) (qs := qsQ n rs) (bs := bsQ n rs))
            clear huc hvc huo hvo hFq hFb hsol hul hvl hwq hwb hbk
            cases hok : okS m n (qsQ n rs) (bsQ n rs) with
            | false =>
              rw [hok] at cs hokQ
              have e := hokQ.out
              rw [Bool.false_and] at e
              go_wp2_with (go_at_call 39; refine cs.mono ?_; intro e w3 he; obtain ⟨ax, cx, he, hMx, hb3⟩ := he; subst he)
              exact bodyPost_ret (by simp [results, Try.results21, go_sem]) rfl (NewQ.no e (hb.trans (hb3.mono hb.size)))
            | true =>
              have hln := hlenS.out hok
              rw [hok, Bool.true_and] at hokQ
              rw [hok] at cs
              generalize outS m n (qsQ n rs) (bsQ n rs) = xs at *
              go_wp2_with fail
              refine cs.mono ?_
              intro e w3 he
              obtain ⟨ax, cx, he, hMx, hb3⟩ := he
              subst he
              have hB3 := hb.trans (hb3.mono hb.size)
              obtain ⟨hx1, hx2, hx3⟩ := hMx
              rcases hx3 with hx3 | ⟨gx, restx, rfl, hgx, hox⟩
              · omega
              have hrow1 := row_one (E := 37) w3 hB3.size (.float .f32 0)
              have hcells := fun j u (hj : (fls xs)[j]? = some u) => fls_cells (hox.alloc (.cells #[.float .f32 0] 37)) j u hj
              have hBl3 := hB3.size
              go_wp2_with (at_builtin; refine wpList_append_lies _ rfl (.tmp 119) (.tmp 120) 36 rfl w.heap.size 37 i0 (.float .f32 0) 1 4 Try.underlying36 hi hz0 hz1 hz2 rfl (by decide) (.slice (some ⟨w3.heap.size, 0, none⟩) 1 1) 1 [.float .f32 0] rfl hrow1 ⟨gx, 0, none⟩ n cx (fls xs) rfl (by rw [fls_len, hln, Nat.mul_one]) hcells (fls_one xs) (by omega) (by unfold maxLen; omega) (by omega) (by simp; omega) (w3.heap.size + 1) (by simp) ?_; intro gh ch w4 hown hgrow hat hlt4)
              have hb4 : Below w.heap.size w w4 := (hB3.alloc hBl3 _).grown hgrow (by simp; omega) fun q hq => by simp [Value.ownBlock] at hq; omega
              have hrow4 : w4.ownsRow w.heap.size 37 1 (.slice (some ⟨gh, 0, none⟩) (1 + n) ch) (1 + n) (fls (hsQ n rs)) := by
                rw [hhs.out]
                exact hown
              have hM4 := (MineV.of_row hrow4 (by omega)).2
              have hF4 := hM4.fls
              have hhl : (hsQ n rs).length = 1 + n := hF4.1
              obtain ⟨gh', ch', resth, eh, hgh, hoh⟩ := row_ownF hrow4 (by omega)
              simp only [Value.slice.injEq, Option.some.injEq, Addr.mk.injEq, and_true, true_and] at eh
              obtain ⟨rfl, rfl⟩ := eh
              have hRi := h.below hb4
              clear hown hgrow hat hlt4 hrow1 hcells hB3 hb3 cs hhs hlenS hF4
              go_wp2
              go_loopw [18, 124] (fun s i wr => ∃ (j z : Nat), j ≤ k ∧ i = .int .i64 (j : Int) ∧ s = .float .f32 z ∧ Hid (cl .f32 z = allAt rs (clsOf (hsQ n rs)) j) ∧ Below w4.heap.size w4 wr) (fun _ i _ => k - (intOf i).toNat)
              case atStart => exact ⟨0, 0, Nat.zero_le _, rfl, rfl, cl_zero _, Below.refl _ _⟩
              case round =>
                obtain ⟨j, z, hj, rfl, rfl, hz, hbw⟩ := hrel
                generalize wr = wi at *
                by_cases hltj : j < k
                · obtain ⟨b, off, r, e, hbb, ⟨c0, c1, c2, c3⟩, hrk⟩ := (hRi.below hbw).get hltj
                  subst e
                  obtain ⟨f, t, ef, et, hf, ht, hft, hsb, hlb⟩ := rise_of hr (by omega) hrk.out
                  rw [ef] at c0
                  rw [et] at c1
                  have ht' : t < 1 + n := by omega
                  have hf' : f < 1 + n := by omega
                  have ht2 : (t : Int) < 1 + (n : Int) := by omega
                  have hf2 : (f : Int) < 1 + (n : Int) := by omega
                  have hbx := fun vs => hbw.alloc hbw.size (.cells vs 59)
                  have hohx := fun vs => hoh.below (hbx vs)
                  have hbox := fun vs => Own.new wi vs 59
                  have hmiss : Hid (missF r (clsOf (hsQ n rs)) = ab .sub .f32 (cl .f32 (floatOfInt .f32 r.s)) (ab .sub .f32 (cl .f32 ((hsQ n rs).getD t 0)) (cl .f32 ((hsQ n rs).getD f 0)))) := Lib.hid (by unfold missF clsOf; rw [ef, et, Int.toNat_natCast, Int.toNat_natCast])
                  have hstep : Hid (allAt rs (clsOf (hsQ n rs)) (j + 1) = ab .add .f32 (allAt rs (clsOf (hsQ n rs)) j) (ab .mul .f32 (ab .mul .f32 (wF r) (missF r (clsOf (hsQ n rs)))) (missF r (clsOf (hsQ n rs))))) := Lib.hid (by
                    show ab .add .f32 _ (ab .mul .f32 (ab .mul .f32 (wF (rs.getD j default)) (missF (rs.getD j default) _)) (missF (rs.getD j default) _)) = _
                    rw [hrk.out])
                  have hwF : Hid (wF r = ab .quo .f32 (cl .f32 1065353216) (cl .f32 (floatOfInt .f32 r.l))) := Lib.hid rfl
                  generalize r.s = rs' at *
                  generalize r.l = rl at *
                  clear ef et hrk
                  go_wp2_with (refine wpList_fl rfl rfl rfl rfl rfl ?_; intro rw' dw hrw)
                  have hx1 := (hbox [.int .i64 (f : Int), .int .i64 (t : Int), .int .i64 rs', .int .i64 rl]).drew dw
                  have hoh1 := (hohx #[.int .i64 (f : Int), .int .i64 (t : Int), .int .i64 rs', .int .i64 rl]).drew dw
                  have hbx1 := below_drewN (hbx #[.int .i64 (f : Int), .int .i64 (t : Int), .int .i64 rs', .int .i64 rl]) dw
                  clear hbox hohx hbx c0 c1 c2 c3
                  generalize wi.heap.size = gr at *
                  generalize ((wi.alloc (.cells #[.int .i64 (f : Int), .int .i64 (t : Int), .int .i64 rs', .int .i64 rl] 59)).drewN dw) = wd at *
                  have d0 : wd.cell? ⟨gr, 0, none⟩ = some (.int .i64 (f : Int)) := hx1.at rfl
                  have d1 : wd.cell? ⟨gr, 1, none⟩ = some (.int .i64 (t : Int)) := hx1.at rfl
                  have d2 : wd.cell? ⟨gr, 2, none⟩ = some (.int .i64 rs') := hx1.at rfl
                  have k1 : wd.cell? ⟨gh, t, none⟩ = some (.float .f32 ((hsQ n rs).getD t 0)) := hoh1.at (by rw [List.getElem?_append_left (by rw [fls_len]; omega)]; exact fls_get (by omega))
                  have k2 : wd.cell? ⟨gh, f, none⟩ = some (.float .f32 ((hsQ n rs).getD f 0)) := hoh1.at (by rw [List.getElem?_append_left (by rw [fls_len]; omega)]; exact fls_get (by omega))
                  generalize (hsQ n rs).getD t 0 = yt at *
                  generalize (hsQ n rs).getD f 0 = yf at *
                  have hD : Hid (∀ q, Below w4.heap.size w4 (wd.drewN q)) := Lib.hid fun q => below_drewN hbx1 q
                  clear hbx1 hx1 hoh1
                  refine QS.wp_region (.bool true) (by kernel_rfl) (by kernel_rfl) ?_
                  iterate 13 (refine QS.det (fun K hK => ?_); go_simp; refine hK _ ?_; clear hK K)
                  refine QS.fl rfl rfl rfl rfl rfl ?_
                  intro r1 hr1
                  refine QS.fl rfl rfl rfl rfl rfl ?_
                  intro r2 hr2
                  refine QS.det (fun K hK => ?_); go_simp; refine hK _ ?_; clear hK K
                  refine QS.nil ?_
                  intro nq
                  have hm2 : Hid (cl .f32 r2 = missF r (clsOf (hsQ n rs))) := Lib.hid (by rw [hmiss.out, hr2, hr1])
                  have hw2 : Hid (cl .f32 rw' = wF r) := Lib.hid (by rw [hwF.out, hrw])
                  clear hr1 hr2 hrw
                  go_wp2_with (first | (have k2 := hr4; refine wpList_fl rfl rfl rfl rfl rfl ?_; intro r5 d5 hr5) | (have k1 := hr3; refine wpList_fl rfl rfl rfl rfl rfl ?_; intro r4 d4 hr4) | (refine wpList_fl rfl rfl rfl rfl rfl ?_; intro r3 d3 hr3))
                  go_roundw
                  case rel => exact ⟨j + 1, r5, by omega, by go_num, rfl, Lib.hid (by rw [hstep.out, hr5, hr4, hr3, hz.out, hm2.out, hw2.out]), hD.out _⟩
                  case measure => simp [intOf]; omega
                · obtain rfl : j = k := by omega
                  rw [← hl] at hz
                  have hz' : Hid (cl .f32 z = sumQ n rs) := hz
                  have cF := fun W => isFin z W
                  rw [hz'.out] at cF
                  have hbd := hb4.trans (hbw.mono hb4.size)
                  have hMd : MineV 37 w.heap.size wi (some ⟨gh, 0, none⟩) (1 + n) (fls (hsQ n rs)) := hM4.below hbw
                  cases hfin : isNum .f32 (sumQ n rs) with
                  | false =>
                    rw [hfin] at cF hokQ
                    have e := hokQ.out
                    go_wp2_with (go_at_call 56; refine (cF _).mono ?_; rintro e w' ⟨rfl, d2, rfl⟩)
                    exact bodyPost_ret (by simp [results, Try.results21, go_sem]) rfl (NewQ.no e (below_drewN hbd _))
                  | true =>
                    rw [hfin] at cF hokQ
                    have e := hokQ.out
                    go_wp2_with (go_at_call 56; refine (cF _).mono ?_; rintro e w' ⟨rfl, d2, rfl⟩)
                    refine bodyPost_ret (v := .tuple #[.slice (some ⟨gh, 0, none⟩) (1 + n) ch, .float .f32 z, .bool true]) (by simp [results, Try.results21, go_sem]) rfl ?_
                    unfold outQ allQ
                    rw [e, if_pos rfl, if_pos rfl, hnn]
                    exact ⟨some ⟨gh, 0, none⟩, ch, z, by rw [hhl], hz'.out, by rw [hhl]; exact hMd.below (below_drewN (Below.refl _ _) d2), below_drewN hbd d2⟩
end Go.Proofs.Ytikdagkopalojaa
