/-
  The first list of few colours: the program's words, whole.
-/
import Derived.Test.YtpebibhnaopbnaaFew2
namespace Go.Proofs.Ytpebibhnaopbnaa
open Go.RowKit Go.Shelf

theorem Rds.base {w : World} {G0 n g : Nat} {ps : List Int} (h : Rds w G0 n ps g) : Rds0 w G0 n ps :=
  ⟨h.lt, fun i hi => by obtain ⟨a, cap, h1, h2, _⟩ := h.row i hi; exact ⟨a, cap, h1, h2⟩⟩
/-- The state of FewColours: the colours lie in block g; three variables are boxed. -/
structure FewS (w wr : World) (ps : List Int) (N M G0 g Bm Bo Bc : Nat) (cs : List Int) : Prop where
  bel : Below w.heap.size w wr
  own : Own 2 wr g (ints cs)
  rds : Rds wr G0 N ps g
  gB : w.heap.size ≤ g
  nm : g ≠ Bm
  no : g ≠ Bo
  nc : g ≠ Bc
  lm : Bm < wr.heap.size
  lo : Bo < wr.heap.size
  lc : Bc < wr.heap.size
  cm : wr.cell? ⟨Bm, 0, none⟩ = some (.int .i64 (M : Int))
  co : wr.cell? ⟨Bo, 0, none⟩ = some (.slice (some ⟨G0, 0, none⟩) N N)
  cc : wr.cell? ⟨Bc, 0, none⟩ = some (.slice (some ⟨g, 0, none⟩) N N)
section
variable {w wr w1 : World} {ps : List Int} {N M G0 g Bm Bo Bc : Nat} {cs : List Int}
theorem FewS.next (h : FewS w wr ps N M G0 g Bm Bo Bc cs) (hb : Below wr.heap.size wr w1) : FewS w w1 ps N M G0 g Bm Bo Bc cs :=
  ⟨h.bel.trans (hb.mono h.bel.size), h.own.below hb, h.rds.next hb, h.gB, h.nm, h.no, h.nc, Nat.lt_of_lt_of_le h.lm hb.size, Nat.lt_of_lt_of_le h.lo hb.size, Nat.lt_of_lt_of_le h.lc hb.size,
    (hb.cell (p := ⟨Bm, 0, none⟩) h.lm).trans h.cm, (hb.cell (p := ⟨Bo, 0, none⟩) h.lo).trans h.co, (hb.cell (p := ⟨Bc, 0, none⟩) h.lc).trans h.cc⟩
theorem FewS.drew (h : FewS w wr ps N M G0 g Bm Bo Bc cs) : FewS w wr.drew ps N M G0 g Bm Bo Bc cs := h.next (below_drewN (Below.refl _ _) 1)
theorem FewS.put (h : FewS w wr ps N M G0 g Bm Bo Bc cs) (k : Nat) (x : Int) : FewS w (wr.setCell ⟨g, k, none⟩ (.int .i64 x)) ps N M G0 g Bm Bo Bc (cs.set k x) := by
  have hg := alt_set (alt_refl wr g) k (.int .i64 x)
  have ho := h.own.set k (.int .i64 x)
  rw [ints_set] at ho
  have h1 := h.nm
  have h2 := h.no
  have h3 := h.nc
  exact ⟨h.bel.setCell h.gB _, ho, h.rds.alt hg, h.gB, h1, h2, h3, Nat.lt_of_lt_of_le h.lm hg.size, Nat.lt_of_lt_of_le h.lo hg.size, Nat.lt_of_lt_of_le h.lc hg.size,
    hg.cell h.cm (by simp; omega), hg.cell h.co (by simp; omega), hg.cell h.cc (by simp; omega)⟩
end

set_option maxRecDepth 8000 in
set_option maxHeartbeats 4000000 in
theorem implFew (n : Int) (a : Option Addr) (len cap : Nat) (ps : List Int) (most : Int) (w : World) (h : InS w a len ps) :
    Calls Try.prog 8 #[.int .i64 n, .slice a len cap, .int .i64 most] w (NewL (few n ps most) w) := by
  have c1 := inI n 1 16
  have c3 := inI most 1 4
  have hl := Lib.hid h.size
  have hA : ∀ o, Below w.heap.size w (w.alloc o) := fun o => (Below.refl _ _).alloc (Nat.le_refl _) o
  cases hb1 : inB n 1 16 with
  | false =>
    rw [hb1] at c1
    rw [few_no (.inl hb1)]
    go_enter Try.func8, Try.ntmps8
    go_wp2_with (go_at_call 19; refine (c1 _).mono ?_; rintro e w' ⟨rfl, rfl⟩)
    exact bodyPost_ret (by simp [results, Try.results8, go_sem]) rfl (NewL.no (hA _))
  | true =>
    have hn : 1 ≤ n ∧ n ≤ 16 := of_decide_eq_true hb1
    rw [hb1] at c1
    cases hb3 : inB most 1 4 with
    | false =>
      rw [hb3] at c3
      rw [few_no (.inr (.inl hb3))]
      go_enter Try.func8, Try.ntmps8
      go_wp2_with (first | (go_at_call 19; (with_reducible refine (c1 _).mono ?_); rintro e w' ⟨rfl, rfl⟩) | (go_at_call 19; (with_reducible refine (c3 _).mono ?_); rintro e w' ⟨rfl, rfl⟩))
      exact bodyPost_ret (by simp [results, Try.results8, go_sem]) rfl (NewL.no (hA _))
    | true =>
      have hm : 1 ≤ most ∧ most ≤ 4 := of_decide_eq_true hb3
      rw [hb3] at c3
      have c2 := fun o => arePairs n (by omega) a len cap ps (w.alloc o) (h.below (hA o))
      cases hb2 : pairsB n ps with
      | false =>
        rw [hb2] at c2
        rw [few_no (.inr (.inr hb2))]
        go_enter Try.func8, Try.ntmps8
        go_wp2_with (first | (go_at_call 19; (with_reducible refine (c1 _).mono ?_); rintro e w' ⟨rfl, rfl⟩) | (go_at_call 19; (with_reducible refine (c3 _).mono ?_); rintro e w' ⟨rfl, rfl⟩) | (go_at_call 20; refine (c2 _).mono ?_; rintro e w' ⟨rfl, d, rfl⟩))
        exact bodyPost_ret (by simp [results, Try.results8, go_sem]) rfl (NewL.no (below_drewN (hA _) _))
      | true =>
        rw [hb2] at c2
        have hfew : few n ps most = first ps most.toNat n.toNat 0 (bare n.toNat) := by unfold few; rw [hb1, hb2, hb3]; rfl
        rw [hfew]
        obtain ⟨N, rfl⟩ : ∃ N : Nat, n = (N : Int) := ⟨n.toNat, by omega⟩
        obtain ⟨M, rfl⟩ : ∃ M : Nat, most = (M : Int) := ⟨most.toNat, by omega⟩
        simp only [Int.toNat_natCast]
        clear hfew hb1 hb3
        go_enter Try.func8, Try.ntmps8
        go_upto_region 3 with (first | (go_at_call 19; (with_reducible refine (c1 _).mono ?_); rintro e w' ⟨rfl, rfl⟩) | (go_at_call 19; (with_reducible refine (c3 _).mono ?_); rintro e w' ⟨rfl, rfl⟩) | (go_at_call 20; refine (c2 _).mono ?_; rintro e w' ⟨rfl, d, rfl⟩))
        have hm0 : ((w.alloc (.cells #[.int .i64 (M : Int)] 2)).drewN d).cell? ⟨w.heap.size, 0, none⟩ = some (.int .i64 (M : Int)) := by simp
        have hs0 : w.heap.size < ((w.alloc (.cells #[.int .i64 (M : Int)] 2)).drewN d).heap.size := by simp
        have hb0 : Below w.heap.size w ((w.alloc (.cells #[.int .i64 (M : Int)] 2)).drewN d) := below_drewN (hA _) d
        generalize ((w.alloc (.cells #[.int .i64 (M : Int)] 2)).drewN d) = w0 at *
        clear c1 c2 c3
        have hpart := partners N (by omega) a len cap ps hb2 w0 (h.below hb0)
        go_upto_region 4 with (go_at_call 21; refine hpart.mono ?_; rintro e w1 ⟨G0, V, rfl, hP⟩)
        have hr2 := (hP.rds (by have := (pairs_len hb2).1; omega)).next ((Below.refl _ _).alloc (Nat.le_refl _) (.cells #[.slice (some ⟨G0, 0, none⟩) N N] 36))
        have hco2 : (w1.alloc (.cells #[.slice (some ⟨G0, 0, none⟩) N N] 36)).cell? ⟨w1.heap.size, 0, none⟩ = some (.slice (some ⟨G0, 0, none⟩) N N) := by simp
        have hlo2 : w1.heap.size < (w1.alloc (.cells #[.slice (some ⟨G0, 0, none⟩) N N] 36)).heap.size := by simp
        have hb2' : Below w0.heap.size w0 (w1.alloc (.cells #[.slice (some ⟨G0, 0, none⟩) N N] 36)) := hP.bel.alloc hP.bel.size _
        generalize w1.alloc (.cells #[.slice (some ⟨G0, 0, none⟩) N N] 36) = w2 at *
        generalize w1.heap.size = Bo at *
        have hcm2 := (hb2'.cell (p := ⟨w.heap.size, 0, none⟩) hs0).trans hm0
        have hlm2 := Nat.lt_of_lt_of_le hs0 hb2'.size
        have hbw2 := hb0.trans (hb2'.mono hb0.size)
        clear hP hb0 hm0 hs0 hpart hb2'
        have hrep := repeat1 N (by omega) w2.heap.size 1 (w2.alloc (.cells #[.int .i64 (-1)] 2)) (by simp) (by simp)
        go_upto_region 5 with (go_at_call 22; refine hrep.mono ?_; rintro e w3 ⟨g, rfl, hg, hog, hb3⟩)
        have hb23 : Below w2.heap.size w2 w3 := ((Below.refl _ _).alloc (Nat.le_refl _) _).trans (hb3.mono (by simp))
        have hg2 : w2.heap.size ≤ g := by simp at hg; omega
        have hgl := hog.lt
        have hA4 : Below w3.heap.size w3 (w3.alloc (.cells #[.slice (some ⟨g, 0, none⟩) N N] 22)) := (Below.refl _ _).alloc (Nat.le_refl _) _
        have hb24 := hb23.trans (hA4.mono hb23.size)
        have hF : FewS w (w3.alloc (.cells #[.slice (some ⟨g, 0, none⟩) N N] 22)) ps N M G0 g w.heap.size Bo w3.heap.size (bare N) :=
          ⟨hbw2.trans (hb24.mono hbw2.size), hog.below hA4, hr2.from hb24 hg2, by have := hbw2.size; omega, by omega, by omega, by omega, Nat.lt_of_lt_of_le hlm2 hb24.size, Nat.lt_of_lt_of_le hlo2 hb24.size, by simp, (hb24.cell (p := ⟨w.heap.size, 0, none⟩) hlm2).trans hcm2, (hb24.cell (p := ⟨Bo, 0, none⟩) hlo2).trans hco2, by simp⟩
        clear hb23 hg2 hgl hA4 hb24 hrep hb3 hog hr2 hco2 hcm2 hbw2 hlm2 hlo2 hg
        generalize hw4 : w3.alloc (.cells #[.slice (some ⟨g, 0, none⟩) N N] 22) = w4 at *
        clear hw4
        generalize w3.heap.size = Bc at *
        have hcc4 := hF.cc
        go_wp2
        generalize hBm : w.heap.size = Bm at *
        go_loopw [35] (fun i wr => ∃ (k : Nat) (cs : List Int), k ≤ N ∧ i = .int .i64 (k : Int) ∧ FewS w wr ps N M G0 g Bm Bo Bc cs ∧ cs.length = N ∧ Bare k cs ∧ Hid (first ps M N 0 (bare N) = first ps M (N - k) k cs)) (fun i _ => N - (intOf i).toNat)
        case atStart => exact ⟨0, bare N, Nat.zero_le _, rfl, hF, bare_len N, bare_bare N, Eq.refl (first ps M N 0 (bare N))⟩
        case round =>
          obtain ⟨k, cs, hk, rfl, hF', hcs, hbare, hfirst⟩ := hrel
          clear hF hcc4
          by_cases hlt : k < N
          · obtain ⟨oa, ocap, hrow0, hoI0, _⟩ := hF'.rds.row k hlt
            have hneg : ∀ i : Nat, i < N → G cs i < 0 → G cs i = -1 := fun i hi h0 => by
              by_cases e : k ≤ i
              · exact (hbare i (by omega)).1 e
              · have := (hbare i (by omega)).2 (by omega); omega
            go_upto_region 8 with fail
            have hA5 : Below wr.heap.size wr (wr.alloc (.cells #[.int .i64 (k : Int)] 3)) := (Below.refl _ _).alloc (Nat.le_refl _) _
            have hF5 := hF'.next hA5
            have hci : (wr.alloc (.cells #[.int .i64 (k : Int)] 3)).cell? ⟨wr.heap.size, 0, none⟩ = some (.int .i64 (k : Int)) := by simp
            have hil : wr.heap.size < (wr.alloc (.cells #[.int .i64 (k : Int)] 3)).heap.size := by simp
            have hrow := (hA5.cell (p := ⟨G0, k, none⟩) hF'.rds.lt).trans hrow0
            have hoI := hoI0.below hA5
            generalize hw5 : wr.alloc (.cells #[.int .i64 (k : Int)] 3) = w5 at *
            clear hw5 hA5 hF' hrow0 hoI0
            generalize wr.heap.size = Bi at *
            have hch := choices N M (by omega) oa (some ⟨g, 0, none⟩) (nb ps k).length ocap N (nb ps k) cs w5.drew hoI (by
              have := InS.of_row (rest := []) (by rw [List.append_nil]; exact hF5.own) (by omega : cs.length ≤ 1048576)
              rw [hcs] at this
              exact this) (fun x hx => by have := nb_range hb2 hx; omega)
--LOOP
            refine region_till (fun W => W.cell? ⟨Bo, 0, none⟩ = some (.slice (some ⟨G0, 0, none⟩) N N) ∧ W.cell? ⟨Bi, 0, none⟩ = some (.int .i64 (k : Int)) ∧ W.cell? ⟨Bc, 0, none⟩ = some (.slice (some ⟨g, 0, none⟩) N N) ∧ W.cell? ⟨Bm, 0, none⟩ = some (.int .i64 (M : Int)) ∧ W.cell? ⟨G0, k, none⟩ = some (.slice oa (nb ps k).length ocap)) 7 (by kernel_rfl) ?_
            have hS0 : (fun W : World => W.cell? ⟨Bo, 0, none⟩ = some (.slice (some ⟨G0, 0, none⟩) N N) ∧ W.cell? ⟨Bi, 0, none⟩ = some (.int .i64 (k : Int)) ∧ W.cell? ⟨Bc, 0, none⟩ = some (.slice (some ⟨g, 0, none⟩) N N) ∧ W.cell? ⟨Bm, 0, none⟩ = some (.int .i64 (M : Int)) ∧ W.cell? ⟨G0, k, none⟩ = some (.slice oa (nb ps k).length ocap)) w5.drew := ⟨hF5.co, hci, hF5.cc, hF5.cm, hrow⟩
            refine anyTill.take (i := 0) (v := .slice (some ⟨G0, 0, none⟩) N N) rfl (by kernel_rfl) (by kernel_rfl) (by kernel_rfl) (by kernel_rfl) (fun _ _ _ h => h) hS0 (by rfl) (by intro w hSw; obtain ⟨s0, s1, s2, s3, s4⟩ := hSw; go_simp) ?_
            try simp only [Act.put, List.setIfInBounds_toArray, List.set_cons_zero, List.set_cons_succ]
            refine anyTill.take (i := 1) (v := .int .i64 (k : Int)) rfl (by kernel_rfl) (by kernel_rfl) (by kernel_rfl) (by kernel_rfl) (fun _ _ _ h => h) hS0 (by rfl) (by intro w hSw; obtain ⟨s0, s1, s2, s3, s4⟩ := hSw; go_simp) ?_
            try simp only [Act.put, List.setIfInBounds_toArray, List.set_cons_zero, List.set_cons_succ]
            refine anyTill.take0 (i := 2) (v := .pointer (some ⟨G0, k, none⟩)) rfl (by kernel_rfl) (by kernel_rfl) (by kernel_rfl) (by kernel_rfl) (fun _ _ _ h => h) (fun _ => hS0) (by rfl) (by intro w; go_simp) ?_
            try simp only [Act.put, List.setIfInBounds_toArray, List.set_cons_zero, List.set_cons_succ]
            refine anyTill.take (i := 3) (v := .slice oa (nb ps k).length ocap) rfl (by kernel_rfl) (by kernel_rfl) (by kernel_rfl) (by kernel_rfl) (fun _ _ _ h => h) hS0 (by rfl) (by intro w hSw; obtain ⟨s0, s1, s2, s3, s4⟩ := hSw; go_simp) ?_
            try simp only [Act.put, List.setIfInBounds_toArray, List.set_cons_zero, List.set_cons_succ]
            refine anyTill.take (i := 4) (v := .slice (some ⟨g, 0, none⟩) N N) rfl (by kernel_rfl) (by kernel_rfl) (by kernel_rfl) (by kernel_rfl) (fun _ _ _ h => h) hS0 (by rfl) (by intro w hSw; obtain ⟨s0, s1, s2, s3, s4⟩ := hSw; go_simp) ?_
            try simp only [Act.put, List.setIfInBounds_toArray, List.set_cons_zero, List.set_cons_succ]
            refine anyTill.take (i := 5) (v := .int .i64 (M : Int)) rfl (by kernel_rfl) (by kernel_rfl) (by kernel_rfl) (by kernel_rfl) (fun _ _ _ h => h) hS0 (by rfl) (by intro w hSw; obtain ⟨s0, s1, s2, s3, s4⟩ := hSw; go_simp) ?_
            try simp only [Act.put, List.setIfInBounds_toArray, List.set_cons_zero, List.set_cons_succ]
            refine anyTill.ready (rs := [6]) (by kernel_rfl) (by simp) ?_
            refine ReadyTill.cons rfl (fun K hK => ?_) ReadyTill.nil
            go_simp
            refine hch.mono ?_
            rintro e w6 ⟨la, lc, rfl, hML, hb6⟩
            replace hb6 : Below w5.heap.size w5 w6 := below_of_drewN (d := 1) hb6
            have hF6 := hF5.next hb6
            have hci6 := (hb6.cell (p := ⟨Bi, 0, none⟩) hil).trans hci
            have hil6 := Nat.lt_of_lt_of_le hil hb6.size
            have hrow6 := (hb6.cell (p := ⟨G0, k, none⟩) hF5.rds.lt).trans hrow
            go_simp
            refine hK _ _ (fun _ => ⟨hF6.co, hci6, hF6.cc, hF6.cm, hrow6⟩) ?_
            clear hK K hS0 hch
            try simp only [Act.put, List.setIfInBounds_toArray, List.set_cons_zero, List.set_cons_succ]
            refine anyTill.ready (rs := [7]) (by kernel_rfl) (by simp) ?_
            refine ReadyTill.cons rfl (fun K hK => ?_) ReadyTill.nil
            go_simp
            refine hK _ _ (fun h => absurd h (by simp)) ?_
            clear hK K
            try simp only [Act.put, List.setIfInBounds_toArray, List.set_cons_zero, List.set_cons_succ]
            refine anyTill.done (by kernel_rfl) ?_ _
            have hidx := indexFunc 25 #[.pointer (some ⟨Bc, 0, none⟩), .pointer (some ⟨Bi, 0, none⟩), .pointer (some ⟨Bo, 0, none⟩), .pointer (some ⟨Bm, 0, none⟩)] (fun x => satB ps M (cs.set k x)) (enters_of Try.func25 (by kernel_rfl) rfl) la (chs (nb ps k) cs M).length lc (chs (nb ps k) cs M) w6 hML.ins (tryColour N (by omega) M (by omega) ps hb2 G0 N g N k Bc Bi Bo Bm cs w6 hcs hneg hlt hF6.own hF6.rds.base hF6.lc hil6 hF6.lo hF6.lm hF6.cc hci6 hF6.co hF6.cm)
            go_upto_region 10 with (go_at_call 24; refine hidx.mono ?_; rintro e w7 ⟨i, rfl, hi, hb7⟩)
            have hF7 := hF6.next hb7
            have hci7 := (hb7.cell (p := ⟨Bi, 0, none⟩) hil6).trans hci6
            have hML7 := hML.below hb7
            clear hidx hML hF6 hci6 hrow6
            rcases pick_idx hi with ⟨rfl, hpk⟩ | ⟨kk, rfl, hkk, hpk⟩
            · have hres : first ps M N 0 (bare N) = none := by rw [hfirst.out, show N - k = (N - (k + 1)) + 1 by omega, first, hpk]
              have hres := Lib.hid hres
              clear hi hpk hfirst
              go_wp2
              refine bodyPost_ret (v := .tuple #[.slice none 0 0, .bool false]) (by simp [results, Try.results8, go_sem]) rfl ?_
              rw [hres.out]
              exact NewL.no hF7.bel
            · have hcol := (pick_some hpk).1
              obtain ⟨lb, loff, x, rfl, hlb, d0, hx⟩ := hML7.ins.get hkk
              rw [hx.out] at hpk hcol
              have hxr := (mem_chs.1 hcol).1
              have hnext : Hid (first ps M N 0 (bare N) = first ps M (N - (k + 1)) (k + 1) (cs.set k x)) := Lib.hid (by rw [hfirst.out, show N - k = (N - (k + 1)) + 1 by omega, first, hpk])
              have hbare' := hbare.step (by omega) hxr.1
              generalize (chs (nb ps k) cs M).length = ll at *
              clear hi hpk hfirst hcol hx
              have hkl : ((kk : Nat) : Int) < (ll : Int) := by omega
              go_upto_region 12 with fail
              refine region_till (fun W => W.cell? ⟨Bc, 0, none⟩ = some (.slice (some ⟨g, 0, none⟩) N N) ∧ W.cell? ⟨Bi, 0, none⟩ = some (.int .i64 (k : Int)) ∧ W.cell? ⟨lb, loff + kk, none⟩ = some (.int .i64 x)) 7 (by kernel_rfl) ?_
              have hS1 : (fun W : World => W.cell? ⟨Bc, 0, none⟩ = some (.slice (some ⟨g, 0, none⟩) N N) ∧ W.cell? ⟨Bi, 0, none⟩ = some (.int .i64 (k : Int)) ∧ W.cell? ⟨lb, loff + kk, none⟩ = some (.int .i64 x)) w7.drew := ⟨hF7.cc, hci7, d0⟩
              refine anyTill.take (i := 0) (v := .slice (some ⟨g, 0, none⟩) N N) rfl (by kernel_rfl) (by kernel_rfl) (by kernel_rfl) (by kernel_rfl) (fun _ _ _ h => h) hS1 (by rfl) (by intro w hSw; obtain ⟨s0, s1, s2⟩ := hSw; go_simp) ?_
              try simp only [Act.put, List.setIfInBounds_toArray, List.set_cons_zero, List.set_cons_succ]
              refine anyTill.take (i := 1) (v := .int .i64 (k : Int)) rfl (by kernel_rfl) (by kernel_rfl) (by kernel_rfl) (by kernel_rfl) (fun _ _ _ h => h) hS1 (by rfl) (by intro w hSw; obtain ⟨s0, s1, s2⟩ := hSw; go_simp) ?_
              try simp only [Act.put, List.setIfInBounds_toArray, List.set_cons_zero, List.set_cons_succ]
              refine anyTill.take0 (i := 2) (v := .slice (some ⟨lb, loff, none⟩) ll lc) rfl (by kernel_rfl) (by kernel_rfl) (by kernel_rfl) (by kernel_rfl) (fun _ _ _ h => h) (fun _ => hS1) (by rfl) (by intro w; go_simp) ?_
              try simp only [Act.put, List.setIfInBounds_toArray, List.set_cons_zero, List.set_cons_succ]
              refine anyTill.take0 (i := 3) (v := .int .i64 (kk : Int)) rfl (by kernel_rfl) (by kernel_rfl) (by kernel_rfl) (by kernel_rfl) (fun _ _ _ h => h) (fun _ => hS1) (by rfl) (by intro w; go_simp) ?_
              try simp only [Act.put, List.setIfInBounds_toArray, List.set_cons_zero, List.set_cons_succ]
              refine anyTill.take0 (i := 4) (v := .pointer (some ⟨lb, loff + kk, none⟩)) rfl (by kernel_rfl) (by kernel_rfl) (by kernel_rfl) (by kernel_rfl) (fun _ _ _ h => h) (fun _ => hS1) (by rfl) (by intro w; go_simp) ?_
              try simp only [Act.put, List.setIfInBounds_toArray, List.set_cons_zero, List.set_cons_succ]
              refine anyTill.take (i := 5) (v := .int .i64 x) rfl (by kernel_rfl) (by kernel_rfl) (by kernel_rfl) (by kernel_rfl) (fun _ _ _ h => h) hS1 (by rfl) (by intro w hSw; obtain ⟨s0, s1, s2⟩ := hSw; go_simp) ?_
              try simp only [Act.put, List.setIfInBounds_toArray, List.set_cons_zero, List.set_cons_succ]
              refine anyTill.take0 (i := 6) (v := .pointer (some ⟨g, k, none⟩)) rfl (by kernel_rfl) (by kernel_rfl) (by kernel_rfl) (by kernel_rfl) (fun _ _ _ h => h) (fun _ => hS1) (by rfl) (by intro w; go_simp) ?_
              try simp only [Act.put, List.setIfInBounds_toArray, List.set_cons_zero, List.set_cons_succ]
              refine anyTill.ready (rs := [7]) (by kernel_rfl) (by simp) ?_
              have f0 := hF7.own.free k
              have k0 := hF7.own.at (ints_get (xs := cs) (k := k) (by omega))
              refine ReadyTill.cons rfl (fun K hK => ?_) ReadyTill.nil
              go_simp
              refine hK _ _ (fun h => absurd h (by simp)) ?_
              clear hK K
              try simp only [Act.put, List.setIfInBounds_toArray, List.set_cons_zero, List.set_cons_succ]
              refine anyTill.done (by kernel_rfl) ?_ _
              have hF8 := (hF7.drew.put k x)
              go_wp2
              go_roundw
              case rel => exact ⟨k + 1, cs.set k x, by omega, by go_num, hF8, by simpa using hcs, hbare', hnext⟩
              case measure => simp [intOf]; omega
--POOL
          · obtain rfl : k = N := by omega
            have hres : first ps M k 0 (bare k) = some cs := by rw [hfirst.out, Nat.sub_self]; rfl
            have hres := Lib.hid hres
            have hcc := hF'.cc
            go_wp2
            refine bodyPost_ret (v := .tuple #[.slice (some ⟨g, 0, none⟩) k k, .bool true]) (by simp [results, Try.results8, go_sem]) rfl ?_
            rw [hres.out]
            exact ⟨some ⟨g, 0, none⟩, k, by simp [hcs], ⟨by simp [ints], by simp; omega, .inr ⟨g, [], rfl, hBm ▸ hF'.gB, by rw [List.append_nil]; exact hF'.own⟩⟩, hBm ▸ hF'.bel⟩
end Go.Proofs.Ytpebibhnaopbnaa
