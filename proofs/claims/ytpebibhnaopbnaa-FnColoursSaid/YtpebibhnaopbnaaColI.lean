/-
  Colours for things: the program's words.
-/
import Derived.Test.YtpebibhnaopbnaaStab
import Derived.Test.YtpebibhnaopbnaaPaint
import Derived.Test.YtpebibhnaopbnaaFew2
import Derived.Deep.Cut
import Derived.Deep.DeepCutAuto
namespace Go.Proofs.Ytpebibhnaopbnaa
open Go.RowKit Go.Shelf

def dgr (ps : List Int) (x : Nat) : Nat := (nb ps (x : Int)).length
theorem dgr_le {n : Int} {ps : List Int} (hp : pairsB n ps = true) (x : Nat) : dgr ps x ≤ 100000 :=
  Nat.le_trans (nbTo_len ps (ps.length / 2) x) (by have := (pairs_len hp).1; omega)
/-- Colours for things, where they can be had. -/
def colOf (n : Int) (ps : List Int) : Option (List Int) := if (inB n 1 32 && pairsB n ps) = true then some (paint n.toNat ps (sortD n.toNat (dgr ps)) n.toNat) else none
theorem colOf_no {n : Int} {ps : List Int} (h : inB n 1 32 = false ∨ pairsB n ps = false) : colOf n ps = none := by
  unfold colOf
  rw [if_neg]
  rcases h with h | h <;> simp [h]

theorem infoInt : (Try.prog.info? 3).map (fun i => (i.zero, i.size, i.bytes)) = some (some (.int .i64 0), 1, 8) := by kernel_rfl
theorem mk_i64 {n : Nat} (hn : n ≤ 32) : ∃ cI : Array Value, cI.toList = ints (List.replicate n 0) ∧ ∀ W, (Instr.makeSlice 22 (.int .i64 (n : Int)) (.int .i64 (n : Int))).run Try.prog W = .ok (.slice (some ⟨W.heap.size, 0, none⟩) n n) (W.alloc (.cells cI 2)) := by
  obtain ⟨i0, hi, hz0, hz1, hz2⟩ := info_parts infoI
  refine ⟨madeCells (Value.int .i64 0).cells (n * 1), ints_made n, fun W => ?_⟩
  have := run_make W 22 2 i0 (.int .i64 0) Try.underlying22 hi hz0 .i64 .i64 (n : Int) (n : Int) (by omega) (Int.le_refl _) (by rw [hz2]; omega) (by omega)
  rw [hz1] at this
  simpa using this
theorem mk_int {n : Nat} (hn : n ≤ 32) : ∃ cI : Array Value, cI.toList = ints (List.replicate n 0) ∧ ∀ W, (Instr.makeSlice 44 (.int .i64 (n : Int)) (.int .i64 (n : Int))).run Try.prog W = .ok (.slice (some ⟨W.heap.size, 0, none⟩) n n) (W.alloc (.cells cI 3)) := by
  obtain ⟨i0, hi, hz0, hz1, hz2⟩ := info_parts infoInt
  refine ⟨madeCells (Value.int .i64 0).cells (n * 1), ints_made n, fun W => ?_⟩
  have := run_make W 44 3 i0 (.int .i64 0) Try.underlying44 hi hz0 .i64 .i64 (n : Int) (n : Int) (by omega) (Int.le_refl _) (by rw [hz2]; omega) (by omega)
  rw [hz1] at this
  simpa using this
theorem two (w : World) (c1 c2 : Array Value) (E1 E2 : TypeId) : Own E1 ((w.alloc (.cells c1 E1)).alloc (.cells c2 E2)).drew w.heap.size c1.toList ∧ Own E2 ((w.alloc (.cells c1 E1)).alloc (.cells c2 E2)).drew (w.heap.size + 1) c2.toList := by
  have o1 := Own.new w c1.toList E1
  have o2 := Own.new (w.alloc (.cells c1 E1)) c2.toList E2
  simp only [Array.toArray_toList, World.size_alloc] at o1 o2
  exact ⟨o1.alloc _, o2⟩

theorem Rds.alt2 {w w1 : World} {G0 n g1 g2 : Nat} {ps : List Int} (h : Rds w G0 n ps g1) (k : Rds w G0 n ps g2) (hg : w.grownBy w1 (some g2)) : Rds w1 G0 n ps g1 :=
  ⟨Nat.lt_of_lt_of_le h.lt hg.size, h.ne, fun i hi => by
    obtain ⟨a, cap, h1, h2, h3⟩ := h.row i hi
    obtain ⟨a', cap', k1, k2, k3⟩ := k.row i hi
    rw [h1] at k1
    simp only [Option.some.injEq, Value.slice.injEq] at k1
    obtain ⟨rfl, _, rfl⟩ := k1
    exact ⟨a, cap, hg.cell h1 (by have := k.ne; simp; omega), h2.alt' k3 hg, h3⟩⟩

/-- The state of ColoursOf: the order lies in block gq, the colours in gc; the rows of the partners are named by a variable. -/
structure ColS (w wr : World) (ps : List Int) (N G0 Bo gq gc : Nat) : Prop where
  bel : Below w.heap.size w wr
  rc : Rds wr G0 N ps gc
  rq : Rds wr G0 N ps gq
  co : wr.cell? ⟨Bo, 0, none⟩ = some (.slice (some ⟨G0, 0, none⟩) N N)
  lo : Bo < wr.heap.size
  nq : Bo ≠ gq
  nc : Bo ≠ gc
  qc : gq ≠ gc
  bq : w.heap.size ≤ gq
  bc : w.heap.size ≤ gc
section
variable {w wr w1 : World} {ps : List Int} {N G0 Bo gq gc : Nat}
theorem ColS.next (h : ColS w wr ps N G0 Bo gq gc) (hb : Below wr.heap.size wr w1) : ColS w w1 ps N G0 Bo gq gc :=
  ⟨h.bel.trans (hb.mono h.bel.size), h.rc.next hb, h.rq.next hb, (hb.cell (p := ⟨Bo, 0, none⟩) h.lo).trans h.co, Nat.lt_of_lt_of_le h.lo hb.size, h.nq, h.nc, h.qc, h.bq, h.bc⟩
theorem ColS.altq (h : ColS w wr ps N G0 Bo gq gc) (hg : wr.grownBy w1 (some gq)) : ColS w w1 ps N G0 Bo gq gc :=
  ⟨h.bel.trans (alt_below hg h.bq h.bel.size), h.rc.alt2 h.rq hg, h.rq.alt hg, hg.cell h.co (by have := h.nq; simp; omega), Nat.lt_of_lt_of_le h.lo hg.size, h.nq, h.nc, h.qc, h.bq, h.bc⟩
theorem ColS.altc (h : ColS w wr ps N G0 Bo gq gc) (hg : wr.grownBy w1 (some gc)) : ColS w w1 ps N G0 Bo gq gc :=
  ⟨h.bel.trans (alt_below hg h.bc h.bel.size), h.rc.alt hg, h.rq.alt2 h.rc hg, hg.cell h.co (by have := h.nc; simp; omega), Nat.lt_of_lt_of_le h.lo hg.size, h.nq, h.nc, h.qc, h.bq, h.bc⟩
end

theorem fill_set {xs : List Int} {k n : Nat} {x : Int} (hx : xs.length = k) (hk : k < n) : (xs ++ List.replicate (n - k) 0).set k x = xs ++ [x] ++ List.replicate (n - (k + 1)) 0 := by
  subst hx
  rw [show n - xs.length = (n - (xs.length + 1)) + 1 by omega, List.replicate_succ]
  simp
theorem upTo_len (k : Nat) : (upTo k).length = k := by simp [upTo]
theorem rowL_id (n : Nat) : rowL n (fun p => p) = upTo n := rfl

/-- The comparison of ColoursOf: by how many partners the second has more. -/
theorem moreDegree (N : Nat) (hN : N ≤ 32) (ps : List Int) (hp : pairsB (N : Int) ps = true) (G0 Bo gq : Nat) (w0 : World) (hr : Rds w0 G0 N ps gq) (co : w0.cell? ⟨Bo, 0, none⟩ = some (.slice (some ⟨G0, 0, none⟩) N N)) (hlo : Bo < w0.heap.size) (hne : Bo ≠ gq) :
    CmpD 30 #[.pointer (some ⟨Bo, 0, none⟩)] N (dgr ps) gq w0 := fun W x y hx hy hg => by
  have hr' := hr.alt hg
  have co' := hg.cell co (by simp; omega)
  obtain ⟨a1, cap1, c1, _, _⟩ := hr'.row x hx
  obtain ⟨a2, cap2, c2, _, _⟩ := hr'.row y hy
  have hx1 := dgr_le hp x
  have hy1 := dgr_le hp y
  have hw : IntKind.i64.wrap (((nb ps (y : Int)).length : Int) - ((nb ps (x : Int)).length : Int)) = ((nb ps (y : Int)).length : Int) - ((nb ps (x : Int)).length : Int) := IntWalk.i64_in _ (by unfold dgr at *; omega)
  unfold dgr at *
  generalize (nb ps (x : Int)).length = lx at *
  generalize (nb ps (y : Int)).length = ly at *
  show Calls Try.prog 30 #[.int .i64 (x : Int), .int .i64 (y : Int), .pointer (some ⟨Bo, 0, none⟩)] W _
  go_enter Try.func30, Try.ntmps30
  go_wp2
  go_quiet (fail)
  go_wp2
  go_ret
  exact ⟨rfl, Drew.n _ _⟩

/-- What is asked of the merge, where there is something to merge. -/
def MergeOk (N : Nat) : Prop :=
  20 < N → ∀ (g : Nat) (lb : Array Value) (_ : Goes g) (dg : Nat → Nat) (_ : ∀ x, dg x ≤ 100000) (q c : Nat) (w0 : World) (_ : CmpD g lb N dg q w0) (D : Nat → Nat) (w : World),
    RowS w0 w q N D → InjB N D → SortedOn dg D 0 20 → SortedOn dg D 20 N → Cross D 0 20 N →
      Calls Try.prog 39 #[.slice (some ⟨q, 0, none⟩) N c, .int .i64 0, .int .i64 20, .int .i64 (N : Int), .func (.func g) #[] lb] w (Sorts w0 q N 0 N dg D)

set_option maxRecDepth 8000 in
set_option maxHeartbeats 8000000 in
theorem implColours (n : Int) (a : Option Addr) (len cap : Nat) (ps : List Int) (w : World) (h : InS w a len ps) (hmok0 : n.toNat ≤ 32 → MergeOk n.toNat) :
    Calls Try.prog 13 #[.int .i64 n, .slice a len cap] w (NewL (colOf n ps) w) := by
  have c1 := inI n 1 32
  cases hb1 : inB n 1 32 with
  | false =>
    rw [hb1] at c1
    rw [colOf_no (.inl hb1)]
    clear hmok0
    go_enter Try.func13, Try.ntmps13
    go_wp2_with (go_at_call 19; refine (c1 _).mono ?_; rintro e w' ⟨rfl, rfl⟩)
    exact bodyPost_ret (by simp [results, Try.results13, go_sem]) rfl (NewL.no (Below.refl _ _))
  | true =>
    have hn : 1 ≤ n ∧ n ≤ 32 := of_decide_eq_true hb1
    have hmok := hmok0 (by omega)
    clear hmok0
    rw [hb1] at c1
    have c2 := arePairs n (by omega) a len cap ps w h
    cases hb2 : pairsB n ps with
    | false =>
      rw [hb2] at c2
      rw [colOf_no (.inr hb2)]
      clear hmok
      go_enter Try.func13, Try.ntmps13
      go_wp2_with (first | (go_at_call 19; refine (c1 _).mono ?_; rintro e w' ⟨rfl, rfl⟩) | (go_at_call 20; refine c2.mono ?_; rintro e w' ⟨rfl, d, rfl⟩))
      exact bodyPost_ret (by simp [results, Try.results13, go_sem]) rfl (NewL.no (below_drewN (Below.refl _ _) _))
    | true =>
      rw [hb2] at c2
      have hcol : colOf n ps = some (paint n.toNat ps (sortD n.toNat (dgr ps)) n.toNat) := by unfold colOf; rw [hb1, hb2]; rfl
      rw [hcol]
      obtain ⟨N, rfl⟩ : ∃ N : Nat, n = (N : Int) := ⟨n.toNat, by omega⟩
      simp only [Int.toNat_natCast] at hmok ⊢
      have hmH := Lib.hid hmok
      clear hcol hb1 hmok
      obtain ⟨cI, hcI, hmk1⟩ := mk_int (n := N) (by omega)
      obtain ⟨cJ, hcJ, hmk2⟩ := mk_i64 (n := N) (by omega)
      go_enter Try.func13, Try.ntmps13
      go_upto_region 3 with (first | (go_at_call 19; refine (c1 _).mono ?_; rintro e w' ⟨rfl, rfl⟩) | (go_at_call 20; refine c2.mono ?_; rintro e w' ⟨rfl, d, rfl⟩))
      have hb0 : Below w.heap.size w (w.drewN d) := below_drewN (Below.refl _ _) d
      generalize w.drewN d = w0 at *
      clear c1 c2
      have hpart := partners N (by omega) a len cap ps hb2 w0 (h.below hb0)
      go_upto_region 4 with (go_at_call 21; refine hpart.mono ?_; rintro e w1 ⟨G0, V, rfl, hP⟩)
      have hr2 := (hP.rds (by have := (pairs_len hb2).1; omega)).next ((Below.refl _ _).alloc (Nat.le_refl _) (.cells #[.slice (some ⟨G0, 0, none⟩) N N] 36))
      have hco2 : (w1.alloc (.cells #[.slice (some ⟨G0, 0, none⟩) N N] 36)).cell? ⟨w1.heap.size, 0, none⟩ = some (.slice (some ⟨G0, 0, none⟩) N N) := by simp
      have hlo2 : w1.heap.size < (w1.alloc (.cells #[.slice (some ⟨G0, 0, none⟩) N N] 36)).heap.size := by simp
      have hb2' : Below w0.heap.size w0 (w1.alloc (.cells #[.slice (some ⟨G0, 0, none⟩) N N] 36)) := hP.bel.alloc hP.bel.size _
      generalize w1.alloc (.cells #[.slice (some ⟨G0, 0, none⟩) N N] 36) = w2 at *
      generalize w1.heap.size = Bo at *
      have hbw2 := hb0.trans (hb2'.mono hb0.size)
      have hbs := hbw2.size
      clear hP hb0 hpart hb2'
      have hcs : ∀ (c1 c2 : Array Value) (E1 E2 : TypeId) (gq gc : Nat), (gq = w2.heap.size ∧ gc = w2.heap.size + 1) ∨ (gq = w2.heap.size + 1 ∧ gc = w2.heap.size) → ColS w ((w2.alloc (.cells c1 E1)).alloc (.cells c2 E2)).drew ps N G0 Bo gq gc := fun c1 c2 E1 E2 gq gc hg => by
        have hb3 : Below w2.heap.size w2 ((w2.alloc (.cells c1 E1)).alloc (.cells c2 E2)).drew := below_drewN (((Below.refl _ _).alloc (Nat.le_refl _) _).alloc (by simp) _) 1
        exact ⟨hbw2.trans (hb3.mono hbs), hr2.from hb3 (by omega), hr2.from hb3 (by omega), (hb3.cell (p := ⟨Bo, 0, none⟩) hlo2).trans hco2, Nat.lt_of_lt_of_le hlo2 hb3.size, by omega, by omega, by omega, by omega, by omega⟩
      go_cut [7, 8] (fun s7 s8 wx => ∃ gq gc, s7 = .slice (some ⟨gq, 0, none⟩) N N ∧ s8 = .slice (some ⟨gc, 0, none⟩) N N ∧ ColS w wx ps N G0 Bo gq gc ∧ Own 3 wx gq (ints (List.replicate N 0)) ∧ Own 2 wx gc (ints (List.replicate N 0)))
      case first =>
        go_region_with (fail)
        all_goals
          go_wp2
          go_meet
          refine ⟨_, _, rfl, rfl, hcs _ _ _ _ _ _ (by first | exact .inl ⟨rfl, rfl⟩ | exact .inr ⟨rfl, rfl⟩), ?_, ?_⟩
          · rw [← hcI]; first | exact (two _ _ _ _ _).1 | exact (two _ _ _ _ _).2
          · rw [← hcJ]; first | exact (two _ _ _ _ _).1 | exact (two _ _ _ _ _).2
      case rest =>
        obtain ⟨gq, gc, rfl, rfl, hC, hoq, hoc⟩ := hcut
        clear hmk1 hmk2 hcI hcJ hcs hr2 hco2 hlo2 hbw2 hbs
        generalize wc = wx at *
        go_wp2
        go_loopw [9, 31] (fun _ t wr => ∃ k : Nat, t = .int .i64 (k : Int) ∧ k ≤ N ∧ ColS w wr ps N G0 Bo gq gc ∧ Own 3 wr gq (ints (upTo k ++ List.replicate (N - k) 0)) ∧ Own 2 wr gc (ints (bare k ++ List.replicate (N - k) 0))) (fun _ t _ => N - (intOf t).toNat)
        case atStart => exact ⟨0, rfl, Nat.zero_le _, hC, hoq, hoc⟩
        case round =>
          obtain ⟨k, rfl, hk, hC', hq, hcc⟩ := hrel
          clear hC hoq hoc
          by_cases hlt : k < N
          · have hqc := hC'.qc
            have f1 := hq.free k
            have d1 := hq.at (ints_get (xs := upTo k ++ List.replicate (N - k) 0) (k := k) (by simp [upTo_len]; omega))
            have q2 := hq.set k (.int .i64 (k : Int))
            rw [ints_set, fill_set (upTo_len k) hlt, ← upTo_succ] at q2
            have hC2 := hC'.altq (alt_set (alt_refl wr gq) k (.int .i64 (k : Int)))
            have cc2 : Own 2 (wr.setCell ⟨gq, k, none⟩ (.int .i64 (k : Int))) gc (ints (bare k ++ List.replicate (N - k) 0)) := hcc.other (by simp; omega) _
            have f2 := cc2.free k
            have d2 := cc2.at (ints_get (xs := bare k ++ List.replicate (N - k) 0) (k := k) (by simp [bare_len]; omega))
            have cc3 := cc2.set k (.int .i64 (-1))
            rw [ints_set, fill_set (bare_len k) hlt, ← bare_succ] at cc3
            have q3 : Own 3 ((wr.setCell ⟨gq, k, none⟩ (.int .i64 (k : Int))).setCell ⟨gc, k, none⟩ (.int .i64 (-1))) gq (ints (upTo (k + 1) ++ List.replicate (N - (k + 1)) 0)) := q2.other (by simp; omega) _
            have hC3 := hC2.altc (alt_set (alt_refl _ gc) k (.int .i64 (-1)))
            clear hC' hq hcc q2 cc2 hC2
            go_wp2
            go_roundw
            case rel => exact ⟨k + 1, by go_num, by omega, hC3, q3, cc3⟩
            case measure => simp [intOf]; omega
          · obtain rfl : N = k := by omega
            have hoD : Own 3 wr gq (ints (rowL N fun p => p)) := by
              rw [rowL_id]
              simpa using hq
            have hoC : Own 2 wr gc (ints (bare N)) := by simpa using hcc
            have hcmp := moreDegree N (by omega) ps hb2 G0 Bo gq wr hC'.rq hC'.co hC'.lo hC'.nq
            have hid : InjB N fun p => p := ⟨fun i hi => hi, fun i j _ _ e => e⟩
            have hsort := sortStable 30 #[.pointer (some ⟨Bo, 0, none⟩)] (enters_of Try.func30 (by kernel_rfl) rfl) N (by omega) (dgr ps) (dgr_le hb2) gq N wr hcmp (fun h20 => hmH.out h20 _ _ (enters_of Try.func30 (by kernel_rfl) rfl) _ (dgr_le hb2) _ _ _ hcmp) (fun p => p) wr ⟨hoD, alt_refl _ _⟩ hid (fun p r h1 _ => h1)
            clear hcmp hmH hq hcc
            go_upto_region 11 with (go_at_call 29; refine hsort.mono ?_; rintro e w3 ⟨rfl, E, hE, hT, hS⟩)
            have hEq := sorted_unique (hT.2.2 hid) (sortD_inj N (dgr ps)) hS (sortD_sorted N (dgr ps))
            have hDI := sortD_inj N (dgr ps)
            generalize sortD N (dgr ps) = D at *
            have hoE : Own 3 w3 gq (ints (rowL N D)) := by
              have : rowL N E = rowL N D := by
                unfold rowL
                refine List.map_congr_left fun p hp => ?_
                rw [hEq p (List.mem_range.1 hp)]
              rw [← this]
              exact hE.own
            have hC3 := hC'.altq hE.alt
            have hoC3 : Own 2 w3 gc (ints (bare N)) := hoC.grown hE.alt (by have := hC'.qc; simp; omega)
            clear hsort hE hT hS hEq hC' hoC hoD hid
            go_wp2
            go_loopw [11, 12, 47] (fun _ _ t wr => ∃ k : Nat, t = .int .i64 (k : Int) ∧ k ≤ N ∧ ColS w wr ps N G0 Bo gq gc ∧ Own 3 wr gq (ints (rowL N D)) ∧ Own 2 wr gc (ints (paint N ps D k))) (fun _ _ t _ => N - (intOf t).toNat)
            case atStart => exact ⟨0, rfl, Nat.zero_le _, hC3, hoE, hoC3⟩
            case round =>
              obtain ⟨k, rfl, hk, hC, ho, hp⟩ := hrel
              clear hC3 hoE hoC3
              by_cases hlt : k < N
              · have hDk := hDI.1 k hlt
                have d0 := ho.at (ints_get (xs := rowL N D) (k := k) (by rw [rowL_len]; exact hlt))
                rw [rowL_get D hlt] at d0
                obtain ⟨oa, ocap, r0, rI, rA⟩ := hC.rc.row (D k) hDk
                obtain ⟨hle, hfree, hno⟩ := paint_next hb2 (D := D) (k := k) (by omega)
                have hlen := paint_len N ps D k
                have hpk : paint N ps D (k + 1) = (paint N ps D k).set (D k) (leastF (nb ps (D k)) (paint N ps D k) : Int) := rfl
                have hpk := Lib.hid hpk
                have hrange := Lib.hid fun x (hx : x ∈ nb ps (D k : Int)) => nb_range hb2 hx
                generalize hLF : leastF (nb ps (D k)) (paint N ps D k) = L at *
                have hfree := Lib.hid hfree
                have hno := Lib.hid hno
                generalize hPP : paint N ps D k = cs at *
                generalize hx : D k = x at *
                clear hLF hPP
                go_upto_region 14 with fail
                go_wp2
                generalize wr = wk at *
                go_loopw [12] (fun t wr => ∃ c : Nat, t = .int .i64 (c : Int) ∧ c ≤ L ∧ Below wk.heap.size wk wr) (fun t _ => L - (intOf t).toNat)
                case atStart => exact ⟨0, rfl, Nat.zero_le _, Below.refl _ _⟩
                case round =>
                  obtain ⟨c, rfl, hcL, hb⟩ := hrel
                  have hC2 := hC.next hb
                  have ho2 := ho.below hb
                  have hp2 := hp.below hb
                  have co := hC2.co
                  have r2 := (hb.cell (p := ⟨G0, x, none⟩) hC.rc.lt).trans r0
                  have hIc : InS wr (some ⟨gc, 0, none⟩) N cs := by
                    have := InS.of_row (rest := []) (by rw [List.append_nil]; exact hp2) (by omega : cs.length ≤ 1048576)
                    rw [hlen] at this
                    exact this
                  have hfr := isFree N oa (some ⟨gc, 0, none⟩) (nb ps (x : Int)).length ocap N (nb ps (x : Int)) cs (c : Int) wr (rI.below hb) hIc (fun y hy => by have := hrange.out y hy; omega)
                  by_cases hcl : c < L
                  · rw [hno.out c hcl] at hfr
                    clear hIc
                    go_wp2_with (go_at_call 31; refine hfr.mono ?_; rintro e w5 ⟨rfl, hb5⟩)
                    go_roundw
                    case rel => exact ⟨c + 1, by go_num, by omega, hb.trans (hb5.mono hb.size)⟩
                    case measure => simp [intOf]; omega
                  · obtain rfl : c = L := by omega
                    rw [hfree.out] at hfr
                    clear hIc
                    go_wp2_with (go_at_call 31; refine hfr.mono ?_; rintro e w5 ⟨rfl, hb5⟩; have hp5 := hp2.below hb5; have f5 := hp5.free x; have d5 := hp5.at (ints_get (xs := cs) (k := x) (by omega)))
                    go_roundw
                    case rel =>
                      have hC5 := hC2.next hb5
                      have ho5 := ho2.below hb5
                      have hp6 := hp5.set x (.int .i64 (c : Int))
                      rw [ints_set] at hp6
                      exact ⟨k + 1, by go_num, by omega, hC5.altc (alt_set (alt_refl _ gc) _ _), ho5.other (by have := hC5.qc; simp; omega) _, by rw [hpk.out]; exact hp6⟩
                    case measure => simp [intOf]; omega
              · obtain rfl : N = k := by omega
                go_wp2
                refine bodyPost_ret (v := .tuple #[.slice (some ⟨gc, 0, none⟩) N N, .bool true]) (by simp [results, Try.results13, go_sem]) rfl ?_
                exact ⟨some ⟨gc, 0, none⟩, N, by simp [paint_len], ⟨by simp [ints], by simp [paint_len]; omega, .inr ⟨gc, [], rfl, hC.bc, by rw [List.append_nil]; exact hp⟩⟩, hC.bel⟩
end Go.Proofs.Ytpebibhnaopbnaa
