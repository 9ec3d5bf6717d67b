/-
  CutPlot: the walk itself.
-/
import Derived.Test.YticoikchcmmpfaaPBox
namespace Go.Proofs.Yticoikchcmmpfaa
open Go.RowKit
attribute [local go_sem] order_cl cl_zero cl_one cl_two aord_none

structure ShareOk (S : Nat) (s : Rat) (z : Bool) : Prop where
  vl : Vl .f32 (cl .f32 S) s
  s0 : 0 ≤ s
  s1 : s ≤ 7 / 8
  zz : z = true → cl .f32 S = some 0
theorem ShareOk.inside {S : Nat} {s : Rat} {z : Bool} (h : ShareOk S s z) : (aord .f32 (cl .f32 S) (some 0) == some .gt || aord .f32 (cl .f32 S) (some 0) == some .eq) = true ∧ (aord .f32 (cl .f32 S) one == some .lt || aord .f32 (cl .f32 S) one == some .eq) = true := by
  obtain ⟨o1, o2, o3⟩ := h.vl.order zero_vl
  have s0 := h.s0
  have s1 := h.s1
  have h1 : Vl .f32 one 1 := ⟨_, false, _, _, rfl, rfl, by rw [dv_eq]; decide +kernel⟩
  constructor
  · rcases (show s = 0 ∨ 0 < s by grind) with c | c
    · rw [o2 c]; rfl
    · rw [o3 c]; rfl
  · rw [(h.vl.order h1).1 (by grind)]; rfl
/-- One round of the search. -/
theorem cut_round {n : Nat} {r : Nat → Nat} {bx b2 d : Rat} {P : Nat → Nat × Nat} (h : PlotW n r bx b2 d P) {S : Nat} {s : Rat} {z : Bool} (hs : ShareOk S s z) {l0 h0 : Rat} {w0 k lo hi : Nat} (hb : Bis n r bx (s * areaW (plotV n r) n) l0 h0 z w0 k lo hi) (hk : k < 30) (bl : Ab (l0 - bx) (401 / 100)) (bh : Ab (h0 - bx) (401 / 100)) {c : Nat} (hc : cl .f32 c = midX (cl .f32 lo) (cl .f32 hi)) :
    NumF c ∧ Ab (wv c - bx) (402 / 100) ∧ ∀ ws, CutSt P n (wv c) 0 (610 * uu) bx b2 n ws → isNum .f32 (areaX (fun j => ws.getD j (0, 0)) ws.length) = true ∧ Fits (absX (wid (areaX (fun j => ws.getD j (0, 0)) ws.length))) ∧
      (lessB (areaX (fun j => ws.getD j (0, 0)) ws.length) (cl .f32 S) (areaX P n) = true → Bis n r bx (s * areaW (plotV n r) n) l0 h0 z w0 (k + 1) c hi) ∧ (lessB (areaX (fun j => ws.getD j (0, 0)) ws.length) (cl .f32 S) (areaX P n) = false → Bis n r bx (s * areaW (plotV n r) n) l0 h0 z w0 (k + 1) lo c) := by
  have hu : uu ≤ 1 / 16000000 ∧ 0 < uu := by decide +kernel
  obtain ⟨m, hm, hmid⟩ := hb.mid hk bl bh h.cx
  obtain ⟨nc, bc, g1, g2⟩ := hmid c (by rw [hc]; exact hm)
  refine ⟨nc, bc, fun ws hcut => ?_⟩
  obtain ⟨v, hv, ev⟩ := h.part bc hcut
  obtain ⟨a, ha, ea⟩ := h.area
  have A0 : 0 ≤ areaL (plotV n r) n (wv c - bx) := by
    rw [area_tri _ h.R.pos]
    have hz : (0 : Rat) = sm n fun _ => 0 := by rw [sm_const]; grind
    rw [hz]
    exact sm_le fun k hk => (tri_in (h.R.turn k hk)).1
  have AW := area_in h.R.pos h.R.turn (m := wv c - bx)
  have W5 := h.R.whole_hi
  have bv : Ab v 60 := by unfold Ab at *; constructor <;> grind
  have ba : Ab a 60 := by have := h.R.whole; unfold Ab at *; constructor <;> grind
  obtain ⟨l1, l2⟩ := less_num hv hs.vl ha A0 (by grind) W5 ev ea hs.s0 hs.s1
  refine ⟨hv.isNum, (nab_num hv bv).1, fun hl => ?_, fun hl => g2 (l2 hl)⟩
  refine g1 (l1 hl) ?_
  cases z with
  | false => rfl
  | true =>
    rw [hs.zz rfl, less_zero hv bv ha ba] at hl
    cases hl
/-- What a cut tells. -/
structure CutAt (n : Nat) (r : Nat → Nat) (bx s : Rat) (z : Bool) (P : Nat → Nat × Nat) (lo : Nat) : Prop where
  num : NumF lo
  ar : Ab (areaL (plotV n r) n (wv lo - bx) - s * areaW (plotV n r) n) (17820 * uu)
  ge : ∀ l, LeastW P n n l → wv l - 960 * uu ≤ wv lo
  eq : z = true → LeastW P n n lo
  bd : Ab (wv lo - bx) (4011 / 1000)
def RetCutP (n : Nat) (r : Nat → Nat) (bx s : Rat) (z : Bool) (P : Nat → Nat × Nat) (w : World) (e : Ending) (w' : World) : Prop := ∃ lo, e = .returned (.tuple #[.float .f32 lo, .bool true]) ∧ CutAt n r bx s z P lo ∧ Below w.heap.size w w'
theorem least_same {P : Nat → Nat × Nat} {n l l' : Nat} (h : LeastW P n n l) (h' : LeastW P n n l') : wv l = wv l' := by
  obtain ⟨j, hj, rfl⟩ := h.at'
  obtain ⟨i, hi, rfl⟩ := h'.at'
  have a := h.le i hi
  have b := h'.le j hj
  grind
/-- The end of the search. -/
theorem cut_end {n : Nat} {r : Nat → Nat} {bx b2 d : Rat} {P : Nat → Nat × Nat} (h : PlotW n r bx b2 d P) {s : Rat} {z : Bool} {w0 w1 lo hi : Nat} (h0 : LeastW P n n w0) (h1 : MostW P n n w1) (hb : Bis n r bx (s * areaW (plotV n r) n) (wv w0) (wv w1) z w0 30 lo hi) : CutAt n r bx s z P lo := by
  have hu : uu ≤ 1 / 16000000 ∧ 0 < uu := by decide +kernel
  obtain ⟨d1, d2⟩ := hb.done h.R
  refine ⟨hb.nl, d1, fun l hl => ?_, fun e => ?_, ?_⟩
  · rw [least_same hl h0]; exact d2
  · rw [hb.z0 e]; exact h0
  · obtain ⟨j, hj, ej⟩ := h0.at'
    obtain ⟨i, hi', ei⟩ := h1.at'
    have b0 := (h.pt4 hj).1
    have b1 := (h.pt4 hi').1
    rw [← ej] at b0
    rw [← ei] at b1
    have rl := hb.rl
    have e30 : ((30 : Nat) : Rat) = 30 := rfl
    rw [e30] at rl
    unfold Ab at *
    constructor <;> grind
end Go.Proofs.Yticoikchcmmpfaa
namespace Go.Proofs.Yticoikchcmmpfaa
open Go.RowKit
attribute [local go_sem] order_cl cl_zero cl_one cl_two aord_none

set_option maxRecDepth 8000 in
set_option maxHeartbeats 2000000 in
theorem cutPlot {n : Nat} {r : Nat → Nat} {bx b2 d : Rat} {P : Nat → Nat × Nat} (h : PlotW n r bx b2 d P) {S : Nat} {s : Rat} {z : Bool} (hs : ShareOk S s z) (a : Option Addr) (cap : Nat) (w : World) (hA : CxF w a n P) : Calls Try.prog 17 #[.slice a n cap, .float .f32 S] w (RetCutP n r bx s z P w) := by
  have hn3 := h.R.n3
  have hn9 := h.R.n9
  obtain ⟨av, hav, eav⟩ := h.area
  have bav : Ab av 60 := by
    have hu : uu ≤ 1 / 16000000 ∧ 0 < uu := by decide +kernel
    have := h.R.whole; have := h.R.whole_hi
    unfold Ab at *; constructor <;> grind
  have fav := (nab_num hav bav).1
  have cpa := fun W hW => plotArea2 a n cap P W hW h.num hn3 (by omega) hav.isNum
  have cin := fun W => insideT (x := S) rfl hs.inside.1 hs.inside.2 W
  have cbx := fun W hW => boxOf a n cap P W hW h.num hn3
  have cle := fun M (hM : NumF M) bm W hW => leftOf (M := M) h hM bm a cap W hW
  have cfin := fun x (h : NumF x) W => finiteT x h W
  have ctwo : cl .f32 1073741824 = twoW := by decide
  go_enter Try.func17, Try.ntmps17
  go_wp2_with (first
    | (go_at_call 16; refine (cpa _ hA).mono ?_; rintro e w' ⟨area, rfl, harea, d1, rfl⟩)
    | (go_at_call 50; refine (cin _).mono ?_; rintro e w' ⟨rfl, d2, rfl⟩)
    | (go_at_call 51; refine (cbx _ (hA.below (below_drewN (Below.refl _ _) _))).mono ?_; rintro e w' ⟨w0, v0, w1, v1, rfl, hL, hM, d3, rfl⟩))
  have hst := Bis.start (z := z) (w0 := w0) (w1 := w1) h hs.s0 hs.s1 (by obtain ⟨j, hj, rfl⟩ := hL.at'; exact (h.num j hj).1) (by obtain ⟨j, hj, rfl⟩ := hM.at'; exact (h.num j hj).1) hL.le hM.ge (by obtain ⟨j, hj, rfl⟩ := hL.at'; exact ⟨j, hj, rfl⟩) (by obtain ⟨j, hj, rfl⟩ := hM.at'; exact ⟨j, hj, rfl⟩)
  obtain ⟨hst, bl, bh⟩ := hst
  clear cpa cin cbx
  have hb0 : Below w.heap.size w (w.drewN (d1 + d2 + d3)) := below_drewN (Below.refl _ _) _
  go_loopw [10, 11, 12, 13, 35] (fun lo hi _ _ i wr => ∃ (k lw hw : Nat), i = .int .i64 (k : Int) ∧ k ≤ 30 ∧ lo = .float .f32 lw ∧ hi = .float .f32 hw ∧ Hid (Bis n r bx (s * areaW (plotV n r) n) (wv w0) (wv w1) z w0 k lw hw) ∧ Below w.heap.size w wr) (fun _ _ _ _ i _ => 30 - (intOf i).toNat)
  case atStart => exact ⟨0, w0, w1, rfl, Nat.zero_le _, rfl, rfl, Lib.hid hst, by first | exact hb0 | exact below_drewN (Below.refl _ _) _⟩
  case round =>
    obtain ⟨k, lw, hw, rfl, hk, rfl, rfl, hbis, hb⟩ := hrel
    have hB0 := hb.size
    by_cases hlt : k < 30
    · have hkk : Hid (k + 1 ≤ 30) := Lib.hid hlt
      go_wp2_with (refine wpList_flc rfl rfl rfl rfl rfl (by exact rfl) (by first | exact ctwo | exact rfl) ?_; intro m d hr)
      have hm : cl .f32 m = midX (cl .f32 lw) (cl .f32 hw) := by
        have e : ∀ t, cl .f32 t = ab .add .f32 (cl .f32 lw) (cl .f32 hw) → cl .f32 m = ab .quo .f32 (cl .f32 t) twoW → cl .f32 m = midX (cl .f32 lw) (cl .f32 hw) := fun t h1 h2 => by rw [h2, h1]; rfl
        exact e _ (by assumption) hr
      obtain ⟨nc, bc, hround⟩ := cut_round h hs hbis.out hlt bl bh hm
      refine (cle m nc bc _ (hA.below (below_drewN hb _))).mono ?_
      rintro e w1' ⟨a', c', ws, rfl, hcx, hcut, hb1⟩
      have hb2 : Below w.heap.size w w1' := (below_drewN hb _).trans (hb1.mono hB0)
      obtain ⟨npart, fpart, gl, gr⟩ := hround ws hcut
      go_wp2_with (go_at_call 48; refine (plotArea a' ws.length c' _ _ hcx).mono ?_; rintro e w' ⟨part, rfl, hpart, d4, rfl⟩)
      have c1 := fun W => isFin part W
      rw [hpart, npart] at c1
      have c2 := fun W => absolute hpart fpart W
      have c3 := fun W => absolute harea fav W
      have hlb : ∀ b, lessB (areaX (fun j => ws.getD j (0, 0)) ws.length) (cl .f32 S) (areaX P n) = b → (aord .f32 (nar (absX (wid (areaX (fun j => ws.getD j (0, 0)) ws.length)))) (ab .mul .f32 (cl .f32 S) (nar (absX (wid (areaX P n))))) == some .lt) = b := fun b h => h
      have hnext : ∃ b lo' hi', lessB (areaX (fun j => ws.getD j (0, 0)) ws.length) (cl .f32 S) (areaX P n) = b ∧ lo' = (if b then m else lw) ∧ hi' = (if b then hw else m) ∧ Hid (Bis n r bx (s * areaW (plotV n r) n) (wv w0) (wv w1) z w0 (k + 1) lo' hi') := by
        cases hl : lessB (areaX (fun j => ws.getD j (0, 0)) ws.length) (cl .f32 S) (areaX P n)
        · exact ⟨false, lw, m, rfl, rfl, rfl, Lib.hid (gr hl)⟩
        · exact ⟨true, m, hw, rfl, rfl, rfl, Lib.hid (gl hl)⟩
      obtain ⟨b, lo', hi', hb', elo, ehi, hnx⟩ := hnext
      have hl := hlb b hb'
      clear hlb hb' gl gr hround npart fpart hcut hcx hm nc bc cle hbis
      generalize nar (absX (wid (areaX (fun j => ws.getD j (0, 0)) ws.length))) = NP at *
      generalize nar (absX (wid (areaX P n))) = NA at *
      generalize areaX (fun j => ws.getD j (0, 0)) ws.length = AP at *
      cases b
      all_goals
        simp only [Bool.false_eq_true, if_false, if_true] at elo ehi
        subst elo
        subst ehi
        go_wp2_with (first
          | (go_at_call 33; refine (c1 _).mono ?_; rintro e w' ⟨rfl, d5, rfl⟩)
          | (go_at_call 32; refine (c2 _).mono ?_; rintro e w' ⟨ap, rfl, hap, d6, rfl⟩)
          | (go_at_call 32; refine (c3 _).mono ?_; rintro e w' ⟨aa, rfl, haa, d7, rfl⟩)
          | (refine wpList_flc rfl rfl rfl rfl rfl (by exact rfl) (by first | assumption | exact rfl) ?_; intro q d hq))
        go_roundw
        case rel => exact ⟨k + 1, _, _, by go_num, hkk.out, rfl, rfl, hnx, below_drewN hb2 _⟩
        case measure => simp [intOf]; omega
    · obtain rfl : k = 30 := by omega
      have hend := cut_end h hL hM hbis.out
      have cf := fun W => cfin lw hend.num W
      go_wp2_with (go_at_call 47; refine (cf _).mono ?_; rintro e w' ⟨rfl, d5, rfl⟩)
      refine bodyPost_ret (v := .tuple #[.float .f32 lw, .bool true]) ?_ rfl ⟨lw, rfl, hend, below_drewN hb _⟩
      simp [results, Try.results17, go_sem]
end Go.Proofs.Yticoikchcmmpfaa
