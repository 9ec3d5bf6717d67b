/-
  The first list of few colours: the program's words.
-/
import Derived.Test.YtpebibhnaopbnaaRep
namespace Go.Proofs.Ytpebibhnaopbnaa
open Go.RowKit Go.Shelf

/-- The rows of the partners, to be read. -/
structure Rds0 (w : World) (G0 n : Nat) (ps : List Int) : Prop where
  lt : G0 < w.heap.size
  row : ∀ i : Nat, i < n → ∃ a cap, w.cell? ⟨G0, i, none⟩ = some (.slice a (nb ps i).length cap) ∧ InS w a (nb ps i).length (nb ps i)
theorem Rds0.next {w w1 : World} {G0 n : Nat} {ps : List Int} (h : Rds0 w G0 n ps) (hb : Below w.heap.size w w1) : Rds0 w1 G0 n ps :=
  ⟨Nat.lt_of_lt_of_le h.lt hb.size, fun i hi => by
    obtain ⟨a, cap, h1, h2⟩ := h.row i hi
    exact ⟨a, cap, (hb.cell (p := ⟨G0, i, none⟩) h.lt).trans h1, h2.below hb⟩⟩
/-- Seen from a block that is younger. -/
theorem Rds0.from {w w1 : World} {G0 n g : Nat} {ps : List Int} (h : Rds0 w G0 n ps) (hb : Below w.heap.size w w1) (hg : w.heap.size ≤ g) : Rds w1 G0 n ps g :=
  ⟨(h.next hb).lt, by have := h.lt; omega, fun i hi => by
    obtain ⟨a, cap, h1, h2⟩ := h.row i hi
    exact ⟨a, cap, (hb.cell (p := ⟨G0, i, none⟩) h.lt).trans h1, h2.below hb, h2.away hg⟩⟩
theorem PartS.rds {w0 w : World} {B G0 n : Nat} {V : Nat → Value} {ps : List Int} (h : PartS w0 B w G0 n V (nbs ps (ps.length / 2)) V) (hm : ps.length ≤ 2000) : Rds0 w G0 n ps :=
  ⟨h.rows.old, fun i hi => by
    have hrow := h.rows.row i hi
    have hl := nbTo_len ps (ps.length / 2) i
    obtain ⟨a, cap, e, hM⟩ := row_mineI hrow (by unfold nbs; omega)
    refine ⟨a, cap, ?_, hM.ins⟩
    rw [h.get hi, e]
    rfl⟩

theorem pick_idx {ps : List Int} {M : Nat} {cs : List Int} {t : Nat} {i : Int} (h : IdxOf (fun x => satB ps M (cs.set t x)) (chs (nb ps t) cs M) i) :
    (i = -1 ∧ pick ps M cs t = none) ∨ (∃ k : Nat, i = k ∧ k < (chs (nb ps t) cs M).length ∧ pick ps M cs t = some ((chs (nb ps t) cs M).getD k 0)) := by
  have e : pick ps M cs t = (chs (nb ps t) cs M).find? fun x => satB ps M (cs.set t x) := rfl
  rcases h with ⟨rfl, h⟩ | ⟨k, rfl, hk, hp, hno⟩
  · refine .inl ⟨rfl, ?_⟩
    rw [e, List.find?_eq_none]
    intro x hx
    obtain ⟨j, hj, rfl⟩ := List.getElem_of_mem hx
    have := h j hj
    rw [getD_at hj] at this
    simp [this]
  · refine .inr ⟨k, rfl, hk, ?_⟩
    rw [e, List.find?_eq_some_iff_getElem, getD_at hk]
    rw [getD_at hk] at hp
    refine ⟨hp, k, hk, rfl, fun j hj => ?_⟩
    have := hno j hj
    rw [getD_at (by omega)] at this
    simp [this]

set_option maxHeartbeats 2000000 in
/-- The closure of FewColours: can all still be coloured, if i has this colour? -/
theorem tryColour (n : Nat) (hn : 1 ≤ n ∧ n ≤ 16) (M : Nat) (hM : 1 ≤ M ∧ M ≤ 4) (ps : List Int) (hp : pairsB (n : Int) ps = true) (G0 oc g cc t Bc Bi Bo Bm : Nat) (cs : List Int) (w : World)
    (hcs : cs.length = n) (hneg : ∀ i : Nat, i < n → G cs i < 0 → G cs i = -1) (ht : t < n) (ho : Own 2 w g (ints cs)) (hr : Rds0 w G0 n ps)
    (l1 : Bc < w.heap.size) (l2 : Bi < w.heap.size) (l3 : Bo < w.heap.size) (l4 : Bm < w.heap.size)
    (c1 : w.cell? ⟨Bc, 0, none⟩ = some (.slice (some ⟨g, 0, none⟩) n cc)) (c2 : w.cell? ⟨Bi, 0, none⟩ = some (.int .i64 (t : Int))) (c3 : w.cell? ⟨Bo, 0, none⟩ = some (.slice (some ⟨G0, 0, none⟩) n oc)) (c4 : w.cell? ⟨Bm, 0, none⟩ = some (.int .i64 (M : Int))) :
    PredI 25 #[.pointer (some ⟨Bc, 0, none⟩), .pointer (some ⟨Bi, 0, none⟩), .pointer (some ⟨Bo, 0, none⟩), .pointer (some ⟨Bm, 0, none⟩)] (fun x => satB ps M (cs.set t x)) (chs (nb ps t) cs M) w := fun W x hmem hb => by
  have hxr := (mem_chs.1 hmem).1
  have ho' := ho.below hb
  have hr' := hr.next hb
  have d1 := (hb.cell (p := ⟨Bc, 0, none⟩) l1).trans c1
  have d2 := (hb.cell (p := ⟨Bi, 0, none⟩) l2).trans c2
  have d3 := (hb.cell (p := ⟨Bo, 0, none⟩) l3).trans c3
  have d4 := (hb.cell (p := ⟨Bm, 0, none⟩) l4).trans c4
  have L1 := Nat.lt_of_lt_of_le l1 hb.size
  have L2 := Nat.lt_of_lt_of_le l2 hb.size
  have L3 := Nat.lt_of_lt_of_le l3 hb.size
  have L4 := Nat.lt_of_lt_of_le l4 hb.size
  have hI : InS W (some ⟨g, 0, none⟩) n cs := by
    have := InS.of_row (rest := []) (by rw [List.append_nil]; exact ho') (by omega : cs.length ≤ 1048576)
    rwa [hcs] at this
  have hcl := cloneI _ n cc cs W hI (by omega)
  have hneg' : ∀ i : Nat, i < n → G (cs.set t x) i < 0 → G (cs.set t x) i = -1 := fun i hi h0 => by
    by_cases e : i = t
    · subst e; rw [G_set_same (by omega)] at h0; omega
    · rw [G_set_other (by simpa using e)] at h0 ⊢; exact hneg i hi h0
  show Calls Try.prog 25 #[.int .i64 x, .pointer (some ⟨Bc, 0, none⟩), .pointer (some ⟨Bi, 0, none⟩), .pointer (some ⟨Bo, 0, none⟩), .pointer (some ⟨Bm, 0, none⟩)] W (RetB (.bool (satB ps M (cs.set t x))) W)
  go_enter Try.func25, Try.ntmps25
  go_upto_region 2 with (go_at_call 26; refine hcl.mono ?_; rintro e w1 ⟨g', c', rest, rfl, hg', ho1, hb1⟩)
  have e2 := (hb1.cell (p := ⟨Bi, 0, none⟩) L2).trans d2
  have f0 := ho1.free t
  have k0 := ho1.at (ints_at (cs := cs) (rest := rest) (k := t) (by omega))
  have ho2 := ho1.set t (.int .i64 x)
  rw [ints_set_at (by omega)] at ho2
  have hb2 : Below W.heap.size W (w1.setCell ⟨g', t, none⟩ (.int .i64 x)) := hb1.setCell hg' _
  have e3 := (hb2.cell (p := ⟨Bo, 0, none⟩) L3).trans d3
  have e4 := (hb2.cell (p := ⟨Bm, 0, none⟩) L4).trans d4
  have hcan := canBe n hn M hM ps hp G0 oc g' c' rest _ (cs.set t x) _ rfl (by simpa using hcs) hneg' ho2 (hr'.from hb2 hg')
  clear ho ho' hr hcl
  go_wp2_with (go_at_call 27; refine hcan.mono ?_; rintro e w3 ⟨rfl, hb3⟩)
  go_ret
  exact ⟨rfl, hb2.trans (hb3.mono hb2.size)⟩
end Go.Proofs.Ytpebibhnaopbnaa
