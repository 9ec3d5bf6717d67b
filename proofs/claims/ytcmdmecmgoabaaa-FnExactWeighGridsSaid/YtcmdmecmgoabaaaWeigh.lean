/-
  Two grids weighed: what is meant, and the specification's words.
-/
import Derived.Test.YtcmdmecmgoabaaaMade
import Derived.Deep.RegionHeld3
namespace Go.Proofs.Ytcmdmecmgoabaaa
open Go.RowKit Go.Shelf
attribute [local go_sem] order_cl cl_zero cl_one cl_two aord_none

/-! ### Words for classes -/
def nanW : Nat := 2143289344
theorem cl_nanW : cl .f32 nanW = none := cl_of_rung (by decide)
def canon (C : List (Option Nat)) : List Nat := C.map fun o => o.getD nanW
theorem canon_map {zs : List Nat} {C : List (Option Nat)} (h : zs.map (cl .f32) = C) : (canon C).map (cl .f32) = C := by
  subst h
  unfold canon
  rw [List.map_map, List.map_map]
  refine List.map_congr_left fun z _ => ?_
  simp only [Function.comp]
  cases hz : cl .f32 z with
  | none => exact cl_nanW
  | some u => rw [Option.getD_some]; have := cl_some hz; subst this; exact hz
theorem MadeG.canon {wide high : Int} {n : Nat} {F : Nat → Option Nat} {w w' : World} {e : Ending} (h : MadeG wide high n F w e w') : NewG wide high (canon (cls n F)) (validB wide high (canon (cls n F))) w e w' := by
  obtain ⟨zs, hz, hn⟩ := h
  exact NewG.alike (hz.trans (canon_map hz).symm) hn

/-! ### Products of numbers are no NaN -/
theorem isNum_read {k : FloatKind} {x : Nat} (h : isNum k (cl k x) = true) : ∃ s m p, k.format.read x = .number s m p := by
  unfold isNum cl at h
  split at h
  · cases h
  · rename_i b hb
    have := cl_some (k := k) (x := x) (y := b) hb
    subst this
    cases hx : k.format.read b with
    | number s m p => exact ⟨s, m, p, rfl⟩
    | infinity s => rw [hx] at h; cases h
    | nan s t => rw [hx] at h; cases h
theorem mul_num {x y : Nat} (hx : isNum .f32 (cl .f32 x) = true) (hy : isNum .f32 (cl .f32 y) = true) : ∃ r, cl .f32 r = ab .mul .f32 (cl .f32 x) (cl .f32 y) ∧ ∀ (t : TypeId) (W : World), (binOp .mul t (.float .f32 x) (.float .f32 y)).run Try.prog W = .ok (.float .f32 r) W := by
  obtain ⟨s, m, p, h1⟩ := isNum_read hx
  obtain ⟨s', m', p', h2⟩ := isNum_read hy
  obtain ⟨r, hr⟩ : ∃ r, floatBits .mul .f32 x y = some r := by
    simp only [floatBits, Ieee.Format.mul, h1, h2, Ieee.Datum.product]
    exact ⟨_, rfl⟩
  exact ⟨r, by rw [cl_floatBits hr, ← floatBits_cl, hr], fun t W => run_float_arith W .mul t .f32 x y r hr⟩

/-! ### What is meant -/
def weighC (X Y : Option Nat) (xs ys : List Nat) (i : Nat) : Option Nat := ab .add .f32 (ab .mul .f32 X (cl .f32 (xs.getD i 0))) (ab .mul .f32 Y (cl .f32 (ys.getD i 0)))
def okW (wa ha wb hb : Int) (xs ys : List Nat) (X Y : Option Nat) : Bool := validB wa ha xs && validB wb hb ys && (wa == wb) && (ha == hb) && isNum .f32 X && isNum .f32 Y
def weighs (X Y : Option Nat) (xs ys : List Nat) : List Nat := canon (cls xs.length (weighC X Y xs ys))

theorem finAll_at {zs : List Nat} (h : finAll zs = true) {k z : Nat} (hk : k < zs.length) (hz : zs.getD k 0 = z) : isNum .f32 (cl .f32 z) = true := by
  unfold finAll at h
  rw [List.all_eq_true] at h
  rw [getD_at hk] at hz
  exact hz ▸ h _ (List.getElem_mem hk)
theorem valid_parts {wide high : Int} {zs : List Nat} (h : validB wide high zs = true) : sidesB wide high = true ∧ (zs.length : Int) = wide * high ∧ finAll zs = true := by
  unfold validB at h
  simp only [Bool.and_eq_true, beq_iff_eq] at h
  exact ⟨h.1.1, h.1.2, h.2⟩

/-! ### A copy of a grid -/
theorem FlS.cells {w : World} {b off len : Nat} {zs : List Nat} (h : FlS w (some ⟨b, off, none⟩) len zs) {j : Nat} {u : Value} (hj : (fls zs)[j]? = some u) : w.cell? ((⟨b, off, none⟩ : Addr).add j) = some u := by
  have hlt : j < (fls zs).length := by
    rcases Nat.lt_or_ge j (fls zs).length with h | h
    · exact h
    · rw [List.getElem?_eq_none h] at hj; cases hj
  rw [fls_len] at hlt
  rw [fls_get hlt] at hj
  have ea : (⟨b, off, none⟩ : Addr).add j = ⟨b, off + j, none⟩ := by unfold Addr.add; split <;> simp_all
  obtain ⟨b', off', z, e, _, hc, hz⟩ := h.get (k := j) (by rw [← h.len]; exact hlt)
  simp at e
  obtain ⟨rfl, rfl⟩ := e
  rw [ea, hc, ← hj, hz.out]

def OwnedG (wide high : Int) (zs : List Nat) (w : World) (e : Ending) (w' : World) : Prop :=
  ∃ g c rest, e = .returned (GV wide high (some ⟨g, 0, none⟩) zs.length c) ∧ w.heap.size ≤ g ∧ Own 22 w' g (fls zs ++ rest) ∧ Below w.heap.size w w'

theorem row_emptyF (w : World) (B : Nat) (E : TypeId) (hB : B ≤ w.heap.size) : (w.alloc (.cells #[] E)).ownsRow B E 1 (.slice (some ⟨w.heap.size, 0, none⟩) 0 0) 0 [] :=
  ⟨rfl, .inr ⟨w.heap.size, 0, #[], rfl, hB, heap_alloc_new w _, Nat.le_refl _, by unfold maxLen; omega, rfl, rfl⟩⟩
theorem row_ownF {w : World} {B n : Nat} {v : Value} {vs : List Value} {E : TypeId} (h : w.ownsRow B E 1 v n vs) (h0 : 0 < n) :
    ∃ g cap rest, v = .slice (some ⟨g, 0, none⟩) n cap ∧ B ≤ g ∧ Own E w g (vs ++ rest) := by
  obtain ⟨h1, h2 | ⟨g, cap, cur, rfl, hB, hg, _, _, hs, ht⟩⟩ := h
  · omega
  · refine ⟨g, cap, cur.toList.drop (n * 1), rfl, hB, ?_⟩
    unfold Own
    rw [← ht, List.take_append_drop, hg]

set_option maxHeartbeats 1000000 in
theorem l06Own (p : Nat) (wide high : Int) (b off len cap : Nat) (zs : List Nat) (w : World) (hpl : p < w.heap.size) (hp : At w p wide high (some ⟨b, off, none⟩) len cap) (h : FlS w (some ⟨b, off, none⟩) len zs) (hpos : 0 < len) :
    Calls Try.prog 77 #[.pointer (some ⟨p, 0, none⟩)] w (OwnedG wide high zs w) := by
  obtain ⟨c0, c1, c2⟩ := hp
  have hm := h.max
  have hl := h.len
  have q1 : p ≠ w.heap.size := by omega
  have q2 : w.heap.size ≠ p := by omega
  have q3 : p ≠ w.heap.size + 1 := by omega
  have q4 : w.heap.size + 1 ≠ p := by omega
  obtain ⟨i0, hi, hz0, hz1, hz2⟩ := info_parts infoF
  have hb1 : Below w.heap.size w (((w.alloc (.cells #[.int .i64 0, .int .i64 0, .slice none 0 0] 33)).drew).alloc (.cells #[] 22)) := (below_drewN ((Below.refl _ _).alloc (Nat.le_refl _) _) 1).alloc (by simp) _
  have hcells : ∀ j u, (fls zs)[j]? = some u → (((w.alloc (.cells #[.int .i64 0, .int .i64 0, .slice none 0 0] 33)).drew).alloc (.cells #[] 22)).cell? ((⟨b, off, none⟩ : Addr).add j) = some u := fun j u hj => (h.below hb1).cells hj
  have hrow := row_emptyF ((w.alloc (.cells #[.int .i64 0, .int .i64 0, .slice none 0 0] 33)).drew) w.heap.size 22 (by simp)
  have hsz : ((w.alloc (.cells #[.int .i64 0, .int .i64 0, .slice none 0 0] 33)).drew).heap.size = w.heap.size + 1 := by simp
  rw [hsz] at hrow
  have ores : Own 33 (((w.alloc (.cells #[.int .i64 0, .int .i64 0, .slice none 0 0] 33)).drew).alloc (.cells #[] 22)) w.heap.size [.int .i64 0, .int .i64 0, .slice none 0 0] := (Own.new w [.int .i64 0, .int .i64 0, .slice none 0 0] 33).alloc _
  go_enter Try.func77, Try.ntmps77
  go_wp2
  go_region_held3 (fun W => W.cell? ⟨p, 0, none⟩ = some (.int .i64 wide) ∧ W.cell? ⟨p, 1, none⟩ = some (.int .i64 high) ∧ W.cell? ⟨p, 2, none⟩ = some (.slice (some ⟨b, off, none⟩) len cap)) (go_keep)
    ((refine step_append_lies _ (by rfl) (.tmp 11) (.tmp 15) 28 (by rfl) w.heap.size 22 i0 (.float .f32 0) 1 4 Try.underlying28 hi hz0 hz1 hz2 rfl (by decide) (.slice (some ⟨w.heap.size + 1, 0, none⟩) 0 0) 0 [] (by simp [Act.eval]) hrow ⟨b, off, none⟩ len cap (fls zs) (by simp [Act.eval]) (by rw [fls_len, hl, Nat.mul_one]) hcells (fls_one zs) hpos (by unfold maxLen; omega) (by omega) (by simp; omega) (w.heap.size + 2) (by simp) ?_; intro g c w2 hown hgrow hat hlt; have o1 := ores.grown hgrow (by simp [Value.ownBlock]); have d0 := o1.at (k := 0) rfl; have d1 := o1.at (k := 1) rfl; have d2 := o1.at (k := 2) rfl; have f0 := o1.free 0; have f1 := o1.free 1; have f2 := o1.free 2; have e0 : w2.cell? ⟨p, 0, none⟩ = some (.int .i64 wide) := (hgrow.cell_far ⟨p, 0, none⟩ (by simp; omega) (by simp [Value.ownBlock]; omega)).trans (by simp [*]); have e1 : w2.cell? ⟨p, 1, none⟩ = some (.int .i64 high) := (hgrow.cell_far ⟨p, 1, none⟩ (by simp; omega) (by simp [Value.ownBlock]; omega)).trans (by simp [*]); have e2 : w2.cell? ⟨p, 2, none⟩ = some (.slice (some ⟨b, off, none⟩) len cap) := (hgrow.cell_far ⟨p, 2, none⟩ (by simp; omega) (by simp [Value.ownBlock]; omega)).trans (by simp [*])))
  all_goals
    go_wp2
    rw [Nat.zero_add] at hown
    obtain ⟨g', c', rest, e, hg, ho⟩ := row_ownF hown hpos
    obtain ⟨rfl, rfl⟩ : g = g' ∧ c = c' := by simpa using e
    have hgn : g ≠ w.heap.size := by
      rcases hat with e | e
      · simp [Value.ownBlock] at e; omega
      · omega
    have hb2 : Below w.heap.size w w2 := hb1.grown hgrow hb1.size fun k hk => by simp [Value.ownBlock] at hk; omega
    refine bodyPost_ret (v := GV wide high (some ⟨g, 0, none⟩) zs.length c) (by simp [results, Try.results77, go_sem, GV, hl, d0, d1, d2]) rfl ⟨g, c, rest, rfl, hg, ?_, ?_⟩
    · have ho' : Own 22 w2 g (fls zs ++ rest) := by simpa using ho
      exact ((ho'.other hgn _).other hgn _).other hgn _
    · exact ((hb2.setCell (Nat.le_refl _) _).setCell (Nat.le_refl _) _).setCell (Nat.le_refl _) _
end Go.Proofs.Ytcmdmecmgoabaaa
