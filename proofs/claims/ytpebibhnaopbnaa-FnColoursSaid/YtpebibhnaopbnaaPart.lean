/-
  The partners of each thing.
-/
import Derived.Test.YtpebibhnaopbnaaOrder
import Derived.Deep.RegionWith
import Derived.Deep.DrawnRows
namespace Go.Proofs.Ytpebibhnaopbnaa
open Go.RowKit

/-- An append inside a region that draws its order, held for its law. -/
def AppHold (P : Program) (d : Option Tmp) (os : Array Operand) (ts : Array TypeId) (ty : TypeId) (ps : String) (af : Array Edge) (a : Act) (w : World) (K : Act → World → Prop) (Q : Exit → Act → World → Prop) : Prop :=
  Oper.wp P { dst := d, op := Op.call { callee := Callee.builtin Builtin.append, args := os, argTypes := ts }, type := ty, pos := ps, after := af, guard := none } a w K Q
theorem app_hold {P : Program} {d : Option Tmp} {os : Array Operand} {ts : Array TypeId} {ty : TypeId} {ps : String} {af : Array Edge} {a : Act} {w : World} {K : Act → World → Prop} {Q : Exit → Act → World → Prop} :
    Oper.wp P { dst := d, op := Op.call { callee := Callee.builtin Builtin.append, args := os, argTypes := ts }, type := ty, pos := ps, after := af, guard := none } a w K Q = AppHold P d os ts ty ps af a w K Q := rfl

/-- Rows of the call's own, one a thing: no two lie in one block, none in block G0. -/
structure RowsI (B : Nat) (w : World) (G0 n : Nat) (V : Nat → Value) (L : Nat → List Int) : Prop where
  base : B ≤ w.heap.size
  old : G0 < w.heap.size
  row : ∀ i, i < n → w.ownsRow B 2 1 (V i) (L i).length (ints (L i))
  far : ∀ i, i < n → (V i).ownBlock ≠ some G0
  apart : ∀ i j, i < n → j < n → i ≠ j → ∀ g, (V i).ownBlock = some g → (V j).ownBlock ≠ some g

def upd {α : Type} (f : Nat → α) (i : Nat) (v : α) : Nat → α := fun j => if j = i then v else f j
theorem upd_same {α : Type} (f : Nat → α) (i : Nat) (v : α) : upd f i v i = v := by simp [upd]
theorem upd_other {α : Type} (f : Nat → α) {i j : Nat} (h : j ≠ i) (v : α) : upd f i v j = f j := by simp [upd, h]

section
variable {B G0 n : Nat} {w w1 w2 : World} {V : Nat → Value} {L : Nat → List Int}
theorem RowsI.next (h : RowsI B w G0 n V L) (hb : w.grownBy w1 none) : RowsI B w1 G0 n V L :=
  ⟨Nat.le_trans h.base hb.size, Nat.lt_of_lt_of_le h.old hb.size, fun i hi => (h.row i hi).kept hb (by cases (V i).ownBlock <;> simp), h.far, h.apart⟩
theorem RowsI.alloc (h : RowsI B w G0 n V L) (o : Obj) : RowsI B (w.alloc o) G0 n V L := h.next (World.grownBy_alloc w o none)
theorem RowsI.app (h : RowsI B w G0 n V L) {i : Nat} (hi : i < n) {g cap m : Nat} {x : Int} (hm : m = (L i).length + 1) (hown : w1.ownsRow B 2 1 (.slice (some ⟨g, 0, none⟩) m cap) m (ints (L i) ++ [.int .i64 x]))
    (hg : w.grownBy w1 (V i).ownBlock) (hat : (V i).ownBlock = some g ∨ g = w.heap.size) : RowsI B w1 G0 n (upd V i (.slice (some ⟨g, 0, none⟩) m cap)) (upd L i (L i ++ [x])) := by
  subst hm
  have hold := h.old
  have hne : ∀ j, j < n → j ≠ i → (V j).ownBlock ≠ some g := by
    intro j hj hji e
    rcases hat with e2 | e2
    · exact h.apart i j hi hj (Ne.symm hji) g e2 e
    · have := (h.row j hj).lt g e
      omega
  refine ⟨Nat.le_trans h.base hg.size, Nat.lt_of_lt_of_le h.old hg.size, fun j hj => ?_, fun j hj => ?_, fun j k hj hk hjk q hq => ?_⟩
  · by_cases e : j = i
    · subst e
      rw [upd_same, upd_same, List.length_append, ints_app]
      exact hown
    · rw [upd_other _ e, upd_other _ e]
      refine (h.row j hj).kept hg ?_
      cases hv : (V j).ownBlock with
      | none => exact .inl rfl
      | some q => exact .inr fun e2 => h.apart j i hj hi e q hv e2.symm
  · by_cases e : j = i
    · subst e
      rw [upd_same]
      simp only [Value.ownBlock, ne_eq, Option.some.injEq]
      rcases hat with e2 | e2
      · have := h.far j hj
        rw [e2] at this
        simpa using this
      · omega
    · rw [upd_other _ e]; exact h.far j hj
  · by_cases ej : j = i
    · subst ej
      rw [upd_same] at hq
      rw [upd_other _ (Ne.symm hjk)]
      simp only [Value.ownBlock, Option.some.injEq] at hq
      subst hq
      exact hne k hk (Ne.symm hjk)
    · rw [upd_other _ ej] at hq
      by_cases ek : k = i
      · subst ek
        rw [upd_same]
        simp only [Value.ownBlock, ne_eq, Option.some.injEq]
        intro e
        subst e
        exact hne j hj ej hq
      · rw [upd_other _ ek]
        exact h.apart j k hj hk hjk q hq
end
/-- The cells of the list of rows. -/
def cellsV (n : Nat) (V : Nat → Value) : List Value := (List.range n).map V
theorem cellsV_len (n : Nat) (V : Nat → Value) : (cellsV n V).length = n := by simp [cellsV]
theorem cellsV_get {n : Nat} {V : Nat → Value} {i : Nat} (h : i < n) : (cellsV n V)[i]? = some (V i) := by simp [cellsV, h]
theorem cellsV_set {n : Nat} {V : Nat → Value} {i : Nat} (h : i < n) (v : Value) : (cellsV n V).set i v = cellsV n (upd V i v) := by
  refine List.ext_getElem? fun j => ?_
  by_cases e : i = j
  · subst e
    rw [List.getElem?_set_self (by rw [cellsV_len]; exact h), cellsV_get h, upd_same]
  · rw [List.getElem?_set_ne e]
    by_cases hj : j < n
    · rw [cellsV_get hj, cellsV_get hj, upd_other _ (Ne.symm e)]
    · rw [List.getElem?_eq_none (by rw [cellsV_len]; omega), List.getElem?_eq_none (by rw [cellsV_len]; omega)]

/-- Those with whom things have one of the first k pairs. -/
def nbs (ps : List Int) (k : Nat) : Nat → List Int := fun i => nbTo ps k (i : Int)
theorem nbs_succ {ps : List Int} {k a b : Nat} (hx : ps.getD k 0 = (a : Int)) (hy : ps.getD (k + 1) 0 = (b : Int)) (hk : k % 2 = 0) (hab : a ≠ b) :
    nbs ps (k / 2 + 1) = upd (upd (nbs ps (k / 2)) a (nbs ps (k / 2) a ++ [(b : Int)])) b (nbs ps (k / 2) b ++ [(a : Int)]) := by
  funext i
  unfold nbs
  rw [nbTo_succ, hit_at hk hx hy]
  by_cases e1 : i = b
  · subst e1
    rw [upd_same, if_neg (by omega), if_pos rfl]
  · rw [upd_other _ e1]
    by_cases e2 : i = a
    · subst e2
      rw [upd_same, if_pos rfl]
    · rw [upd_other _ e2, if_neg (by omega), if_neg (by omega), List.append_nil]

/-- The list of rows while it is made: V the rows, C what its cells hold. -/
structure PartS (w0 : World) (B : Nat) (w : World) (G0 n : Nat) (V : Nat → Value) (L : Nat → List Int) (C : Nat → Value) : Prop where
  rows : RowsI B w G0 n V L
  own : Own 22 w G0 (cellsV n C)
  bel : Below B w0 w
  far : B ≤ G0
section
variable {w0 : World} {B G0 n : Nat} {w w1 w2 : World} {V C : Nat → Value} {L : Nat → List Int}
theorem PartS.alloc (h : PartS w0 B w G0 n V L C) (o : Obj) : PartS w0 B (w.alloc o) G0 n V L C :=
  ⟨h.rows.alloc o, h.own.alloc o, h.bel.alloc h.rows.base o, h.far⟩
theorem PartS.drew (h : PartS w0 B w G0 n V L C) : PartS w0 B w.drew G0 n V L C :=
  ⟨h.rows.next ⟨rfl, rfl, rfl, Nat.le_refl _, fun _ _ _ => rfl⟩, h.own, below_drewN h.bel 1, h.far⟩
theorem PartS.drewN (h : PartS w0 B w G0 n V L C) (d : Nat) : PartS w0 B (w.drewN d) G0 n V L C :=
  ⟨h.rows.next ⟨rfl, rfl, rfl, Nat.le_refl _, fun _ _ _ => rfl⟩, h.own, below_drewN h.bel d, h.far⟩
theorem PartS.get (h : PartS w0 B w G0 n V L C) {i : Nat} (hi : i < n) : w.cell? ⟨G0, i, none⟩ = some (C i) := h.own.at (cellsV_get hi)
theorem PartS.free (h : PartS w0 B w G0 n V L C) (i : Nat) : w.frozen? ⟨G0, i, none⟩ = false := h.own.free i
theorem PartS.put (h : PartS w0 B w G0 n V L C) {i : Nat} (hi : i < n) (v : Value) : PartS w0 B (w.setCell ⟨G0, i, none⟩ v) G0 n V L (upd C i v) := by
  have hg := alt_set (alt_refl w G0) i v
  refine ⟨⟨Nat.le_trans h.rows.base hg.size, Nat.lt_of_lt_of_le h.rows.old hg.size, fun j hj => (h.rows.row j hj).kept hg ?_, h.rows.far, h.rows.apart⟩, ?_, h.bel.setCell h.far _, h.far⟩
  · exact .inr (h.rows.far j hj)
  · rw [← cellsV_set hi]
    exact h.own.set i v
end
/-- A slice of one number in a block of its own. -/
def OneAt (w : World) (q : Nat) (x : Int) : Prop := w.cell? ⟨q, 0, none⟩ = some (.int .i64 x) ∧ q < w.heap.size
theorem OneAt.new (w : World) (x : Int) (E : TypeId) : OneAt (w.alloc (.cells #[.int .i64 x] E)) w.heap.size x := ⟨by simp, by simp⟩
theorem OneAt.new' (w : World) (x : Int) (E : TypeId) {q : Nat} (hq : w.heap.size = q) : OneAt (w.alloc (.cells #[.int .i64 x] E)) q x := by subst hq; exact OneAt.new w x E
theorem OneAt.alloc {w : World} {q : Nat} {x : Int} (h : OneAt w q x) (o : Obj) : OneAt (w.alloc o) q x :=
  ⟨(World.cell?_of_block (w := w) (Below.heap_alloc w o q h.2)).trans h.1, by have := h.2; simp; omega⟩
theorem OneAt.drew {w : World} {q : Nat} {x : Int} (h : OneAt w q x) : OneAt w.drew q x := h
theorem OneAt.grown {w w1 : World} {q : Nat} {x : Int} {row : Option Nat} (h : OneAt w q x) (hg : w.grownBy w1 row) (hne : some q ≠ row) : OneAt w1 q x :=
  ⟨hg.cell h.1 hne, Nat.lt_of_lt_of_le h.2 hg.size⟩

theorem hold_app {w0 W : World} {B G0 n i : Nat} {V C : Nat → Value} {L : Nat → List Int} {dst : Option Tmp} {ty : TypeId} {pos : String} {af : Array Edge} {a : Act} {K : Act → World → Prop} {Q : Exit → Act → World → Prop} {s x : Operand} {q : Nat} {xv : Int}
    (hi : i < n) (h : PartS w0 B W G0 n V L C) (hlen : (L i).length ≤ 100000) (hs : a.eval s = V i) (hx : a.eval x = .slice (some ⟨q, 0, none⟩) 1 1) (hq : OneAt W q xv)
    (hk : ∀ g cap w', PartS w0 B w' G0 n (upd V i (.slice (some ⟨g, 0, none⟩) ((L i).length + 1) cap)) (upd L i (L i ++ [xv])) C → W.grownBy w' (V i).ownBlock → K (a.put dst (.slice (some ⟨g, 0, none⟩) ((L i).length + 1) cap)) w') :
    AppHold Try.prog dst #[s, x] #[22, 22] ty pos af a W K Q := by
  obtain ⟨i0, hi0, hz0, hz1, hz2⟩ := info_parts infoI
  unfold AppHold
  refine wp_append_lies _ s x 22 rfl B 2 i0 (.int .i64 0) 1 8 Try.underlying22 hi0 hz0 hz1 hz2 rfl (by decide) (V i) (L i).length (ints (L i)) hs (h.rows.row i hi) ⟨q, 0, none⟩ 1 1 [.int .i64 xv] hx rfl ?_ (ints_one _) (by omega) (by unfold maxLen; omega) (by omega) h.rows.base W.heap.size rfl ?_
  · intro j u hj
    cases j with
    | zero =>
      simp at hj
      subst hj
      exact hq.1
    | succ j => simp at hj
  · intro g cap w' hown hgrow hat _
    refine hk g cap w' ⟨h.rows.app hi rfl hown hgrow hat, h.own.grown hgrow (Ne.symm (h.rows.far i hi)), h.bel.grown hgrow h.rows.base fun k hk => ((h.rows.row i hi).lt k hk).1, h.far⟩ hgrow

attribute [local go_sem ↓] app_hold
attribute [local go_sem ↓] Go.wp_at_zero Go.wp_at_succ

/-- What partners leaves: the rows of the partners. -/
def Parted (n : Nat) (ps : List Int) (w : World) (e : Ending) (w' : World) : Prop :=
  ∃ G0 V, e = .returned (.slice (some ⟨G0, 0, none⟩) n n) ∧ PartS w w.heap.size w' G0 n V (nbs ps (ps.length / 2)) V

theorem infoRow : (Try.prog.info? 22).map (fun i => (i.zero, i.size, i.bytes)) = some (some (.slice none 0 0), 1, 24) := by kernel_rfl

set_option maxRecDepth 8000 in
set_option maxHeartbeats 4000000 in
theorem partners (n : Nat) (hn : 1 ≤ n ∧ n ≤ 32) (a : Option Addr) (len cap : Nat) (ps : List Int) (hp : pairsB (n : Int) ps = true) (w : World) (h : InS w a len ps) :
    Calls Try.prog 21 #[.int .i64 (n : Int), .slice a len cap] w (Parted n ps w) := by
  have hm := h.max
  have hl := h.size
  obtain ⟨i0, hi, hz0, hz1, hz2⟩ := info_parts infoRow
  go_enter Try.func21, Try.ntmps21
  go_wp2_with (at_make; refine wpList_make_full _ rfl (.tmp 9) (.tmp 9) 36 rfl w.heap.size 22 i0 (.slice none 0 0) 1 Try.underlying36 hi hz0 hz1 .i64 .i64 _ _ n rfl rfl rfl rfl (by rw [hz2]; omega) (by unfold maxLen; omega) (Nat.le_refl _) ?_; intro w1 hown hgrow)
  have hS : PartS w w.heap.size w1 w.heap.size n (fun _ => .slice none 0 0) (nbs ps 0) (fun _ => .slice none 0 0) := by
    have ho := Own.of_row hown
    have e : (madeCells (Value.slice none 0 0).cells (n * 1)).toList = cellsV n fun _ => .slice none 0 0 := by
      rw [Nat.mul_one]
      exact (toList_madeCells_one _ _).trans (by unfold cellsV; rw [List.map_const', List.length_range])
    rw [e] at ho
    exact ⟨⟨hgrow.size, ho.lt, fun i hi => World.ownsRow_nil _ _ _ _, fun i hi => by simp [Value.ownBlock], fun i j _ _ _ g e => by simp [Value.ownBlock] at e⟩, ho, (Below.refl _ _).grown hgrow (Nat.le_refl _) (by simp), Nat.le_refl _⟩
  clear hown hgrow hi hz0 hz1 hz2
  have hG : Hid (w.heap.size = w.heap.size) := Lib.hid rfl
  generalize hG0 : w.heap.size = G0 at hS ⊢
  go_loopw [6, 7, 8] (fun r _ _ wr => ∃ (k : Nat) (V : Nat → Value), k ≤ len ∧ k % 2 = 0 ∧ r = .int .i64 (k : Int) ∧ PartS w G0 wr G0 n V (nbs ps (k / 2)) V) (fun r _ _ _ => len - (intOf r).toNat)
  case atStart => exact ⟨0, _, Nat.zero_le _, rfl, rfl, hS⟩
  case round =>
    obtain ⟨k, V, hk, hk2, rfl, hS'⟩ := hrel
    clear hS
    by_cases hlt : k < len
    · have hev := (pairs_len hp).2
      have hlt2 : k + 1 < len := by omega
      have hI := h.below (hG0 ▸ hS'.bel)
      obtain ⟨b, off, x, rfl, hbb, c0, hx⟩ := hI.get hlt
      obtain ⟨y, _, c1, hy⟩ := hI.nth hlt2
      have hw1 : IntKind.i64.wrap ((k : Int) + 1) = ((k + 1 : Nat) : Int) := by rw [IntWalk.i64_in _ (by omega)]; simp
      have hr := pairs_at hp (j := k / 2) (by omega)
      unfold pA pB at hr
      rw [show 2 * (k / 2) = k by omega, hx.out, hy.out] at hr
      obtain ⟨hxr, hyr, hxy⟩ := hr
      obtain ⟨xn, rfl⟩ : ∃ xn : Nat, x = (xn : Int) := ⟨x.toNat, by omega⟩
      obtain ⟨yn, rfl⟩ : ∃ yn : Nat, y = (yn : Int) := ⟨y.toNat, by omega⟩
      have hxn : xn < n := by omega
      have hyn : yn < n := by omega
      have hne : yn ≠ xn := by omega
      have hsucc := Lib.hid (nbs_succ (k := k) hx.out hy.out hk2 (Ne.symm hne))
      clear hx hy hI
      go_wp2
      go_quiet (fail)
      go_wp2
      have hS2 := hS'.drewN nq
      generalize wr.drewN nq = wd at *
      clear hS'
      have hS3 := hS2.drew
      have cx := hS2.get hxn
      have cy := hS2.get hyn
      have hol := hS2.rows.old
      have q1 : G0 ≠ wd.heap.size := by omega
      have q2 : wd.heap.size ≠ G0 := by omega
      have q3 : G0 ≠ wd.heap.size + 1 := by omega
      have q4 : wd.heap.size + 1 ≠ G0 := by omega
      have low : ∀ q, wd.heap.size ≤ q → some q ≠ (V xn).ownBlock := fun q hq e => by have := (hS2.rows.row xn hxn).lt q e.symm; omega
      have lx : (nbs ps (k / 2) xn).length ≤ 1000 := Nat.le_trans (nbTo_len _ _ _) (by have := (pairs_len hp).1; omega)
      have ly : (nbs ps (k / 2) yn).length ≤ 1000 := Nat.le_trans (nbTo_len _ _ _) (by have := (pairs_len hp).1; omega)
--REGION
      refine region_till (fun W => W.cell? ⟨G0, xn, none⟩ = some (V xn) ∧ W.cell? ⟨G0, yn, none⟩ = some (V yn)) 19 (by kernel_rfl) ?_
      have hS0 : (fun W : World => W.cell? ⟨G0, xn, none⟩ = some (V xn) ∧ W.cell? ⟨G0, yn, none⟩ = some (V yn)) wd.drew := ⟨hS3.get hxn, hS3.get hyn⟩
      have hS : ∀ p : Prop, p → (fun W : World => W.cell? ⟨G0, xn, none⟩ = some (V xn) ∧ W.cell? ⟨G0, yn, none⟩ = some (V yn)) wd.drew := fun _ _ => hS0
      refine anyTill.take0 (i := 0) (v := .slice (some ⟨G0, 0, none⟩) n n) rfl (by kernel_rfl) (by kernel_rfl) (by kernel_rfl) (by kernel_rfl) (fun _ _ _ h => h) (hS _) (by rfl) (by intro w; go_simp) ?_
      try simp only [Act.put, List.setIfInBounds_toArray, List.set_cons_zero, List.set_cons_succ]
      refine anyTill.take0 (i := 1) (v := .int .i64 (xn : Int)) rfl (by kernel_rfl) (by kernel_rfl) (by kernel_rfl) (by kernel_rfl) (fun _ _ _ h => h) (hS _) (by rfl) (by intro w; go_simp) ?_
      try simp only [Act.put, List.setIfInBounds_toArray, List.set_cons_zero, List.set_cons_succ]
      refine anyTill.take0 (i := 2) (v := .slice (some ⟨G0, 0, none⟩) n n) rfl (by kernel_rfl) (by kernel_rfl) (by kernel_rfl) (by kernel_rfl) (fun _ _ _ h => h) (hS _) (by rfl) (by intro w; go_simp) ?_
      try simp only [Act.put, List.setIfInBounds_toArray, List.set_cons_zero, List.set_cons_succ]
      refine anyTill.take0 (i := 3) (v := .int .i64 (yn : Int)) rfl (by kernel_rfl) (by kernel_rfl) (by kernel_rfl) (by kernel_rfl) (fun _ _ _ h => h) (hS _) (by rfl) (by intro w; go_simp) ?_
      try simp only [Act.put, List.setIfInBounds_toArray, List.set_cons_zero, List.set_cons_succ]
      refine anyTill.take0 (i := 4) (v := .slice (some ⟨G0, 0, none⟩) n n) rfl (by kernel_rfl) (by kernel_rfl) (by kernel_rfl) (by kernel_rfl) (fun _ _ _ h => h) (hS _) (by rfl) (by intro w; go_simp) ?_
      try simp only [Act.put, List.setIfInBounds_toArray, List.set_cons_zero, List.set_cons_succ]
      refine anyTill.take0 (i := 5) (v := .int .i64 (xn : Int)) rfl (by kernel_rfl) (by kernel_rfl) (by kernel_rfl) (by kernel_rfl) (fun _ _ _ h => h) (hS _) (by rfl) (by intro w; go_simp) ?_
      try simp only [Act.put, List.setIfInBounds_toArray, List.set_cons_zero, List.set_cons_succ]
      refine anyTill.take0 (i := 6) (v := .pointer (some ⟨G0, xn, none⟩)) rfl (by kernel_rfl) (by kernel_rfl) (by kernel_rfl) (by kernel_rfl) (fun _ _ _ h => h) (hS _) (by rfl) (by intro w; go_simp) ?_
      try simp only [Act.put, List.setIfInBounds_toArray, List.set_cons_zero, List.set_cons_succ]
      refine anyTill.take (i := 7) (v := V xn) rfl (by kernel_rfl) (by kernel_rfl) (by kernel_rfl) (by kernel_rfl) (fun _ _ _ h => h) hS0 (by rfl) (by intro w hSw; obtain ⟨sx, sy⟩ := hSw; go_simp) ?_
      try simp only [Act.put, List.setIfInBounds_toArray, List.set_cons_zero, List.set_cons_succ]
      refine anyTill.take0 (i := 8) (v := .int .i64 (yn : Int)) rfl (by kernel_rfl) (by kernel_rfl) (by kernel_rfl) (by kernel_rfl) (fun _ _ _ h => h) (hS _) (by rfl) (by intro w; go_simp) ?_
      try simp only [Act.put, List.setIfInBounds_toArray, List.set_cons_zero, List.set_cons_succ]
      refine anyTill.take0 (i := 11) (v := .slice (some ⟨G0, 0, none⟩) n n) rfl (by kernel_rfl) (by kernel_rfl) (by kernel_rfl) (by kernel_rfl) (fun _ _ _ h => h) (hS _) (by rfl) (by intro w; go_simp) ?_
      try simp only [Act.put, List.setIfInBounds_toArray, List.set_cons_zero, List.set_cons_succ]
      refine anyTill.take0 (i := 12) (v := .int .i64 (yn : Int)) rfl (by kernel_rfl) (by kernel_rfl) (by kernel_rfl) (by kernel_rfl) (fun _ _ _ h => h) (hS _) (by rfl) (by intro w; go_simp) ?_
      try simp only [Act.put, List.setIfInBounds_toArray, List.set_cons_zero, List.set_cons_succ]
      refine anyTill.take0 (i := 13) (v := .pointer (some ⟨G0, yn, none⟩)) rfl (by kernel_rfl) (by kernel_rfl) (by kernel_rfl) (by kernel_rfl) (fun _ _ _ h => h) (hS _) (by rfl) (by intro w; go_simp) ?_
      try simp only [Act.put, List.setIfInBounds_toArray, List.set_cons_zero, List.set_cons_succ]
      refine anyTill.take (i := 14) (v := V yn) rfl (by kernel_rfl) (by kernel_rfl) (by kernel_rfl) (by kernel_rfl) (fun _ _ _ h => h) hS0 (by rfl) (by intro w hSw; obtain ⟨sx, sy⟩ := hSw; go_simp) ?_
      try simp only [Act.put, List.setIfInBounds_toArray, List.set_cons_zero, List.set_cons_succ]
      refine anyTill.take0 (i := 15) (v := .int .i64 (xn : Int)) rfl (by kernel_rfl) (by kernel_rfl) (by kernel_rfl) (by kernel_rfl) (fun _ _ _ h => h) (hS _) (by rfl) (by intro w; go_simp) ?_
      try simp only [Act.put, List.setIfInBounds_toArray, List.set_cons_zero, List.set_cons_succ]
      refine anyTill.ready (rs := [9, 16]) (by kernel_rfl) (by simp) ?_
      refine ReadyTill.cons rfl (fun K hK => ?_) ?_
      · go_simp
        refine hK _ _ (fun _ => ⟨(hS3.alloc _).get hxn, (hS3.alloc _).get hyn⟩) ?_
        clear hK K
        try simp only [Act.put, List.setIfInBounds_toArray, List.set_cons_zero, List.set_cons_succ]
        refine anyTill.ready (rs := [10, 16]) (by kernel_rfl) (by simp) ?_
        refine ReadyTill.cons rfl (fun K hK => ?_) ?_
        · rw [if_pos (by rfl)]
          refine hold_app (s := .tmp 33) (x := .tmp 35) (i := xn) (xv := (yn : Int)) hxn (hS3.alloc _) (Nat.le_trans lx (by omega)) rfl rfl (OneAt.new' _ _ _ (by simp)) ?_
          intro g1 cap1 w2 hP1 hg1
          refine hK _ _ (fun _ => ⟨hP1.get hxn, hP1.get hyn⟩) ?_
          clear hK K
          try simp only [Act.put, List.setIfInBounds_toArray, List.set_cons_zero, List.set_cons_succ]
          refine anyTill.ready (rs := [16]) (by kernel_rfl) (by simp) ?_
          refine ReadyTill.cons rfl (fun K hK => ?_) ReadyTill.nil
          go_simp
          refine hK _ _ (fun _ => ⟨(hP1.alloc _).get hxn, (hP1.alloc _).get hyn⟩) ?_
          clear hK K
          try simp only [Act.put, List.setIfInBounds_toArray, List.set_cons_zero, List.set_cons_succ]
          refine anyTill.ready (rs := [17]) (by kernel_rfl) (by simp) ?_
          refine ReadyTill.cons rfl (fun K hK => ?_) ReadyTill.nil
          rw [if_pos (by rfl)]
          refine hold_app (s := .tmp 40) (x := .tmp 42) (i := yn) (xv := (xn : Int)) hyn (hP1.alloc _) (by rw [upd_other _ hne]; omega) (by rw [upd_other _ hne]; rfl) rfl (OneAt.new' _ _ _ (by simp)) ?_
          intro g2 cap2 w3 hP2 hg2
          refine hK _ _ (fun _ => ⟨hP2.get hxn, hP2.get hyn⟩) ?_
          clear hK K
          try simp only [Act.put, List.setIfInBounds_toArray, List.set_cons_zero, List.set_cons_succ]
          have ex := hP2.get hxn
          have ey := hP2.get hyn
          have fx := hP2.free xn
          have fy := hP2.free yn
          generalize hva : (nbs ps (k / 2) xn).length + 1 = m1 at *
          generalize hvb : (upd (nbs ps (k / 2)) xn (nbs ps (k / 2) xn ++ [(yn : Int)]) yn).length + 1 = m2 at *
          refine anyTill.take0 (i := 18) (v := .pointer (some ⟨G0, xn, none⟩)) rfl (by kernel_rfl) (by kernel_rfl) (by kernel_rfl) (by kernel_rfl) (fun _ _ _ h => h) (fun _ => ⟨hP2.get hxn, hP2.get hyn⟩) (by rfl) (by intro w; go_simp) ?_
          try simp only [Act.put, List.setIfInBounds_toArray, List.set_cons_zero, List.set_cons_succ]
          refine anyTill.ready (rs := [19]) (by kernel_rfl) (by simp) ?_
          refine ReadyTill.cons rfl (fun K hK => ?_) ReadyTill.nil
          go_simp
          have hP3 := hP2.put hxn (.slice (some ⟨g1, 0, none⟩) m1 cap1)
          refine hK _ _ (fun h => absurd h (by simp)) ?_
          clear hK K
          try simp only [Act.put, List.setIfInBounds_toArray, List.set_cons_zero, List.set_cons_succ]
          have gy := hP3.get hyn
          have ey2 := hP3.free yn
          generalize w3.setCell ⟨G0, xn, none⟩ (.slice (some ⟨g1, 0, none⟩) m1 cap1) = w4 at *
          refine anyTill.take0 (i := 20) (v := .pointer (some ⟨G0, yn, none⟩)) rfl (by kernel_rfl) (by kernel_rfl) (by kernel_rfl) (by kernel_rfl) (fun _ _ _ h => h) (fun h => absurd h (by simp)) (by rfl) (by intro w; go_simp) ?_
          try simp only [Act.put, List.setIfInBounds_toArray, List.set_cons_zero, List.set_cons_succ]
          refine anyTill.ready (rs := [21]) (by kernel_rfl) (by simp) ?_
          refine ReadyTill.cons rfl (fun K hK => ?_) ReadyTill.nil
          go_simp
          have hP4 := hP3.put hyn (.slice (some ⟨g2, 0, none⟩) m2 cap2)
          refine hK _ _ (fun h => absurd h (by simp)) ?_
          clear hK K
          try simp only [Act.put, List.setIfInBounds_toArray, List.set_cons_zero, List.set_cons_succ]
          refine anyTill.done (by kernel_rfl) ?_ _
          go_wp2
          go_roundw
          case rel =>
            refine ⟨k + 2, upd (upd V xn (.slice (some ⟨g1, 0, none⟩) m1 cap1)) yn (.slice (some ⟨g2, 0, none⟩) m2 cap2), by omega, by omega, by go_num, ?_⟩
            rw [show (k + 2) / 2 = k / 2 + 1 by omega, hsucc.out]
            rw [upd_other _ hne] at hP4
            exact hP4
          case measure => simp [intOf]; omega
        · refine ReadyTill.cons rfl (fun K hK => ?_) ReadyTill.nil
          go_simp
          refine hK _ _ (fun _ => ⟨((hS3.alloc _).alloc _).get hxn, ((hS3.alloc _).alloc _).get hyn⟩) ?_
          clear hK K
          try simp only [Act.put, List.setIfInBounds_toArray, List.set_cons_zero, List.set_cons_succ]
          refine anyTill.ready (rs := [10]) (by kernel_rfl) (by simp) ?_
          refine ReadyTill.cons rfl (fun K hK => ?_) ReadyTill.nil
          rw [if_pos (by rfl)]
          refine hold_app (s := .tmp 33) (x := .tmp 35) (i := xn) (xv := (yn : Int)) hxn ((hS3.alloc _).alloc _) (Nat.le_trans lx (by omega)) rfl rfl ((OneAt.new' _ _ _ (by simp)).alloc _) ?_
          intro g1 cap1 w2 hP1 hg1
          refine hK _ _ (fun _ => ⟨hP1.get hxn, hP1.get hyn⟩) ?_
          clear hK K
          try simp only [Act.put, List.setIfInBounds_toArray, List.set_cons_zero, List.set_cons_succ]
          refine anyTill.ready (rs := [17]) (by kernel_rfl) (by simp) ?_
          refine ReadyTill.cons rfl (fun K hK => ?_) ReadyTill.nil
          rw [if_pos (by rfl)]
          refine hold_app (s := .tmp 40) (x := .tmp 42) (i := yn) (xv := (xn : Int)) hyn hP1 (by rw [upd_other _ hne]; omega) (by rw [upd_other _ hne]; rfl) rfl ((OneAt.new' (wd.alloc _) (xn : Int) _ (by simp)).drew.grown hg1 (low _ (by omega))) ?_
          intro g2 cap2 w3 hP2 hg2
          refine hK _ _ (fun _ => ⟨hP2.get hxn, hP2.get hyn⟩) ?_
          clear hK K
          try simp only [Act.put, List.setIfInBounds_toArray, List.set_cons_zero, List.set_cons_succ]
          have ex := hP2.get hxn
          have ey := hP2.get hyn
          have fx := hP2.free xn
          have fy := hP2.free yn
          generalize hva : (nbs ps (k / 2) xn).length + 1 = m1 at *
          generalize hvb : (upd (nbs ps (k / 2)) xn (nbs ps (k / 2) xn ++ [(yn : Int)]) yn).length + 1 = m2 at *
          refine anyTill.take0 (i := 18) (v := .pointer (some ⟨G0, xn, none⟩)) rfl (by kernel_rfl) (by kernel_rfl) (by kernel_rfl) (by kernel_rfl) (fun _ _ _ h => h) (fun _ => ⟨hP2.get hxn, hP2.get hyn⟩) (by rfl) (by intro w; go_simp) ?_
          try simp only [Act.put, List.setIfInBounds_toArray, List.set_cons_zero, List.set_cons_succ]
          refine anyTill.ready (rs := [19]) (by kernel_rfl) (by simp) ?_
          refine ReadyTill.cons rfl (fun K hK => ?_) ReadyTill.nil
          go_simp
          have hP3 := hP2.put hxn (.slice (some ⟨g1, 0, none⟩) m1 cap1)
          refine hK _ _ (fun h => absurd h (by simp)) ?_
          clear hK K
          try simp only [Act.put, List.setIfInBounds_toArray, List.set_cons_zero, List.set_cons_succ]
          have gy := hP3.get hyn
          have ey2 := hP3.free yn
          generalize w3.setCell ⟨G0, xn, none⟩ (.slice (some ⟨g1, 0, none⟩) m1 cap1) = w4 at *
          refine anyTill.take0 (i := 20) (v := .pointer (some ⟨G0, yn, none⟩)) rfl (by kernel_rfl) (by kernel_rfl) (by kernel_rfl) (by kernel_rfl) (fun _ _ _ h => h) (fun h => absurd h (by simp)) (by rfl) (by intro w; go_simp) ?_
          try simp only [Act.put, List.setIfInBounds_toArray, List.set_cons_zero, List.set_cons_succ]
          refine anyTill.ready (rs := [21]) (by kernel_rfl) (by simp) ?_
          refine ReadyTill.cons rfl (fun K hK => ?_) ReadyTill.nil
          go_simp
          have hP4 := hP3.put hyn (.slice (some ⟨g2, 0, none⟩) m2 cap2)
          refine hK _ _ (fun h => absurd h (by simp)) ?_
          clear hK K
          try simp only [Act.put, List.setIfInBounds_toArray, List.set_cons_zero, List.set_cons_succ]
          refine anyTill.done (by kernel_rfl) ?_ _
          go_wp2
          go_roundw
          case rel =>
            refine ⟨k + 2, upd (upd V xn (.slice (some ⟨g1, 0, none⟩) m1 cap1)) yn (.slice (some ⟨g2, 0, none⟩) m2 cap2), by omega, by omega, by go_num, ?_⟩
            rw [show (k + 2) / 2 = k / 2 + 1 by omega, hsucc.out]
            rw [upd_other _ hne] at hP4
            exact hP4
          case measure => simp [intOf]; omega
      · refine ReadyTill.cons rfl (fun K hK => ?_) ReadyTill.nil
        go_simp
        refine hK _ _ (fun _ => ⟨(hS3.alloc _).get hxn, (hS3.alloc _).get hyn⟩) ?_
        clear hK K
        try simp only [Act.put, List.setIfInBounds_toArray, List.set_cons_zero, List.set_cons_succ]
        refine anyTill.ready (rs := [9]) (by kernel_rfl) (by simp) ?_
        refine ReadyTill.cons rfl (fun K hK => ?_) ReadyTill.nil
        go_simp
        refine hK _ _ (fun _ => ⟨((hS3.alloc _).alloc _).get hxn, ((hS3.alloc _).alloc _).get hyn⟩) ?_
        clear hK K
        try simp only [Act.put, List.setIfInBounds_toArray, List.set_cons_zero, List.set_cons_succ]
        refine anyTill.ready (rs := [10]) (by kernel_rfl) (by simp) ?_
        refine ReadyTill.cons rfl (fun K hK => ?_) ReadyTill.nil
        rw [if_pos (by rfl)]
        refine hold_app (s := .tmp 33) (x := .tmp 35) (i := xn) (xv := (yn : Int)) hxn ((hS3.alloc _).alloc _) (Nat.le_trans lx (by omega)) rfl rfl (OneAt.new' _ _ _ (by simp)) ?_
        intro g1 cap1 w2 hP1 hg1
        refine hK _ _ (fun _ => ⟨hP1.get hxn, hP1.get hyn⟩) ?_
        clear hK K
        try simp only [Act.put, List.setIfInBounds_toArray, List.set_cons_zero, List.set_cons_succ]
        refine anyTill.ready (rs := [17]) (by kernel_rfl) (by simp) ?_
        refine ReadyTill.cons rfl (fun K hK => ?_) ReadyTill.nil
        rw [if_pos (by rfl)]
        refine hold_app (s := .tmp 40) (x := .tmp 42) (i := yn) (xv := (xn : Int)) hyn hP1 (by rw [upd_other _ hne]; omega) (by rw [upd_other _ hne]; rfl) rfl (((OneAt.new' wd (xn : Int) _ (by simp)).alloc _).drew.grown hg1 (low _ (by omega))) ?_
        intro g2 cap2 w3 hP2 hg2
        refine hK _ _ (fun _ => ⟨hP2.get hxn, hP2.get hyn⟩) ?_
        clear hK K
        try simp only [Act.put, List.setIfInBounds_toArray, List.set_cons_zero, List.set_cons_succ]
        have ex := hP2.get hxn
        have ey := hP2.get hyn
        have fx := hP2.free xn
        have fy := hP2.free yn
        generalize hva : (nbs ps (k / 2) xn).length + 1 = m1 at *
        generalize hvb : (upd (nbs ps (k / 2)) xn (nbs ps (k / 2) xn ++ [(yn : Int)]) yn).length + 1 = m2 at *
        refine anyTill.take0 (i := 18) (v := .pointer (some ⟨G0, xn, none⟩)) rfl (by kernel_rfl) (by kernel_rfl) (by kernel_rfl) (by kernel_rfl) (fun _ _ _ h => h) (fun _ => ⟨hP2.get hxn, hP2.get hyn⟩) (by rfl) (by intro w; go_simp) ?_
        try simp only [Act.put, List.setIfInBounds_toArray, List.set_cons_zero, List.set_cons_succ]
        refine anyTill.ready (rs := [19]) (by kernel_rfl) (by simp) ?_
        refine ReadyTill.cons rfl (fun K hK => ?_) ReadyTill.nil
        go_simp
        have hP3 := hP2.put hxn (.slice (some ⟨g1, 0, none⟩) m1 cap1)
        refine hK _ _ (fun h => absurd h (by simp)) ?_
        clear hK K
        try simp only [Act.put, List.setIfInBounds_toArray, List.set_cons_zero, List.set_cons_succ]
        have gy := hP3.get hyn
        have ey2 := hP3.free yn
        generalize w3.setCell ⟨G0, xn, none⟩ (.slice (some ⟨g1, 0, none⟩) m1 cap1) = w4 at *
        refine anyTill.take0 (i := 20) (v := .pointer (some ⟨G0, yn, none⟩)) rfl (by kernel_rfl) (by kernel_rfl) (by kernel_rfl) (by kernel_rfl) (fun _ _ _ h => h) (fun h => absurd h (by simp)) (by rfl) (by intro w; go_simp) ?_
        try simp only [Act.put, List.setIfInBounds_toArray, List.set_cons_zero, List.set_cons_succ]
        refine anyTill.ready (rs := [21]) (by kernel_rfl) (by simp) ?_
        refine ReadyTill.cons rfl (fun K hK => ?_) ReadyTill.nil
        go_simp
        have hP4 := hP3.put hyn (.slice (some ⟨g2, 0, none⟩) m2 cap2)
        refine hK _ _ (fun h => absurd h (by simp)) ?_
        clear hK K
        try simp only [Act.put, List.setIfInBounds_toArray, List.set_cons_zero, List.set_cons_succ]
        refine anyTill.done (by kernel_rfl) ?_ _
        go_wp2
        go_roundw
        case rel =>
          refine ⟨k + 2, upd (upd V xn (.slice (some ⟨g1, 0, none⟩) m1 cap1)) yn (.slice (some ⟨g2, 0, none⟩) m2 cap2), by omega, by omega, by go_num, ?_⟩
          rw [show (k + 2) / 2 = k / 2 + 1 by omega, hsucc.out]
          rw [upd_other _ hne] at hP4
          exact hP4
        case measure => simp [intOf]; omega
--NOIGER
    · obtain rfl : k = len := by omega
      go_wp2
      go_ret
      exact ⟨G0, V, rfl, by rw [hG0, hl]; exact hS'⟩
end Go.Proofs.Ytpebibhnaopbnaa
