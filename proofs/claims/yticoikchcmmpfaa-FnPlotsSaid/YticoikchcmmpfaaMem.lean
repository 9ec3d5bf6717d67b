/-
  Slices of floats that are only read.
-/
import Derived.Test.YticoikchcmmpfaaFlo
import Derived.Deep.LoopGhost
import Derived.Deep.QuietTactic
import Derived.BigQuiet
import Derived.Lib.Hide
namespace Go.Proofs.Yticoikchcmmpfaa
open Go.RowKit

/-- A slice that reads as the words zs. -/
def FlS (w : World) (a : Option Addr) (len : Nat) (zs : List Nat) : Prop :=
  zs.length = len ∧ len ≤ 1048576 ∧ (len = 0 ∨ ∃ b off, a = some ⟨b, off, none⟩ ∧ b < w.heap.size ∧ ∀ i, i < len → w.cell? ⟨b, off + i, none⟩ = some (.float .f32 (zs.getD i 0)))

theorem FlS.below {w w' : World} {a : Option Addr} {len : Nat} {zs : List Nat} (h : FlS w a len zs) (hb : Below w.heap.size w w') : FlS w' a len zs := by
  obtain ⟨h1, h2, h3⟩ := h
  refine ⟨h1, h2, ?_⟩
  rcases h3 with h3 | ⟨b, off, ha, hlt, hc⟩
  · exact .inl h3
  · exact .inr ⟨b, off, ha, Nat.lt_of_lt_of_le hlt hb.size, fun i hi => (hb.cell (p := ⟨b, off + i, none⟩) hlt).trans (hc i hi)⟩

theorem getD_at {α : Type} {l : List α} {k : Nat} {d : α} (h : k < l.length) : l.getD k d = l[k] := by simp [List.getD_eq_getElem?_getD, h]

theorem FlS.len {w : World} {a : Option Addr} {len : Nat} {zs : List Nat} (h : FlS w a len zs) : zs.length = len := h.1
theorem FlS.max {w : World} {a : Option Addr} {len : Nat} {zs : List Nat} (h : FlS w a len zs) : len ≤ 1048576 := h.2.1
theorem FlS.get {w : World} {a : Option Addr} {len : Nat} {zs : List Nat} (h : FlS w a len zs) {k : Nat} (hk : k < len) : ∃ b off z, a = some ⟨b, off, none⟩ ∧ b < w.heap.size ∧ w.cell? ⟨b, off + k, none⟩ = some (.float .f32 z) ∧ Hid (zs.getD k 0 = z) := by
  rcases h.2.2 with h3 | ⟨b, off, ha, hlt, hc⟩
  · omega
  · exact ⟨b, off, _, ha, hlt, hc k hk, rfl⟩

/-- All numbers are finite. -/
def finAll (zs : List Nat) : Bool := zs.all fun z => isNum .f32 (cl .f32 z)

theorem finAll_step {zs : List Nat} {k : Nat} (hk : k < zs.length) (h : finAll (zs.take k) = true) {z : Nat} (hz : Hid (zs.getD k 0 = z)) (h2 : isNum .f32 (cl .f32 z) = true) : finAll (zs.take (k + 1)) = true := by
  unfold finAll at *
  rw [List.take_succ_eq_append_getElem hk, List.all_append, h]
  rw [← hz.out, getD_at hk] at h2
  simp [h2]

theorem finAll_no {zs : List Nat} {k : Nat} (hk : k < zs.length) {z : Nat} (hz : Hid (zs.getD k 0 = z)) (h2 : isNum .f32 (cl .f32 z) = false) : finAll zs = false := by
  unfold finAll
  rw [← hz.out, getD_at hk] at h2
  rw [List.all_eq_false]
  exact ⟨_, List.getElem_mem hk, by simp [h2]⟩

theorem finAll_full {zs : List Nat} {k : Nat} (hk : zs.length ≤ k) (h : finAll (zs.take k) = true) : finAll zs = true := by
  rw [List.take_of_length_le hk] at h
  exact h

theorem bcell {W w1 : World} (hb : Below W.heap.size W w1) : (∀ b o, b < W.heap.size → w1.cell? ⟨b, o, none⟩ = W.cell? ⟨b, o, none⟩) ∧ (∀ b o, b < W.heap.size → w1.frozen? ⟨b, o, none⟩ = W.frozen? ⟨b, o, none⟩) :=
  ⟨fun b o h => hb.cell (p := ⟨b, o, none⟩) h, fun b o h => hb.frozen (p := ⟨b, o, none⟩) h⟩

/-- Contracts inside a region that is walked by go_quiet. -/
theorem q_same {P : Program} {f : FuncId} {args : Array Value} {w : World} {n : Nat} {v : Value} (h : Calls P f args (w.drewN n) fun e w' => e = .returned v ∧ w.drewN n = w') : Calls P f args (w.drewN n) fun e w'' => e = .returned v ∧ ∃ m, w'' = w.drewN m :=
  h.mono fun _ _ ⟨a, b⟩ => ⟨a, n, b.symm⟩
theorem q_ret {P : Program} {f : FuncId} {args : Array Value} {w : World} {n : Nat} {v : Value} (h : Calls P f args (w.drewN n) (RetD v (w.drewN n))) : Calls P f args (w.drewN n) fun e w'' => e = .returned v ∧ ∃ m, w'' = w.drewN m :=
  h.mono fun _ _ ⟨a, m, b⟩ => ⟨a, n + m, by rw [b, World.drewN_drewN]⟩

theorem FlS.drewN {w : World} {a : Option Addr} {len : Nat} {zs : List Nat} (h : FlS w a len zs) (n : Nat) : FlS (w.drewN n) a len zs := h

/-! ### Blocks that the call knows whole -/
/-- Block g holds just these cells, of element type E. -/
def Own (E : TypeId) (w : World) (g : Nat) (vs : List Value) : Prop := w.heap[g]? = some (.cells vs.toArray E (0, 0))

section
variable {E : TypeId} {w w' : World} {g : Nat} {vs : List Value}
theorem Own.lt (h : Own E w g vs) : g < w.heap.size := by
  rcases Nat.lt_or_ge g w.heap.size with h' | h'
  · exact h'
  · unfold Own at h; simp [Array.getElem?_eq_none h'] at h
theorem Own.cell (h : Own E w g vs) (k : Nat) : w.cell? ⟨g, k, none⟩ = vs[k]? := by rw [cell_of_row w g k _ _ _ h]; simp
theorem Own.at (h : Own E w g vs) {k : Nat} {v : Value} (hk : vs[k]? = some v) : w.cell? ⟨g, k, none⟩ = some v := by rw [h.cell, hk]
theorem Own.free (h : Own E w g vs) (k : Nat) : w.frozen? ⟨g, k, none⟩ = false := frozen_of_row w g k _ _ h
theorem Own.set (h : Own E w g vs) (k : Nat) (v : Value) : Own E (w.setCell ⟨g, k, none⟩ v) g (vs.set k v) := by
  unfold Own at *
  rw [heap_setCell_same w g k _ _ v h]
  simp
theorem Own.drew (h : Own E w g vs) (n : Nat) : Own E (w.drewN n) g vs := h
theorem Own.other (h : Own E w g vs) {a : Addr} (ha : g ≠ a.block) (v : Value) : Own E (w.setCell a v) g vs := by
  unfold Own at *
  rw [heap_setCell_other w a g v ha]
  exact h
theorem Own.block (h : Own E w g vs) (hb : w'.heap[g]? = w.heap[g]?) : Own E w' g vs := by unfold Own at *; rw [hb]; exact h
theorem Own.below (h : Own E w g vs) (hb : Below w.heap.size w w') : Own E w' g vs := h.block (hb.block g h.lt)
theorem Own.grown (h : Own E w g vs) {row : Option Nat} (hb : w.grownBy w' row) (hne : some g ≠ row) : Own E w' g vs := h.block (hb.block g h.lt hne)
theorem Own.new (w : World) (vs : List Value) (E : TypeId) : Own E (w.alloc (.cells vs.toArray E)) w.heap.size vs := heap_alloc_new w _
theorem Own.alloc (h : Own E w g vs) (o : Obj) : Own E (w.alloc o) g vs := h.block (Below.heap_alloc w o g h.lt)
/-- What 'make([]T, n)' leaves. -/
theorem Own.of_row {base n size : Nat} {xs : List Value} (h : w.ownsRow base E size (.slice (some ⟨g, 0, none⟩) n n) n xs) : Own E w g xs := by
  obtain ⟨_, h2 | ⟨g', cap, cur, hv, _, hg, _, _, hs, ht⟩⟩ := h
  · simp at h2
  · simp only [Value.slice.injEq, Option.some.injEq, Addr.mk.injEq, and_true, true_and] at hv
    obtain ⟨rfl, rfl⟩ := hv
    have : cur.toList.take (n * size) = cur.toList := List.take_of_length_le (by simp [hs])
    rw [this] at ht
    unfold Own
    rw [hg, ← ht]
end

/-- The floats with these words. -/
def fls (zs : List Nat) : List Value := zs.map (Value.float .f32)
theorem fls_len (zs : List Nat) : (fls zs).length = zs.length := by simp [fls]
theorem fls_get {zs : List Nat} {k : Nat} (h : k < zs.length) : (fls zs)[k]? = some (.float .f32 (zs.getD k 0)) := by simp [fls, h]

theorem fls_made (n : Nat) : (madeCells (Value.float .f32 0).cells (n * 1)).toList = fls (List.replicate n 0) := by
  rw [Nat.mul_one]
  exact (toList_madeCells_one _ _).trans (by simp [fls])

/-- A cell of a slice that is being filled. -/
theorem fls_mid {zs : List Nat} {n k : Nat} (hl : zs.length = n) (hk : k < n) : (fls (zs.take k ++ List.replicate (n - k) 0))[k]? = some (.float .f32 0) := by
  unfold fls
  have e : (zs.take k).length = k := by simp; omega
  rw [List.map_append, List.getElem?_append_right (by rw [List.length_map, e]; exact Nat.le_refl _), List.length_map, e, Nat.sub_self, show n - k = (n - k - 1) + 1 by omega, List.replicate_succ]
  rfl

/-- A made slice reads as what its block holds. -/
theorem FlS.of_own {E : TypeId} {w : World} {g : Nat} {zs : List Nat} (h : Own E w g (fls zs)) (hm : zs.length ≤ 1048576) : FlS w (some ⟨g, 0, none⟩) zs.length zs :=
  ⟨rfl, hm, .inr ⟨g, 0, rfl, h.lt, fun i hi => by rw [Nat.zero_add]; exact h.at (fls_get hi)⟩⟩

theorem fls_set {zs : List Nat} {k n : Nat} (hk : k < n) (hz : k < zs.length) {z : Nat} (h : zs.getD k 0 = z) :
    (fls (zs.take k ++ List.replicate (n - k) 0)).set k (.float .f32 z) = fls (zs.take (k + 1) ++ List.replicate (n - (k + 1)) 0) := by
  unfold fls
  rw [show n - k = (n - (k + 1)) + 1 by omega, List.replicate_succ]
  rw [List.map_append, List.map_cons]
  have e1 : (List.map (Value.float .f32) (List.take k zs)).length = k := by simp; omega
  have e2 : ∀ (A B : List Value) (x y : Value), A.length = k → (A ++ y :: B).set k x = A ++ x :: B := fun A B x y h => by
    subst h
    simp
  rw [e2 _ _ _ _ e1]
  rw [List.take_succ_eq_append_getElem hz, ← h, getD_at hz]
  simp only [List.map_append, List.map_cons, List.append_assoc, List.cons_append, List.nil_append]
end Go.Proofs.Yticoikchcmmpfaa
