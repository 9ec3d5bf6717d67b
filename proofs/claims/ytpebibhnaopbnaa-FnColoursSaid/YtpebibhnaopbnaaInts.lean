/-
  Rows of whole numbers: those that are read, and those of the call's own.
-/
import Derived.WalkKit
import Derived.WalkLawsBesides
import Derived.KernelRfl
import Derived.Deep.Draws
import Derived.Deep.LoopGhost
import Derived.Deep.QuietTactic
import Derived.BigQuiet
import Derived.Lib.Hide
import Derived.Laws.AppendOwn
import Derived.Laws.MakeOwn
import Derived.OwnWalk
import Derived.Test.YtpebibhnaopbnaaChecked
namespace Go.Proofs.Ytpebibhnaopbnaa
open Go.RowKit

section
variable (w : World) (n : Nat) (a : Addr)
@[simp, go_sem] theorem alloc_drewN (o : Obj) : (w.drewN n).alloc o = (w.alloc o).drewN n := rfl
@[simp, go_sem] theorem setCell_drewN (u : Value) : (w.drewN n).setCell a u = (w.setCell a u).drewN n := rfl
end
theorem below_drewN {B : Nat} {w w' : World} (h : Below B w w') (d : Nat) : Below B w (w'.drewN d) := ⟨h.os, h.tape, h.output, h.size, h.block⟩
theorem below_of_drewN {B : Nat} {w w' : World} {d : Nat} (h : Below B (w.drewN d) w') : Below B w w' := ⟨h.os, h.tape, h.output, h.size, h.block⟩

/-- Nothing but draws. -/
def Drew (w w' : World) : Prop := ∃ d, w' = w.drewN d
theorem Drew.refl (w : World) : Drew w w := ⟨0, rfl⟩
theorem Drew.n (w : World) (d : Nat) : Drew w (w.drewN d) := ⟨d, rfl⟩
theorem Drew.below {w w' : World} (h : Drew w w') (B : Nat) : Below B w w' := by
  obtain ⟨d, rfl⟩ := h
  exact below_drewN (Below.refl _ _) d
theorem Drew.next {w w' : World} (h : Drew w w') (d : Nat) : Drew w (w'.drewN d) := by
  obtain ⟨e, rfl⟩ := h
  exact ⟨e + d, by rw [World.drewN_drewN]⟩
def RetD (v : Value) (w : World) (e : Ending) (w' : World) : Prop := e = .returned v ∧ Drew w w'
/-- A call that hands back v, and makes no more than new memory. -/
def RetB (v : Value) (w : World) (e : Ending) (w' : World) : Prop := e = .returned v ∧ Below w.heap.size w w'

theorem getD_at {α : Type} {l : List α} {k : Nat} {d : α} (h : k < l.length) : l.getD k d = l[k] := by simp [List.getD_eq_getElem?_getD, h]
theorem bcell {W w1 : World} (hb : Below W.heap.size W w1) : (∀ b o, b < W.heap.size → w1.cell? ⟨b, o, none⟩ = W.cell? ⟨b, o, none⟩) ∧ (∀ b o, b < W.heap.size → w1.frozen? ⟨b, o, none⟩ = W.frozen? ⟨b, o, none⟩) :=
  ⟨fun b o h => hb.cell (p := ⟨b, o, none⟩) h, fun b o h => hb.frozen (p := ⟨b, o, none⟩) h⟩
theorem q_ret {P : Program} {f : FuncId} {args : Array Value} {w : World} {n : Nat} {v : Value} (h : Calls P f args (w.drewN n) (RetD v (w.drewN n))) : Calls P f args (w.drewN n) fun e w'' => e = .returned v ∧ ∃ m, w'' = w.drewN m :=
  h.mono fun _ _ ⟨a, m, b⟩ => ⟨a, n + m, by rw [b, World.drewN_drewN]⟩
theorem q_same {P : Program} {f : FuncId} {args : Array Value} {w : World} {n : Nat} {v : Value} (h : Calls P f args (w.drewN n) fun e w' => e = .returned v ∧ w.drewN n = w') : Calls P f args (w.drewN n) fun e w'' => e = .returned v ∧ ∃ m, w'' = w.drewN m :=
  h.mono fun _ _ ⟨a, b⟩ => ⟨a, n, b.symm⟩

/-! ### Blocks that the call knows whole -/
/-- Block g holds just these cells, of element type E. -/
def Own (E : TypeId) (w : World) (g : Nat) (vs : List Value) : Prop := w.heap[g]? = some (.cells vs.toArray E (0, 0))

section
variable {E : TypeId} {w w' : World} {g : Nat} {vs : List Value}
theorem Own.lt (h : Own E w g vs) : g < w.heap.size := by
  rcases Nat.lt_or_ge g w.heap.size with h' | h'
  · exact h'
  · unfold Own at h; simp [Array.getElem?_eq_none h'] at h
theorem Own.cell (h : Own E w g vs) (k : Nat) : w.cell? ⟨g, k, none⟩ = vs[k]? := by rw [cell_of_row w g k _ _ _ h]; simp
theorem Own.at (h : Own E w g vs) {k : Nat} {v : Value} (hk : vs[k]? = some v) : w.cell? ⟨g, k, none⟩ = some v := by rw [h.cell, hk]
theorem Own.free (h : Own E w g vs) (k : Nat) : w.frozen? ⟨g, k, none⟩ = false := frozen_of_row w g k _ _ h
theorem Own.set (h : Own E w g vs) (k : Nat) (v : Value) : Own E (w.setCell ⟨g, k, none⟩ v) g (vs.set k v) := by
  unfold Own at *
  rw [heap_setCell_same w g k _ _ v h]
  simp
theorem Own.drew (h : Own E w g vs) (n : Nat) : Own E (w.drewN n) g vs := h
theorem Own.other (h : Own E w g vs) {a : Addr} (ha : g ≠ a.block) (v : Value) : Own E (w.setCell a v) g vs := by
  unfold Own at *
  rw [heap_setCell_other w a g v ha]
  exact h
theorem Own.block (h : Own E w g vs) (hb : w'.heap[g]? = w.heap[g]?) : Own E w' g vs := by unfold Own at *; rw [hb]; exact h
theorem Own.below (h : Own E w g vs) (hb : Below w.heap.size w w') : Own E w' g vs := h.block (hb.block g h.lt)
theorem Own.grown (h : Own E w g vs) {row : Option Nat} (hb : w.grownBy w' row) (hne : some g ≠ row) : Own E w' g vs := h.block (hb.block g h.lt hne)
theorem Own.new (w : World) (vs : List Value) (E : TypeId) : Own E (w.alloc (.cells vs.toArray E)) w.heap.size vs := heap_alloc_new w _
theorem Own.alloc (h : Own E w g vs) (o : Obj) : Own E (w.alloc o) g vs := h.block (Below.heap_alloc w o g h.lt)
/-- What 'make([]T, n)' leaves. -/
theorem Own.of_row {base n size : Nat} {xs : List Value} (h : w.ownsRow base E size (.slice (some ⟨g, 0, none⟩) n n) n xs) : Own E w g xs := by
  obtain ⟨_, h2 | ⟨g', cap, cur, hv, _, hg, _, _, hs, ht⟩⟩ := h
  · simp at h2
  · simp only [Value.slice.injEq, Option.some.injEq, Addr.mk.injEq, and_true, true_and] at hv
    obtain ⟨rfl, rfl⟩ := hv
    have : cur.toList.take (n * size) = cur.toList := List.take_of_length_le (by simp [hs])
    rw [this] at ht
    unfold Own
    rw [hg, ← ht]
end

/-- Only the block of a has turned. -/
def OnlyAt (a : Option Addr) (len : Nat) (w w' : World) : Prop :=
  w'.os = w.os ∧ w'.tape = w.tape ∧ w'.output = w.output ∧ w'.heap.size = w.heap.size ∧ ∀ k, (len ≠ 0 → ∀ g, a = some ⟨g, 0, none⟩ → k ≠ g) → w'.heap[k]? = w.heap[k]?

theorem OnlyAt.refl (a : Option Addr) (len : Nat) (w : World) : OnlyAt a len w w := ⟨rfl, rfl, rfl, rfl, fun _ _ => rfl⟩
theorem OnlyAt.set {g len : Nat} {w w' : World} (h : OnlyAt (some ⟨g, 0, none⟩) len w w') (hl : len ≠ 0) (k : Nat) (v : Value) : OnlyAt (some ⟨g, 0, none⟩) len w (w'.setCell ⟨g, k, none⟩ v) := by
  obtain ⟨h1, h2, h3, h4, h5⟩ := h
  have b := (Below.refl 0 w').setCell (p := ⟨g, k, none⟩) (Nat.zero_le _) v
  refine ⟨b.os.trans h1, b.tape.trans h2, b.output.trans h3, by simpa using h4, fun j hj => ?_⟩
  rw [heap_setCell_other w' _ j v (hj hl g rfl)]
  exact h5 j hj
theorem OnlyAt.below {a : Option Addr} {len B : Nat} {w w' : World} (h : OnlyAt a len w w') (hb : len ≠ 0 → ∀ g, a = some ⟨g, 0, none⟩ → B ≤ g) : Below B w w' :=
  ⟨h.1, h.2.1, h.2.2.1, Nat.le_of_eq h.2.2.2.1.symm, fun k hk => h.2.2.2.2 k fun hl g hg e => by have := hb hl g hg; omega⟩

/-- A slice of the call's own that reads as these cells: nothing else looks at its block. -/
def MineV (E : TypeId) (B : Nat) (w : World) (a : Option Addr) (len : Nat) (vs : List Value) : Prop :=
  vs.length = len ∧ len ≤ 1048576 ∧ (len = 0 ∨ ∃ g rest, a = some ⟨g, 0, none⟩ ∧ B ≤ g ∧ Own E w g (vs ++ rest))
section
variable {E : TypeId} {B : Nat} {w w' : World} {a a' : Option Addr} {len len' : Nat} {vs us : List Value}
theorem MineV.base (h : MineV E B w a len vs) : len ≠ 0 → ∀ g, a = some ⟨g, 0, none⟩ → B ≤ g := by
  intro hl g hg
  rcases h.2.2 with h0 | ⟨g', rest, rfl, hB, _⟩
  · exact absurd h0 hl
  · simp at hg; omega
theorem MineV.below (h : MineV E B w a len vs) (hb : Below w.heap.size w w') : MineV E B w' a len vs := by
  obtain ⟨h1, h2, h3⟩ := h
  refine ⟨h1, h2, ?_⟩
  rcases h3 with h3 | ⟨g, rest, rfl, hB, ho⟩
  · exact .inl h3
  · exact .inr ⟨g, rest, rfl, hB, ho.below hb⟩
theorem MineV.nil (E : TypeId) (B : Nat) (w : World) : MineV E B w none 0 [] := ⟨rfl, by omega, .inl rfl⟩
theorem MineV.of_own {g : Nat} (h : Own E w g vs) (hB : B ≤ g) (hm : vs.length ≤ 1048576) : MineV E B w (some ⟨g, 0, none⟩) vs.length vs :=
  ⟨rfl, hm, .inr ⟨g, [], rfl, hB, by simpa using h⟩⟩
theorem MineV.other (h : MineV E B w a len vs) (ho : OnlyAt a' len' w w') (hne : len ≠ 0 → len' ≠ 0 → a ≠ a') : MineV E B w' a len vs := by
  obtain ⟨h1, h2, h3⟩ := h
  refine ⟨h1, h2, ?_⟩
  rcases h3 with h3 | ⟨g, rest, rfl, hB, hw⟩
  · exact .inl h3
  · by_cases hl : len = 0
    · exact .inl hl
    · refine .inr ⟨g, rest, rfl, hB, hw.block (ho.2.2.2.2 g fun hl' g' hg' e => ?_)⟩
      subst e
      exact hne hl hl' hg'.symm
theorem MineV.mono {B' : Nat} (h : MineV E B w a len vs) (hB : B' ≤ B) : MineV E B' w a len vs := by
  obtain ⟨h1, h2, h3⟩ := h
  refine ⟨h1, h2, ?_⟩
  rcases h3 with h3 | ⟨g, rest, rfl, hg, ho⟩
  · exact .inl h3
  · exact .inr ⟨g, rest, rfl, Nat.le_trans hB hg, ho⟩
/-- What is older lies elsewhere. -/
def Old (w : World) (a : Option Addr) (len : Nat) : Prop := len ≠ 0 → ∀ g, a = some ⟨g, 0, none⟩ → g < w.heap.size
theorem MineV.old (h : MineV E B w a len vs) : Old w a len := by
  intro hl g hg
  rcases h.2.2 with h0 | ⟨g', rest, rfl, hB, ho⟩
  · exact absurd h0 hl
  · simp at hg; have := ho.lt; omega
theorem MineV.apart (h : Old w a' len') (h' : MineV E w.heap.size w' a len vs) (hl' : len' ≠ 0) (hl : len ≠ 0) : a' ≠ a := by
  rcases h'.2.2 with h0 | ⟨g', rest', rfl, hg', ho'⟩
  · exact absurd h0 hl
  intro e
  have := h hl' g' e
  omega
end

/-- Cells of which the first k have turned. -/
def turnV (vs new : List Value) (k : Nat) : List Value := new.take k ++ vs.drop k
theorem turnV_set {vs new : List Value} {k : Nat} (rest : List Value) (hk : k < vs.length) (hl : new.length = vs.length) {v : Value} (hv : new[k]? = some v) :
    (turnV vs new k ++ rest).set k v = turnV vs new (k + 1) ++ rest := by
  unfold turnV
  obtain ⟨hk', rfl⟩ := List.getElem?_eq_some_iff.1 hv
  have e1 : (new.take k).length = k := by simp; omega
  rw [List.take_succ_eq_append_getElem hk', List.drop_eq_getElem_cons hk]
  generalize new[k] = v
  generalize vs[k] = u
  generalize new.take k = A at *
  generalize vs.drop (k + 1) = D
  subst e1
  simp
theorem turnV_at {vs new : List Value} {k : Nat} (rest : List Value) (hk : k < vs.length) (hl : new.length = vs.length) : (turnV vs new k ++ rest)[k]? = vs[k]? := by
  unfold turnV
  have e1 : (new.take k).length = k := by simp; omega
  rw [List.append_assoc, List.getElem?_append_right (by omega), e1, Nat.sub_self, List.getElem?_append_left (by simp; omega)]
  simp
theorem turnV_full {vs new : List Value} (hl : new.length = vs.length) : turnV vs new vs.length = new := by
  unfold turnV
  rw [List.drop_length, List.append_nil, ← hl, List.take_length]
theorem turnV_zero (vs new : List Value) : turnV vs new 0 = vs := by simp [turnV]

/-- Whole numbers. -/
def ints (xs : List Int) : List Value := xs.map (Value.int .i64)
theorem ints_len (xs : List Int) : (ints xs).length = xs.length := by simp [ints]
theorem ints_get {xs : List Int} {k : Nat} (h : k < xs.length) : (ints xs)[k]? = some (.int .i64 (xs.getD k 0)) := by simp [ints, h]
def markI (n : Nat) (k : Int) : List Int := (List.range n).map fun i : Nat => k + (i : Int)
theorem markI_get {n : Nat} {k : Int} {i : Nat} (h : i < n) : (ints (markI n k))[i]? = some (.int .i64 (k + i)) := by simp [ints, markI, h]
theorem markI_len (n : Nat) (k : Int) : (ints (markI n k)).length = n := by simp [ints, markI]

def MarkedI (B : Nat) (a : Option Addr) (len : Nat) (k : Int) (w : World) (e : Ending) (w' : World) : Prop :=
  e = .returned (.int .i64 (k + len)) ∧ MineV 2 B w' a len (ints (markI len k)) ∧ OnlyAt a len w w'

theorem markInt64S (B : Nat) (a : Option Addr) (len cap : Nat) (xs : List Int) (k : Int) (hk : 0 ≤ k ∧ k ≤ 1000000) (w : World) (h : MineV 2 B w a len (ints xs)) :
    Calls Try.prog 10 #[.slice a len cap, .int .i64 k] w (MarkedI B a len k w) := by
  have hm := h.2.1
  have hl := h.1
  rcases h.2.2 with h0 | ⟨g, rest, rfl, hB, ho⟩
  · subst h0
    go_enter Try.func10, Try.ntmps10
    go_wp2
    go_loopw [1, 5] (fun m i wr => m = .int .i64 k ∧ i = .int .i64 0 ∧ w = wr) (fun _ _ _ => 0)
    case atStart => exact ⟨rfl, rfl, rfl⟩
    case round =>
      obtain ⟨rfl, rfl, rfl⟩ := hrel
      go_wp2
      go_ret
      exact ⟨by simp, ⟨rfl, by omega, .inl rfl⟩, OnlyAt.refl _ _ _⟩
  · have hnew : (ints (markI len k)).length = (ints xs).length := by rw [markI_len, hl]
    go_enter Try.func10, Try.ntmps10
    go_wp2
    go_loopw [1, 5] (fun m i wr => ∃ n : Nat, n ≤ len ∧ i = .int .i64 n ∧ m = .int .i64 (k + n) ∧ Own 2 wr g (turnV (ints xs) (ints (markI len k)) n ++ rest) ∧ OnlyAt (some ⟨g, 0, none⟩) len w wr) (fun _ i _ => len - (intOf i).toNat)
    case atStart => exact ⟨0, Nat.zero_le _, rfl, by simp, by rw [turnV_zero]; exact ho, OnlyAt.refl _ _ _⟩
    case round =>
      obtain ⟨n, hn, rfl, rfl, ho', hoa⟩ := hrel
      clear ho
      by_cases hlt : n < len
      · have hne : len ≠ 0 := by omega
        have hget := markI_get (n := len) (k := k) (i := n) hlt
        have d0 : wr.cell? ⟨g, n, none⟩ = some (.int .i64 (xs.getD n 0)) := ho'.at ((turnV_at rest (by omega) hnew).trans (ints_get (by rw [← ints_len]; omega)))
        have f0 := ho'.free n
        go_wp2
        go_roundw
        case rel =>
          refine ⟨n + 1, by omega, by go_num, by go_num, ?_, hoa.set hne _ _⟩
          rw [← turnV_set rest (by omega) hnew hget]
          exact ho'.set _ _
        case measure => simp [intOf]; omega
      · go_wp2
        go_ret
        obtain rfl : n = len := by omega
        refine ⟨rfl, ⟨markI_len _ _, hm, .inr ⟨g, rest, rfl, hB, ?_⟩⟩, hoa⟩
        rw [← hl] at ho'
        rw [turnV_full (by rw [hl]; exact hnew.trans hl), hl] at ho'
        exact ho'

/-- A slice that reads as whole numbers. -/
def InS (w : World) (a : Option Addr) (len : Nat) (xs : List Int) : Prop :=
  xs.length = len ∧ len ≤ 1048576 ∧ (len = 0 ∨ ∃ b off, a = some ⟨b, off, none⟩ ∧ b < w.heap.size ∧ ∀ i, i < len → w.cell? ⟨b, off + i, none⟩ = some (.int .i64 (xs.getD i 0)))
theorem InS.get {w : World} {a : Option Addr} {len : Nat} {xs : List Int} (h : InS w a len xs) {k : Nat} (hk : k < len) : ∃ b off x, a = some ⟨b, off, none⟩ ∧ b < w.heap.size ∧ w.cell? ⟨b, off + k, none⟩ = some (.int .i64 x) ∧ Hid (xs.getD k 0 = x) := by
  rcases h.2.2 with h3 | ⟨b, off, ha, hlt, hc⟩
  · omega
  · exact ⟨b, off, _, ha, hlt, hc k hk, rfl⟩
theorem InS.below {w w' : World} {a : Option Addr} {len : Nat} {xs : List Int} (h : InS w a len xs) (hb : Below w.heap.size w w') : InS w' a len xs := by
  obtain ⟨h1, h2, h3⟩ := h
  refine ⟨h1, h2, ?_⟩
  rcases h3 with h3 | ⟨b, off, ha, hlt, hc⟩
  · exact .inl h3
  · exact .inr ⟨b, off, ha, Nat.lt_of_lt_of_le hlt hb.size, fun i hi => (hb.cell (p := ⟨b, off + i, none⟩) hlt).trans (hc i hi)⟩
theorem MineV.ins {E : TypeId} {B : Nat} {w : World} {a : Option Addr} {len : Nat} {xs : List Int} (h : MineV E B w a len (ints xs)) : InS w a len xs := by
  obtain ⟨h1, h2, h3⟩ := h
  rw [ints_len] at h1
  refine ⟨h1, h2, ?_⟩
  rcases h3 with h3 | ⟨g, rest, rfl, hB, ho⟩
  · exact .inl h3
  · exact .inr ⟨g, 0, rfl, ho.lt, fun i hi => by rw [Nat.zero_add]; exact ho.at (by rw [List.getElem?_append_left (by rw [ints_len]; omega)]; exact ints_get (by omega))⟩
theorem heldInt64S (B : Nat) (a : Option Addr) (len cap : Nat) (k : Int) (hk : 0 ≤ k ∧ k ≤ 1000000) (w : World) (h : MineV 2 B w a len (ints (markI len k))) :
    Calls Try.prog 11 #[.slice a len cap, .int .i64 k] w (fun e w' => e = .returned (.int .i64 (k + len)) ∧ w = w') := by
  have hm := h.2.1
  have hr := h.ins
  go_enter Try.func11, Try.ntmps11
  go_wp2
  go_loopw [1, 5] (fun m i wr => ∃ (n : Nat) (v : Int), n ≤ len ∧ i = .int .i64 n ∧ m = .int .i64 v ∧ Hid (v = k + n) ∧ w = wr) (fun _ i _ => len - (intOf i).toNat)
  case atStart => exact ⟨0, k, Nat.zero_le _, rfl, rfl, by show k = _; simp, rfl⟩
  case round =>
    obtain ⟨n, v, hn, rfl, rfl, hv, rfl⟩ := hrel
    by_cases hlt : n < len
    · obtain ⟨b, off, r, rfl, hbb, c0, hzz⟩ := hr.get hlt
      have e : r = v := by rw [← hzz.out, hv.out]; simp [markI, hlt, List.getD_eq_getElem?_getD]
      subst e
      have hb : 0 ≤ r ∧ r ≤ 8000000 := by have := hv.out; omega
      have hnext : Hid (r + 1 = k + ((n + 1 : Nat) : Int)) := by refine Lib.hid ?_; have := hv.out; omega
      go_wp2
      go_roundw
      case rel => exact ⟨n + 1, _, by omega, by go_num, rfl, hnext, trivial⟩
      case measure => simp [intOf]; omega
    · go_wp2
      go_ret
      obtain rfl : n = len := by omega
      exact ⟨by rw [hv.out]; rfl, rfl⟩

theorem eqInt64S (a a' : Option Addr) (len cap cap' : Nat) (xs : List Int) (w : World) (h : InS w a len xs) (h' : InS w a' len xs) : Calls Try.prog 9 #[.slice a len cap, .slice a' len cap'] w (RetD (.bool true) w) := by
  have hm := h.2.1
  go_enter Try.func9, Try.ntmps9
  go_wp2
  go_loopw [5] (fun i wr => ∃ k : Nat, k ≤ len ∧ i = .int .i64 k ∧ Drew w wr) (fun i _ => len - (intOf i).toNat)
  case atStart => exact ⟨0, Nat.zero_le _, rfl, Drew.refl _⟩
  case round =>
    obtain ⟨k, hk, rfl, d, rfl⟩ := hrel
    by_cases hlt : k < len
    · obtain ⟨b, off, r, rfl, hbb, c0, hzz⟩ := h.get hlt
      obtain ⟨b', off', r', rfl, hbb', c0', hzz'⟩ := h'.get hlt
      obtain rfl : r = r' := hzz.out.symm.trans hzz'.out
      go_wp2
      go_quiet (fail)
      go_wp2
      go_roundw
      case rel => exact ⟨k + 1, by omega, by go_num, Drew.n _ _⟩
      case measure => simp [intOf]; omega
    · go_wp2
      go_ret
      exact ⟨rfl, Drew.n _ _⟩

theorem infoI : (Try.prog.info? 2).map (fun i => (i.zero, i.size, i.bytes)) = some (some (.int .i64 0), 1, 8) := by kernel_rfl
theorem ints_made (n : Nat) : (madeCells (Value.int .i64 0).cells (n * 1)).toList = ints (List.replicate n 0) := by
  rw [Nat.mul_one]
  exact (toList_madeCells_one _ _).trans (by simp [ints])
theorem ints_set (xs : List Int) (k : Nat) (v : Int) : (ints xs).set k (.int .i64 v) = ints (xs.set k v) := by simp [ints, List.map_set]
theorem ints_app (xs ys : List Int) : ints (xs ++ ys) = ints xs ++ ints ys := by simp [ints]

/-- A new slice with these numbers. -/
def NewI (xs : List Int) (w : World) (e : Ending) (w' : World) : Prop :=
  ∃ g, e = .returned (.slice (some ⟨g, 0, none⟩) xs.length xs.length) ∧ w.heap.size ≤ g ∧ Own 2 w' g (ints xs) ∧ Below w.heap.size w w'

theorem toInt64S (a : Option Addr) (len cap : Nat) (xs : List Int) (w : World) (h : InS w a len xs) : Calls Try.prog 7 #[.slice a len cap] w (NewI xs w) := by
  have hm := h.2.1
  have hl := h.1
  obtain ⟨i0, hi, hz0, hz1, hz2⟩ := info_parts infoI
  go_enter Try.func7, Try.ntmps7
  go_wp2_with (at_make; refine wpList_make_full _ rfl (.tmp 6) (.tmp 6) 22 rfl w.heap.size 2 i0 (.int .i64 0) 1 Try.underlying22 hi hz0 hz1 .i64 .i64 _ _ len rfl rfl rfl rfl (by rw [hz2]; omega) (by unfold maxLen; omega) (Nat.le_refl _) ?_; intro w1 hown hgrow)
  have ho : Own 2 w1 w.heap.size (ints (xs.take 0 ++ List.replicate (len - 0) 0)) := by
    have := Own.of_row hown
    rw [ints_made] at this
    simpa using this
  have hb1 : Below w.heap.size w w1 := (Below.refl _ _).grown hgrow (Nat.le_refl _) (by simp)
  clear hown hgrow hi hz0 hz1 hz2
  go_loopw [4] (fun i wr => ∃ k : Nat, k ≤ len ∧ i = .int .i64 k ∧ Own 2 wr w.heap.size (ints (xs.take k ++ List.replicate (len - k) 0)) ∧ Below w.heap.size w wr) (fun i _ => len - (intOf i).toNat)
  case atStart => exact ⟨0, Nat.zero_le _, rfl, ho, hb1⟩
  case round =>
    obtain ⟨k, hk, rfl, ho', hb⟩ := hrel
    clear ho hb1
    by_cases hlt : k < len
    · obtain ⟨b, off, z, rfl, hbb, hck, hzz⟩ := h.get hlt
      have hck2 : wr.cell? ⟨b, off + k, none⟩ = some (.int .i64 z) := (hb.cell (by exact hbb)).trans hck
      have hd : wr.cell? ⟨w.heap.size, k, none⟩ = some (.int .i64 _) := ho'.at (ints_get (by simp; omega))
      have hf := ho'.free k
      go_wp2
      go_roundw
      case rel =>
        refine ⟨k + 1, by omega, by go_num, ?_, hb.setCell (by simp) _⟩
        have e : ints (xs.take (k + 1) ++ List.replicate (len - (k + 1)) 0) = (ints (xs.take k ++ List.replicate (len - k) 0)).set k (.int .i64 z) := by
          rw [ints_set]
          congr 1
          have e1 : (xs.take k).length = k := by simp; omega
          have e2 : ∀ (A B : List Int) (x y : Int), A.length = k → (A ++ y :: B).set k x = A ++ x :: B := fun A B x y h => by
            subst h
            simp
          rw [show len - k = (len - (k + 1)) + 1 by omega, List.replicate_succ, e2 _ _ _ _ e1, List.take_succ_eq_append_getElem (by omega), ← hzz.out, getD_at (by omega)]
          simp only [List.append_assoc, List.cons_append, List.nil_append]
        rw [e]
        exact ho'.set _ _
      case measure => simp [intOf]; omega
    · go_wp2
      go_ret
      obtain rfl : k = len := by omega
      refine ⟨_, by rw [hl]; rfl, Nat.le_refl _, ?_, hb⟩
      rw [List.take_of_length_le (by omega)] at ho'
      simpa using ho'

def inB (n lo hi : Int) : Bool := decide (lo ≤ n ∧ n ≤ hi)
theorem inI (n lo hi : Int) (w : World) : Calls Try.prog 19 #[.int .i64 n, .int .i64 lo, .int .i64 hi] w (fun e w' => e = .returned (.bool (inB n lo hi)) ∧ w = w') := by
  unfold inB
  by_cases h1 : lo ≤ n <;> by_cases h2 : n ≤ hi
  all_goals
    go_enter Try.func19, Try.ntmps19
    go_wp2
    go_ret
    exact ⟨by simp [*], rfl⟩
theorem inS (n lo hi : Int) (w : World) : Calls Try.prog 16 #[.int .i64 n, .int .i64 lo, .int .i64 hi] w (fun e w' => e = .returned (.bool (inB n lo hi)) ∧ w = w') := by
  unfold inB
  by_cases h1 : lo ≤ n <;> by_cases h2 : n ≤ hi
  all_goals
    go_enter Try.func16, Try.ntmps16
    go_wp2
    go_ret
    exact ⟨by simp [*], rfl⟩
end Go.Proofs.Ytpebibhnaopbnaa
