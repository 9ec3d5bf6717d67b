/-
  Grids that are made height by height: the steps of the row, and what is handed back.
-/
import Derived.Test.YtcmdmecmgoabaaaGrid
import Derived.Test.YtcmdmecmgoabaaaOwnF
import Derived.Shelf.Abstract
namespace Go.Proofs.Ytcmdmecmgoabaaa
open Go.RowKit Go.Shelf

def outG (ok : Bool) (zs : List Nat) : List Nat := if ok then zs else []
def iffI (ok : Bool) (n : Int) : Int := if ok then n else 0
/-- A new grid (of nothing, if the answer is no) with an answer. -/
def NewG (wide high : Int) (zs : List Nat) (ok : Bool) (w : World) (e : Ending) (w' : World) : Prop :=
  ∃ a cap, e = .returned (.tuple #[GV (iffI ok wide) (iffI ok high) a (outG ok zs).length cap, .bool ok]) ∧ MineV 22 w.heap.size w' a (outG ok zs).length (fls (outG ok zs)) ∧ Below w.heap.size w w'

theorem NewG.no {wide high : Int} {zs : List Nat} {w w' : World} (hb : Below w.heap.size w w') : NewG wide high zs false w (.returned (.tuple #[GV 0 0 none 0 0, .bool false])) w' :=
  ⟨none, 0, rfl, MineV.nil _ _ _, hb⟩
theorem NewG.yes {wide high : Int} {zs : List Nat} {w w' : World} {a : Option Addr} {len cap : Nat} (hm : MineV 22 w.heap.size w' a len (fls zs)) (hb : Below w.heap.size w w') : NewG wide high zs true w (.returned (.tuple #[GV wide high a len cap, .bool true])) w' := by
  have := hm.1
  rw [fls_len] at this
  subst this
  exact ⟨a, cap, rfl, hm, hb⟩

def giveV (ok : Bool) (wide high : Int) (a : Option Addr) (len cap : Nat) : Value := if ok then GV wide high a len cap else GV 0 0 none 0 0

theorem l06Give (wide high : Int) (a : Option Addr) (len cap : Nat) (zs : List Nat) (w : World) (h : FlS w a len zs) :
    Calls Try.prog 66 #[GV wide high a len cap] w (fun e w' => e = .returned (.tuple #[giveV (validB wide high zs) wide high a len cap, .bool (validB wide high zs)]) ∧ Below w.heap.size w w') := by
  have hb : ∀ o o', Below w.heap.size w ((w.alloc o).alloc o') := fun o o' => ((Below.refl _ _).alloc (Nat.le_refl _) _).alloc (by simp) _
  have L := ((Lies.new (wk := w) (wide := wide) (high := high) (cap := cap) 33 h).next ((Below.refl _ _).alloc (Nat.le_refl _) (.cells #[.int .i64 0, .int .i64 0, .slice none 0 0] 33)))
  have call := l06Is _ _ _ _ _ _ _ _ L.at' L.fl
  clear L
  unfold giveV GV
  cases hv : validB wide high zs
  all_goals
    rw [hv] at call
    go_enter Try.func66, Try.ntmps66
    go_wp2_with (go_at_call 54; refine call.mono ?_; rintro e w' ⟨rfl, d, rfl⟩)
  · refine bodyPost_ret (v := .tuple #[.agg #[.int .i64 0, .int .i64 0, .slice none 0 0], .bool false]) (by simp [results, Try.results66, go_sem]) rfl ⟨rfl, ?_⟩
    exact below_drewN (hb _ _) _
  · refine bodyPost_ret (v := .tuple #[.agg #[.int .i64 wide, .int .i64 high, .slice a len cap], .bool true]) (by simp [results, Try.results66, go_sem]) rfl ⟨rfl, ?_⟩
    exact below_drewN (hb _ _) _

/-- A grid at p whose heights grow one by one, and the place r of the result. -/
structure GrowG (w wr : World) (r p : Nat) (wide high : Int) (k : Nat) (zs : List Nat) (v : Value) : Prop where
  row : wr.ownsRow w.heap.size 22 1 v k (fls zs)
  res : Own 33 wr r [.int .i64 0, .int .i64 0, .slice none 0 0]
  box : Own 33 wr p [.int .i64 wide, .int .i64 high, v]
  far : ∀ g, v.ownBlock = some g → p < g
  rp : r < p
  base : w.heap.size ≤ r
  below : Below w.heap.size w wr

theorem grown_of_below {w w' : World} (h : Below w.heap.size w w') : w.grownBy w' none := ⟨h.os, h.tape, h.output, h.size, fun k hk _ => h.block k hk⟩
theorem grown_set (w : World) (p j : Nat) (v : Value) : w.grownBy (w.setCell ⟨p, j, none⟩ v) (some p) := by
  have b := (Below.refl 0 w).setCell (p := ⟨p, j, none⟩) (Nat.zero_le _) v
  exact ⟨b.os, b.tape, b.output, by simp, fun k _ hk => heap_setCell_other w _ k v (fun e => hk (congrArg some e))⟩

section
variable {w wr w1 w2 : World} {r p : Nat} {wide high : Int} {k : Nat} {zs : List Nat} {v v' : Value}
theorem GrowG.next (h : GrowG w wr r p wide high k zs v) (hb : Below wr.heap.size wr w1) : GrowG w w1 r p wide high k zs v :=
  ⟨h.row.kept (grown_of_below hb) (by cases v.ownBlock <;> simp), h.res.below hb, h.box.below hb, h.far, h.rp, h.base, h.below.trans (hb.mono h.below.size)⟩
theorem GrowG.step (h : GrowG w wr r p wide high k zs v) {o : Obj} {x g cap n : Nat} (hg : (wr.alloc o).grownBy w1 v.ownBlock) (hown : w1.ownsRow w.heap.size 22 1 (.slice (some ⟨g, 0, none⟩) n cap) n (fls zs ++ [.float .f32 x])) (hn : n = k + 1)
    (hat : v.ownBlock = some g ∨ g = wr.heap.size + 1) : GrowG w (w1.setCell ⟨p, 2, none⟩ (.slice (some ⟨g, 0, none⟩) n cap)) r p wide high (k + 1) (zs ++ [x]) (.slice (some ⟨g, 0, none⟩) n cap) := by
  subst hn
  have hp := h.box.lt
  have hpg : p < g := by
    rcases hat with e | e
    · exact h.far g e
    · omega
  have hne : ∀ q, q ≤ p → some q ≠ v.ownBlock := fun q hq e => by have := h.far q e.symm; omega
  have hr := h.rp
  have hbase := h.base
  have ob : Own 33 w1 p [.int .i64 wide, .int .i64 high, v] := (h.box.alloc o).grown hg (hne p (Nat.le_refl _))
  have or' : Own 33 w1 r [.int .i64 0, .int .i64 0, .slice none 0 0] := (h.res.alloc o).grown hg (hne r (by omega))
  refine ⟨?_, or'.other (by simp; omega) _, ob.set 2 _, ?_, hr, hbase, ?_⟩
  · have : fls (zs ++ [x]) = fls zs ++ [.float .f32 x] := by simp [fls]
    rw [this]
    exact hown.kept (grown_set w1 p 2 _) (.inr (by simp [Value.ownBlock]; omega))
  · intro g' hg'
    simp [Value.ownBlock] at hg'
    omega
  · exact ((h.below.alloc h.below.size o).grown hg (by have := h.below.size; simp; omega) fun q hq => by have := h.far q hq; omega).setCell (by simp; omega) _
theorem MineV.setFar {E : TypeId} {B len p j : Nat} {w : World} {a : Option Addr} {vs : List Value} (h : MineV E B w a len vs) (hne : ∀ g, a = some ⟨g, 0, none⟩ → g ≠ p) (u : Value) : MineV E B (w.setCell ⟨p, j, none⟩ u) a len vs := by
  obtain ⟨h1, h2, h3⟩ := h
  refine ⟨h1, h2, ?_⟩
  rcases h3 with h3 | ⟨g, rest, rfl, hB, ho⟩
  · exact .inl h3
  · exact .inr ⟨g, rest, rfl, hB, ho.other (hne g rfl) _⟩
/-- What such a row's value looks like. -/
theorem GrowG.form (h : GrowG w wr r p wide high k zs v) (hm : k ≤ 1048576) : ∃ a cap, v = .slice a k cap ∧ MineV 22 w.heap.size wr a k (fls zs) := by
  have hrow := h.row
  obtain ⟨a, c, rfl⟩ : ∃ a c, v = .slice a k c := by
    rcases hrow.2 with ⟨rfl, rfl⟩ | ⟨g, c, cur, rfl, _⟩
    · exact ⟨_, _, rfl⟩
    · exact ⟨_, _, rfl⟩
  exact ⟨a, c, rfl, (MineV.of_row hrow hm).2⟩
end
end Go.Proofs.Ytcmdmecmgoabaaa
