/-
  Grids: how they are copied, measured, compared and found valid.
-/
import Derived.Test.YtcmdmecmgoabaaaFin
namespace Go.Proofs.Ytcmdmecmgoabaaa
open Go.RowKit
attribute [local go_sem] order_cl cl_zero cl_one cl_two aord_none

/-- A grid's value. -/
def GV (wide high : Int) (a : Option Addr) (len cap : Nat) : Value := .agg #[.int .i64 wide, .int .i64 high, .slice a len cap]

def sidesB (wide high : Int) : Bool := decide (2 ≤ wide ∧ wide ≤ 16) && decide (2 ≤ high ∧ high ≤ 16)
def validB (wide high : Int) (zs : List Nat) : Bool := sidesB wide high && ((zs.length : Int) == wide * high) && finAll zs

theorem szFloat32S (a : Option Addr) (len cap : Nat) (left : Int) (w : World) (hl : 0 ≤ left ∧ left ≤ 1048576) (hm : len ≤ 9223372036854775807) :
    Calls Try.prog 53 #[.slice a len cap, .int .i64 left] w (fun e w' => e = .returned (.int .i64 (if left < len then -1 else left - len)) ∧ w = w') := by
  obtain ⟨h1, h2⟩ := hl
  by_cases h : left < len
  all_goals
    go_enter Try.func53, Try.ntmps53
    go_wp2
    go_ret
    exact ⟨by simp [*], rfl⟩

theorem szGrid (wide high : Int) (a : Option Addr) (len cap : Nat) (left : Int) (w : World) (hl : 0 ≤ left ∧ left ≤ 1048576) (hm : len ≤ 9223372036854775807) :
    Calls Try.prog 17 #[GV wide high a len cap, .int .i64 left] w (fun e w' => e = .returned (.int .i64 (if left < len then -1 else left - len)) ∧ Below w.heap.size w w') := by
  unfold GV
  by_cases h : left < len
  all_goals
    go_enter Try.func17, Try.ntmps17
    go_wp2_with (go_at_call 53; refine (szFloat32S _ _ _ _ _ hl hm).mono ?_; rintro e w' ⟨rfl, rfl⟩)
    go_ret
    exact ⟨by simp [*], (Below.refl _ _).alloc (Nat.le_refl _) _⟩

/-- A copy of a grid. -/
def NewGrid (wide high : Int) (zs : List Nat) (w : World) (e : Ending) (w' : World) : Prop :=
  ∃ g, e = .returned (GV wide high (some ⟨g, 0, none⟩) zs.length zs.length) ∧ w.heap.size ≤ g ∧ Own 22 w' g (fls zs) ∧ Below w.heap.size w w'

theorem toGrid (wide high : Int) (a : Option Addr) (len cap : Nat) (zs : List Nat) (w : World) (h : FlS w a len zs) :
    Calls Try.prog 19 #[GV wide high a len cap] w (NewGrid wide high zs w) := by
  unfold GV
  go_enter Try.func19, Try.ntmps19
  go_wp2_with (go_at_call 55; refine (toFloat32S _ _ _ _ _ (h.below ?b1)).mono ?_)
  case b1 => exact ((((Below.refl _ _).alloc (Nat.le_refl _) _).alloc (by simp) _).alloc (by simp; omega) _)
  rintro e w1 ⟨g, rfl, hg, hown, hb⟩
  obtain ⟨hc, hf⟩ := bcell hb
  have hz : w.heap.size + 2 < w1.heap.size := by have := hb.size; simp at this; omega
  have hgg : w.heap.size + 2 < g := by simp at hg; omega
  go_wp2
  obtain ⟨hc, hf⟩ := bcell hb
  have hbw : Below w.heap.size w w1 := ((((Below.refl _ _).alloc (Nat.le_refl _) _).alloc (by simp) _).alloc (by simp; omega) _).trans (hb.mono (by simp; omega))
  refine bodyPost_ret (v := GV wide high (some ⟨g, 0, none⟩) zs.length zs.length) (by simp [results, Try.results19, go_sem, hc, GV]) rfl ⟨g, rfl, by omega, ?_, ?_⟩
  · exact (((hown.other (by simp; omega) _).other (by simp; omega) _).other (by simp; omega) _).other (by simp; omega) _
  · exact (((hbw.setCell (by simp; omega) _).setCell (by simp) _).setCell (by simp) _).setCell (by simp) _

theorem eqGrid (wide high : Int) (a a' : Option Addr) (len cap cap' : Nat) (zs ys : List Nat) (w : World) (h : FlS w a len zs) (h' : FlS w a' len ys) (hs : Same zs ys) :
    Calls Try.prog 21 #[GV wide high a len cap, GV wide high a' len cap'] w (fun e w' => e = .returned (.bool true) ∧ Below w.heap.size w w') := by
  unfold GV
  have hb : ∀ o1 o2, Below w.heap.size w ((w.alloc o1).alloc o2) := fun o1 o2 => ((Below.refl _ _).alloc (Nat.le_refl _) _).alloc (by simp) _
  go_enter Try.func21, Try.ntmps21
  go_wp2_with (go_at_call 59; refine (eqFloat32S _ _ _ _ _ _ _ _ (h.below (hb _ _)) (h'.below (hb _ _)) hs).mono ?_; rintro e w' ⟨rfl, d, rfl⟩)
  go_ret
  exact ⟨rfl, below_drewN (hb _ _) _⟩

theorem l06Sides (wide high : Int) (w : World) : Calls Try.prog 65 #[.int .i64 wide, .int .i64 high] w (fun e w' => e = .returned (.bool (sidesB wide high)) ∧ w = w') := by
  unfold sidesB
  by_cases h1 : 2 ≤ wide ∧ wide ≤ 16 <;> by_cases h2 : 2 ≤ high ∧ high ≤ 16
  all_goals
    go_enter Try.func65, Try.ntmps65
    go_wp2_with (go_at_call 93; refine (inS _ _ _ _).mono ?_; rintro e w' ⟨rfl, rfl⟩)
    go_ret
    exact ⟨by simp [*], rfl⟩
theorem areSides (wide high : Int) (w : World) : Calls Try.prog 56 #[.int .i64 wide, .int .i64 high] w (fun e w' => e = .returned (.bool (sidesB wide high)) ∧ w = w') := by
  unfold sidesB
  by_cases h1 : 2 ≤ wide ∧ wide ≤ 16 <;> by_cases h2 : 2 ≤ high ∧ high ≤ 16
  all_goals
    go_enter Try.func56, Try.ntmps56
    go_wp2_with (go_at_call 89; refine (inI _ _ _ _).mono ?_; rintro e w' ⟨rfl, rfl⟩)
    go_ret
    exact ⟨by simp [*], rfl⟩
theorem lengthF (a : Option Addr) (len cap : Nat) (w : World) : Calls Try.prog 57 #[.slice a len cap] w (fun e w' => e = .returned (.int .i64 len) ∧ w = w') := by
  go_enter Try.func57, Try.ntmps57
  go_wp2
  go_ret
  exact ⟨rfl, rfl⟩

theorem sides_mul {wide high : Int} (h : sidesB wide high = true) : 4 ≤ wide * high ∧ wide * high ≤ 256 := by
  simp only [sidesB, Bool.and_eq_true, decide_eq_true_eq] at h
  obtain ⟨⟨h1, h2⟩, h3, h4⟩ := h
  have e1 := Int.mul_le_mul h1 h3 (by omega) (by omega)
  have e2 := Int.mul_le_mul h2 h4 (by omega) (by omega)
  omega

/-- A grid that lies at p. -/
structure At (w : World) (p : Nat) (wide high : Int) (a : Option Addr) (len cap : Nat) : Prop where
  c0 : w.cell? ⟨p, 0, none⟩ = some (.int .i64 wide)
  c1 : w.cell? ⟨p, 1, none⟩ = some (.int .i64 high)
  c2 : w.cell? ⟨p, 2, none⟩ = some (.slice a len cap)

theorem l06Is (p : Nat) (wide high : Int) (a : Option Addr) (len cap : Nat) (zs : List Nat) (w : World) (hp : At w p wide high a len cap) (h : FlS w a len zs) :
    Calls Try.prog 54 #[.pointer (some ⟨p, 0, none⟩)] w (RetD (.bool (validB wide high zs)) w) := by
  obtain ⟨h0, h1, h2⟩ := hp
  have hm := h.max
  have hl := Lib.hid h.len
  unfold validB
  have cs := l06Sides wide high
  cases hs : sidesB wide high
  · rw [hs] at cs
    go_enter Try.func54, Try.ntmps54
    go_wp2
    go_quiet ((go_at_call 65; exact q_same (cs _)))
    go_wp2
    go_ret
    exact ⟨rfl, Drew.n _ _⟩
  · rw [hs] at cs
    obtain ⟨hm1, hm2⟩ := sides_mul hs
    have hw : IntKind.i64.wrap (wide * high) = wide * high := IntWalk.i64_in _ (by omega)
    cases he : ((len : Int) == wide * high)
    all_goals
      go_enter Try.func54, Try.ntmps54
      go_wp2
      go_quiet ((first | (go_at_call 65; exact q_same (cs _)) | (go_at_call 88; exact q_ret (l02Finite _ _ _ _ _ (h.drewN _)))))
      go_wp2
      go_ret
      exact ⟨by rw [hl.out, he]; rfl, Drew.n _ _⟩

/-- A call that hands back v, and makes no more than new memory. -/
def RetB (v : Value) (w : World) (e : Ending) (w' : World) : Prop := e = .returned v ∧ Below w.heap.size w w'

theorem at_new (w : World) (wide high : Int) (a : Option Addr) (len cap : Nat) (E : TypeId) : At (w.alloc (.cells #[.int .i64 wide, .int .i64 high, .slice a len cap] E)) w.heap.size wide high a len cap :=
  ⟨by simp, by simp, by simp⟩

theorem specValidGrid (wide high : Int) (a : Option Addr) (len cap : Nat) (zs : List Nat) (w : World) (h : FlS w a len zs) :
    Calls Try.prog 18 #[GV wide high a len cap] w (RetB (.bool (validB wide high zs)) w) := by
  unfold GV
  have hb : ∀ o, Below w.heap.size w (w.alloc o) := fun o => (Below.refl _ _).alloc (Nat.le_refl _) _
  go_enter Try.func18, Try.ntmps18
  go_wp2_with (go_at_call 54; refine (l06Is _ _ _ _ _ _ _ _ (at_new _ _ _ _ _ _ _) (h.below (hb _))).mono ?_; rintro e w' ⟨rfl, d, rfl⟩)
  go_ret
  exact ⟨rfl, below_drewN (hb _) _⟩

theorem implValidGrid (wide high : Int) (a : Option Addr) (len cap : Nat) (zs : List Nat) (w : World) (h : FlS w a len zs) :
    Calls Try.prog 20 #[GV wide high a len cap] w (RetB (.bool (validB wide high zs)) w) := by
  have hb : ∀ o, Below w.heap.size w (w.alloc o) := fun o => (Below.refl _ _).alloc (Nat.le_refl _) _
  have hm := h.max
  have hl := Lib.hid h.len
  unfold validB GV
  have cs := areSides wide high
  cases hs : sidesB wide high
  · rw [hs] at cs
    go_enter Try.func20, Try.ntmps20
    go_wp2
    go_quiet ((go_at_call 56; exact q_same (cs _)))
    go_wp2
    go_ret
    exact ⟨rfl, below_drewN (hb _) _⟩
  · rw [hs] at cs
    obtain ⟨hm1, hm2⟩ := sides_mul hs
    have hw : IntKind.i64.wrap (wide * high) = wide * high := IntWalk.i64_in _ (by omega)
    cases he : ((len : Int) == wide * high)
    all_goals
      go_enter Try.func20, Try.ntmps20
      go_wp2
      go_quiet ((first | (go_at_call 56; exact q_same (cs _)) | (go_at_call 57; exact q_same (lengthF _ _ _ _)) | (go_at_call 58; exact q_ret (areFinite _ _ _ _ _ ((h.below (hb _)).drewN _)))))
      go_wp2
      go_ret
      exact ⟨by rw [hl.out, he]; rfl, below_drewN (hb _) _⟩
theorem At.below {w w' : World} {p : Nat} {wide high : Int} {a : Option Addr} {len cap : Nat} (h : At w p wide high a len cap) (hp : p < w.heap.size) (hb : Below w.heap.size w w') : At w' p wide high a len cap :=
  ⟨(hb.cell (p := ⟨p, 0, none⟩) hp).trans h.c0, (hb.cell (p := ⟨p, 1, none⟩) hp).trans h.c1, (hb.cell (p := ⟨p, 2, none⟩) hp).trans h.c2⟩

/-- A world behind some calls, with a grid that lies at p and whose heights read as zs. -/
structure Lies (wk : World) (p : Nat) (wide high : Int) (a : Option Addr) (len cap : Nat) (zs : List Nat) : Prop where
  lt : p < wk.heap.size
  at' : At wk p wide high a len cap
  fl : FlS wk a len zs

section
variable {wk w' : World} {p : Nat} {wide high : Int} {a : Option Addr} {len cap : Nat} {zs : List Nat}
theorem Lies.next (h : Lies wk p wide high a len cap zs) (hb : Below wk.heap.size wk w') : Lies w' p wide high a len cap zs :=
  ⟨Nat.lt_of_lt_of_le h.lt hb.size, h.at'.below h.lt hb, h.fl.below hb⟩
theorem Lies.drewN (h : Lies wk p wide high a len cap zs) (n : Nat) : Lies (wk.drewN n) p wide high a len cap zs := h.next (below_drewN (Below.refl _ _) n)
/-- A grid that has just been laid. -/
theorem Lies.new (E : TypeId) (h : FlS wk a len zs) : Lies (wk.alloc (.cells #[.int .i64 wide, .int .i64 high, .slice a len cap] E)) wk.heap.size wide high a len cap zs :=
  ⟨by simp, at_new _ _ _ _ _ _ _, h.below ((Below.refl _ _).alloc (Nat.le_refl _) _)⟩
end

end Go.Proofs.Ytcmdmecmgoabaaa
