/-
  Legs: how they are copied, compared, and found to be such.
-/
import Derived.Test.YtikdagkopalojaaFin
import Derived.Deep.RegionWith
import Derived.Shelf.Abstract
namespace Go.Proofs.Ytikdagkopalojaa
open Go.RowKit Go.Shelf
attribute [local go_sem] order_cl cl_zero cl_one cl_two aord_none

/-- A leg, by its words. -/
structure Leg where
  x : Nat
  y : Nat
deriving Inhabited

def Leg.cells (r : Leg) : List Value := [.float .f32 r.x, .float .f32 r.y]
def LV (r : Leg) : Value := .agg #[.float .f32 r.x, .float .f32 r.y]

structure Pair (w : World) (b o : Nat) (r : Leg) : Prop where
  c0 : w.cell? ⟨b, o, none⟩ = some (.float .f32 r.x)
  c1 : w.cell? ⟨b, o + 1, none⟩ = some (.float .f32 r.y)

def LeS (w : World) (a : Option Addr) (len : Nat) (rs : List Leg) : Prop :=
  rs.length = len ∧ len ≤ 1048576 ∧ (len = 0 ∨ ∃ b off, a = some ⟨b, off, none⟩ ∧ b < w.heap.size ∧ ∀ i, i < len → Pair w b (off + i * 2) (rs.getD i default))

theorem Pair.below {w w' : World} {b o B : Nat} {r : Leg} (h : Pair w b o r) (hb : Below B w w') (hB : b < B) : Pair w' b o r :=
  ⟨(hb.cell (p := ⟨b, o, none⟩) hB).trans h.c0, (hb.cell (p := ⟨b, o + 1, none⟩) hB).trans h.c1⟩

section
variable {w w' : World} {a : Option Addr} {len : Nat} {rs : List Leg}
theorem LeS.below (h : LeS w a len rs) (hb : Below w.heap.size w w') : LeS w' a len rs := by
  obtain ⟨h1, h2, h3⟩ := h
  refine ⟨h1, h2, ?_⟩
  rcases h3 with h3 | ⟨b, off, ha, hlt, hc⟩
  · exact .inl h3
  · exact .inr ⟨b, off, ha, Nat.lt_of_lt_of_le hlt hb.size, fun i hi => (hc i hi).below hb hlt⟩
theorem LeS.size (h : LeS w a len rs) : rs.length = len := h.1
theorem LeS.max (h : LeS w a len rs) : len ≤ 1048576 := h.2.1
theorem LeS.get (h : LeS w a len rs) {k : Nat} (hk : k < len) : ∃ b off r, a = some ⟨b, off, none⟩ ∧ b < w.heap.size ∧ Pair w b (off + k * 2) r ∧ Hid (rs.getD k default = r) := by
  rcases h.2.2 with h3 | ⟨b, off, ha, hlt, hc⟩
  · omega
  · exact ⟨b, off, _, ha, hlt, hc k hk, rfl⟩
theorem LeS.drewN (h : LeS w a len rs) (n : Nat) : LeS (w.drewN n) a len rs := h.below (below_drewN (Below.refl _ _) n)
end

/-- A call that hands back v, and makes no more than new memory. -/
def RetL (v : Value) (w : World) (e : Ending) (w' : World) : Prop := e = .returned v ∧ Below w.heap.size w w'

theorem szLegS (a : Option Addr) (len cap : Nat) (left : Int) (w : World) (hl : 0 ≤ left ∧ left ≤ 1048576) (hm : len ≤ 9223372036854775807) :
    Calls Try.prog 15 #[.slice a len cap, .int .i64 left] w (fun e w' => e = .returned (.int .i64 (if left < len then -1 else left - len)) ∧ w = w') := by
  obtain ⟨h1, h2⟩ := hl
  by_cases h : left < len
  all_goals
    go_enter Try.func15, Try.ntmps15
    go_wp2
    go_ret
    exact ⟨by simp [*], rfl⟩

theorem toLeg (r : Leg) (w : World) : Calls Try.prog 47 #[LV r] w (RetL (LV r) w) := by
  unfold LV
  go_enter Try.func47, Try.ntmps47
  go_wp2
  exact bodyPost_ret (v := LV r) (by simp [results, Try.results47, go_sem, LV]) rfl ⟨rfl, (((Below.refl _ _).alloc (Nat.le_refl _) _).alloc (by simp) _).alloc (by simp; omega) _⟩

theorem eqLeg (r : Leg) (w : World) : Calls Try.prog 52 #[LV r, LV r] w (RetL (.bool true) w) := by
  unfold LV
  go_enter Try.func52, Try.ntmps52
  go_wp2_with (first | (refine wpList_wid rfl rfl Try.underlying37 Try.underlying42 rfl ?_; intro q d hq) | (go_at_call 23; refine (sameFloat _ _ (by simp [*]) _).mono ?_; rintro e w' ⟨rfl, d, rfl⟩))
  go_ret
  exact ⟨rfl, below_drewN (((Below.refl _ _).alloc (Nat.le_refl _) _).alloc (by simp) _) _⟩

def cellsL (rs : List Leg) : List Value := rs.flatMap Leg.cells
theorem cellsL_len (rs : List Leg) : (cellsL rs).length = rs.length * 2 := by
  unfold cellsL
  induction rs with
  | nil => rfl
  | cons r rs ih => rw [List.flatMap_cons, List.length_append, ih, List.length_cons]; simp [Leg.cells]; omega
theorem cellsL_append (xs ys : List Leg) : cellsL (xs ++ ys) = cellsL xs ++ cellsL ys := by simp [cellsL]
theorem cellsL_get {rs : List Leg} {k : Nat} (h : k < rs.length) (j : Nat) (hj : j < 2) : (cellsL rs)[k * 2 + j]? = (rs.getD k default).cells[j]? := by
  induction rs generalizing k with
  | nil => simp at h
  | cons r rs ih =>
    unfold cellsL
    rw [List.flatMap_cons]
    cases k with
    | zero =>
      rw [List.getElem?_append_left (by simp [Leg.cells]; omega)]
      simp
    | succ k =>
      rw [List.getElem?_append_right (by simp [Leg.cells]; omega)]
      have e : (k + 1) * 2 + j - r.cells.length = k * 2 + j := by simp [Leg.cells]; omega
      rw [e]
      have := ih (k := k) (by simpa using h)
      unfold cellsL at this
      rw [this]
      simp

theorem Pair.of_own {E : TypeId} {w : World} {g : Nat} {rs : List Leg} (h : Own E w g (cellsL rs)) {k : Nat} (hk : k < rs.length) : Pair w g (k * 2) (rs.getD k default) := by
  have e := fun j hj => cellsL_get hk j hj
  exact ⟨h.at (by have := e 0 (by omega); simpa [Leg.cells] using this), h.at (by have := e 1 (by omega); simpa [Leg.cells] using this)⟩
theorem LeS.of_own {E : TypeId} {w : World} {g : Nat} {rs : List Leg} (h : Own E w g (cellsL rs)) (hm : rs.length ≤ 1048576) : LeS w (some ⟨g, 0, none⟩) rs.length rs :=
  ⟨rfl, hm, .inr ⟨g, 0, rfl, h.lt, fun i hi => by rw [Nat.zero_add]; exact Pair.of_own h hi⟩⟩

def fillL (rs : List Leg) (n k : Nat) : List Value := cellsL (rs.take k) ++ List.replicate ((n - k) * 2) (.float .f32 0)
theorem fillL_set {rs : List Leg} {n k : Nat} {r : Leg} (hk : k < n) (hl : rs.length = n) (hr : rs.getD k default = r) :
    ((fillL rs n k).set (k * 2) (.float .f32 r.x)).set (k * 2 + 1) (.float .f32 r.y) = fillL rs n (k + 1) := by
  unfold fillL
  have e1 : (cellsL (rs.take k)).length = k * 2 := by rw [cellsL_len]; simp; omega
  rw [show (n - k) * 2 = (n - (k + 1)) * 2 + 2 by omega, List.take_succ_eq_append_getElem (by omega), cellsL_append]
  have e2 : cellsL [rs[k]'(by omega)] = r.cells := by
    rw [← hr, getD_at (by omega)]
    simp [cellsL]
  rw [e2]
  generalize cellsL (rs.take k) = A at *
  generalize (n - (k + 1)) * 2 = m
  have e3 : ∀ x, List.replicate (m + 2) x = x :: x :: List.replicate m (x : Value) := fun x => by simp [List.replicate_succ]
  rw [e3]
  generalize k * 2 = o at *
  subst e1
  simp [Leg.cells, List.set_append_right]
theorem fillL_mid {rs : List Leg} {n k j : Nat} (hl : rs.length = n) (hk : k < n) (hj : j < 2) : (fillL rs n k)[k * 2 + j]? = some (.float .f32 0) := by
  unfold fillL
  have e1 : (cellsL (rs.take k)).length = k * 2 := by rw [cellsL_len]; simp; omega
  rw [List.getElem?_append_right (by omega), e1, List.getElem?_replicate]
  rw [if_pos (by omega)]

theorem infoL : (Try.prog.info? 67).map (fun i => (i.zero, i.size, i.bytes)) = some (some (.agg #[.float .f32 0, .float .f32 0]), 2, 8) := by kernel_rfl

theorem madeL (n : Nat) : (madeCells (Value.agg #[.float .f32 0, .float .f32 0]).cells (n * 2)).toList = List.replicate (n * 2) (.float .f32 0) := by
  rw [List.eq_replicate_iff]
  refine ⟨by simp [madeCells], fun x hx => ?_⟩
  simp only [madeCells, Array.toList_map, List.mem_map] at hx
  obtain ⟨i, _, rfl⟩ := hx
  have h4 : i % 2 = 0 ∨ i % 2 = 1 := by omega
  show (#[Value.float .f32 0, .float .f32 0] : Array Value)[i % 2]! = _
  rcases h4 with h | h <;> rw [h] <;> rfl

def NewLe (rs : List Leg) (w : World) (e : Ending) (w' : World) : Prop :=
  ∃ g, e = .returned (.slice (some ⟨g, 0, none⟩) rs.length rs.length) ∧ w.heap.size ≤ g ∧ Own 67 w' g (cellsL rs) ∧ Below w.heap.size w w'

theorem toLegS (a : Option Addr) (len cap : Nat) (rs : List Leg) (w : World) (h : LeS w a len rs) : Calls Try.prog 17 #[.slice a len cap] w (NewLe rs w) := by
  have hm := h.max
  obtain ⟨i0, hi, hz0, hz1, hz2⟩ := info_parts infoL
  go_enter Try.func17, Try.ntmps17
  go_wp2_with (at_make; refine wpList_make_full _ rfl (.tmp 6) (.tmp 6) 32 rfl w.heap.size 67 i0 _ 2 Try.underlying32 hi hz0 hz1 .i64 .i64 _ _ len rfl rfl rfl rfl (by rw [hz2]; omega) (by unfold maxLen; omega) (Nat.le_refl _) ?_; intro w1 hown hgrow)
  have ho : Own 67 w1 w.heap.size (fillL rs len 0) := by
    have := Own.of_row hown
    rw [madeL] at this
    simpa [fillL, cellsL] using this
  have hb1 : Below w.heap.size w w1 := (Below.refl _ _).grown hgrow (Nat.le_refl _) (by simp)
  clear hown hgrow hi hz0 hz1 hz2
  go_loopw [4] (fun i wr => ∃ k : Nat, k ≤ len ∧ i = .int .i64 k ∧ Own 67 wr w.heap.size (fillL rs len k) ∧ Below w.heap.size w wr) (fun i _ => len - (intOf i).toNat)
  case atStart => exact ⟨0, Nat.zero_le _, rfl, ho, hb1⟩
  case round =>
    obtain ⟨k, hk, rfl, ho', hb⟩ := hrel
    clear ho hb1
    by_cases hlt : k < len
    · obtain ⟨b, off, r, rfl, hbb, hck, hzz⟩ := h.get hlt
      obtain ⟨c0, c1⟩ := hck.below hb hbb
      clear hck
      go_wp2_with fail
      refine (toLeg r _).mono ?_
      rintro e w2 ⟨rfl, hb2⟩
      have ho2 := ho'.below hb2
      have hB2 := hb.trans (hb2.mono (Nat.le_of_lt ho'.lt))
      have d0 : w2.cell? ⟨w.heap.size, k * 2, none⟩ = some (.float .f32 0) := ho2.at (fillL_mid (j := 0) h.size hlt (by omega))
      have d1 := ho2.at (fillL_mid (j := 1) h.size hlt (by omega))
      have f0 := ho2.free (k * 2)
      have f1 := ho2.free (k * 2 + 1)
      unfold LV
      clear c0 c1 hb2
      go_wp2
      go_roundw
      case rel =>
        have hzz' := hzz.out
        exact ⟨k + 1, by omega, by go_num, by rw [← fillL_set hlt h.size hzz']; exact (ho2.set _ _).set _ _, (hB2.setCell (Nat.le_refl _) _).setCell (Nat.le_refl _) _⟩
      case measure => simp [intOf]; omega
    · go_wp2
      go_ret
      obtain rfl : k = len := by omega
      refine ⟨_, by rw [h.size]; rfl, Nat.le_refl _, ?_, hb⟩
      have := h.size
      unfold fillL at ho'
      rw [List.take_of_length_le (by omega)] at ho'
      simpa using ho'

theorem eqLegS (a a' : Option Addr) (len cap cap' : Nat) (rs : List Leg) (w : World) (h : LeS w a len rs) (h' : LeS w a' len rs) : Calls Try.prog 19 #[.slice a len cap, .slice a' len cap'] w (RetL (.bool true) w) := by
  have hm := h.max
  go_enter Try.func19, Try.ntmps19
  go_wp2
  go_loopw [5] (fun i wr => ∃ k : Nat, k ≤ len ∧ i = .int .i64 k ∧ Below w.heap.size w wr) (fun i _ => len - (intOf i).toNat)
  case atStart => exact ⟨0, Nat.zero_le _, rfl, Below.refl _ _⟩
  case round =>
    obtain ⟨k, hk, rfl, hb⟩ := hrel
    by_cases hlt : k < len
    · obtain ⟨b, off, r, rfl, hbb, hck, hzz⟩ := h.get hlt
      obtain ⟨b', off', r', rfl, hbb', hck', hzz'⟩ := h'.get hlt
      obtain ⟨c0, c1⟩ := hck.below hb hbb
      obtain ⟨d0, d1⟩ := hck'.below hb hbb'
      obtain rfl : r = r' := hzz.out.symm.trans hzz'.out
      clear hck hck' hzz hzz'
      go_wp2
      go_region_with ((go_at_call 52; refine (eqLeg r _).mono ?_; rintro e w2 ⟨rfl, hb2⟩))
      all_goals
        go_wp2
        go_roundw
        case rel => exact ⟨k + 1, by omega, by go_num, hb.trans (by first | exact hb2.mono hb.size | exact (below_of_drewN hb2).mono hb.size)⟩
        case measure => simp [intOf]; omega
    · go_wp2
      go_ret
      exact ⟨rfl, hb⟩
end Go.Proofs.Ytikdagkopalojaa
