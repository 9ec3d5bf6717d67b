/-
  Lists of rises: how they are copied, compared and found to be such.
-/
import Derived.Test.YtikdagkopalojaaFin
import Derived.Deep.RegionWith
namespace Go.Proofs.Ytikdagkopalojaa
open Go.RowKit

structure Rise where
  f : Int
  t : Int
  s : Int
  l : Int
deriving Inhabited

def Rise.cells (r : Rise) : List Value := [.int .i64 r.f, .int .i64 r.t, .int .i64 r.s, .int .i64 r.l]
def RV (r : Rise) : Value := .agg #[.int .i64 r.f, .int .i64 r.t, .int .i64 r.s, .int .i64 r.l]
def Rise.inI (r : Rise) : Prop := (-9223372036854775808 ≤ r.f ∧ r.f ≤ 9223372036854775807) ∧ (-9223372036854775808 ≤ r.t ∧ r.t ≤ 9223372036854775807) ∧ (-9223372036854775808 ≤ r.s ∧ r.s ≤ 9223372036854775807) ∧ (-9223372036854775808 ≤ r.l ∧ r.l ≤ 9223372036854775807)

/-- The four cells from an address on. -/
structure Four (w : World) (b o : Nat) (r : Rise) : Prop where
  c0 : w.cell? ⟨b, o, none⟩ = some (.int .i64 r.f)
  c1 : w.cell? ⟨b, o + 1, none⟩ = some (.int .i64 r.t)
  c2 : w.cell? ⟨b, o + 2, none⟩ = some (.int .i64 r.s)
  c3 : w.cell? ⟨b, o + 3, none⟩ = some (.int .i64 r.l)

/-- A slice that reads as rises. -/
def RiS (w : World) (a : Option Addr) (len : Nat) (rs : List Rise) : Prop :=
  rs.length = len ∧ len ≤ 1048576 ∧ (len = 0 ∨ ∃ b off, a = some ⟨b, off, none⟩ ∧ b < w.heap.size ∧ ∀ i, i < len → Four w b (off + i * 4) (rs.getD i default))

theorem Four.below {w w' : World} {b o B : Nat} {r : Rise} (h : Four w b o r) (hb : Below B w w') (hB : b < B) : Four w' b o r :=
  ⟨(hb.cell (p := ⟨b, o, none⟩) hB).trans h.c0, (hb.cell (p := ⟨b, o + 1, none⟩) hB).trans h.c1, (hb.cell (p := ⟨b, o + 2, none⟩) hB).trans h.c2, (hb.cell (p := ⟨b, o + 3, none⟩) hB).trans h.c3⟩

section
variable {w w' : World} {a : Option Addr} {len : Nat} {rs : List Rise}
theorem RiS.below (h : RiS w a len rs) (hb : Below w.heap.size w w') : RiS w' a len rs := by
  obtain ⟨h1, h2, h3⟩ := h
  refine ⟨h1, h2, ?_⟩
  rcases h3 with h3 | ⟨b, off, ha, hlt, hc⟩
  · exact .inl h3
  · exact .inr ⟨b, off, ha, Nat.lt_of_lt_of_le hlt hb.size, fun i hi => (hc i hi).below hb hlt⟩
theorem RiS.size (h : RiS w a len rs) : rs.length = len := h.1
theorem RiS.max (h : RiS w a len rs) : len ≤ 1048576 := h.2.1
theorem RiS.get (h : RiS w a len rs) {k : Nat} (hk : k < len) : ∃ b off r, a = some ⟨b, off, none⟩ ∧ b < w.heap.size ∧ Four w b (off + k * 4) r ∧ Hid (rs.getD k default = r) := by
  rcases h.2.2 with h3 | ⟨b, off, ha, hlt, hc⟩
  · omega
  · exact ⟨b, off, _, ha, hlt, hc k hk, rfl⟩
theorem RiS.drewN (h : RiS w a len rs) (n : Nat) : RiS (w.drewN n) a len rs := h.below (below_drewN (Below.refl _ _) n)
end

/-- A call that hands back v, and makes no more than new memory. -/
def RetB (v : Value) (w : World) (e : Ending) (w' : World) : Prop := e = .returned v ∧ Below w.heap.size w w'

theorem szRiseS (a : Option Addr) (len cap : Nat) (left : Int) (w : World) (hl : 0 ≤ left ∧ left ≤ 1048576) (hm : len ≤ 9223372036854775807) :
    Calls Try.prog 10 #[.slice a len cap, .int .i64 left] w (fun e w' => e = .returned (.int .i64 (if left < len then -1 else left - len)) ∧ w = w') := by
  obtain ⟨h1, h2⟩ := hl
  by_cases h : left < len
  all_goals
    go_enter Try.func10, Try.ntmps10
    go_wp2
    go_ret
    exact ⟨by simp [*], rfl⟩

theorem toRise (r : Rise) (w : World) : Calls Try.prog 41 #[RV r] w (RetB (RV r) w) := by
  unfold RV
  go_enter Try.func41, Try.ntmps41
  go_wp2
  exact bodyPost_ret (v := RV r) (by simp [results, Try.results41, go_sem, RV]) rfl ⟨rfl, (((Below.refl _ _).alloc (Nat.le_refl _) _).alloc (by simp) _).alloc (by simp; omega) _⟩

theorem eqRise (r : Rise) (w : World) : Calls Try.prog 45 #[RV r, RV r] w (RetB (.bool true) w) := by
  unfold RV
  go_enter Try.func45, Try.ntmps45
  go_wp2
  go_ret
  exact ⟨rfl, ((Below.refl _ _).alloc (Nat.le_refl _) _).alloc (by simp) _⟩

def cellsR (rs : List Rise) : List Value := rs.flatMap Rise.cells
theorem cellsR_len (rs : List Rise) : (cellsR rs).length = rs.length * 4 := by
  unfold cellsR
  induction rs with
  | nil => rfl
  | cons r rs ih => rw [List.flatMap_cons, List.length_append, ih, List.length_cons]; simp [Rise.cells]; omega
theorem cellsR_append (xs ys : List Rise) : cellsR (xs ++ ys) = cellsR xs ++ cellsR ys := by simp [cellsR]
theorem cellsR_get {rs : List Rise} {k : Nat} (h : k < rs.length) (j : Nat) (hj : j < 4) : (cellsR rs)[k * 4 + j]? = (rs.getD k default).cells[j]? := by
  induction rs generalizing k with
  | nil => simp at h
  | cons r rs ih =>
    unfold cellsR
    rw [List.flatMap_cons]
    cases k with
    | zero =>
      rw [List.getElem?_append_left (by simp [Rise.cells]; omega)]
      simp
    | succ k =>
      rw [List.getElem?_append_right (by simp [Rise.cells]; omega)]
      have e : (k + 1) * 4 + j - r.cells.length = k * 4 + j := by simp [Rise.cells]; omega
      rw [e]
      have := ih (k := k) (by simpa using h)
      unfold cellsR at this
      rw [this]
      simp

theorem Four.of_own {E : TypeId} {w : World} {g : Nat} {rs : List Rise} (h : Own E w g (cellsR rs)) {k : Nat} (hk : k < rs.length) : Four w g (k * 4) (rs.getD k default) := by
  have e := fun j hj => cellsR_get hk j hj
  exact ⟨h.at (by have := e 0 (by omega); simpa [Rise.cells] using this), h.at (by have := e 1 (by omega); simpa [Rise.cells] using this), h.at (by have := e 2 (by omega); simpa [Rise.cells] using this), h.at (by have := e 3 (by omega); simpa [Rise.cells] using this)⟩
theorem RiS.of_own {E : TypeId} {w : World} {g : Nat} {rs : List Rise} (h : Own E w g (cellsR rs)) (hm : rs.length ≤ 1048576) : RiS w (some ⟨g, 0, none⟩) rs.length rs :=
  ⟨rfl, hm, .inr ⟨g, 0, rfl, h.lt, fun i hi => by rw [Nat.zero_add]; exact Four.of_own h hi⟩⟩

/-- Cells that are being filled. -/
def fillR (rs : List Rise) (n k : Nat) : List Value := cellsR (rs.take k) ++ List.replicate ((n - k) * 4) (.int .i64 0)
theorem fillR_set {rs : List Rise} {n k : Nat} {r : Rise} (hk : k < n) (hl : rs.length = n) (hr : rs.getD k default = r) :
    ((((fillR rs n k).set (k * 4) (.int .i64 r.f)).set (k * 4 + 1) (.int .i64 r.t)).set (k * 4 + 2) (.int .i64 r.s)).set (k * 4 + 3) (.int .i64 r.l) = fillR rs n (k + 1) := by
  unfold fillR
  have e1 : (cellsR (rs.take k)).length = k * 4 := by rw [cellsR_len]; simp; omega
  rw [show (n - k) * 4 = (n - (k + 1)) * 4 + 4 by omega, List.take_succ_eq_append_getElem (by omega), cellsR_append]
  have e2 : cellsR [rs[k]'(by omega)] = r.cells := by
    rw [← hr, getD_at (by omega)]
    simp [cellsR]
  rw [e2]
  generalize cellsR (rs.take k) = A at *
  generalize (n - (k + 1)) * 4 = m
  have e3 : ∀ x, List.replicate (m + 4) x = x :: x :: x :: x :: List.replicate m (x : Value) := fun x => by simp [List.replicate_succ]
  rw [e3]
  generalize k * 4 = o at *
  subst e1
  simp [Rise.cells, List.set_append_right]
theorem fillR_mid {rs : List Rise} {n k j : Nat} (hl : rs.length = n) (hk : k < n) (hj : j < 4) : (fillR rs n k)[k * 4 + j]? = some (.int .i64 0) := by
  unfold fillR
  have e1 : (cellsR (rs.take k)).length = k * 4 := by rw [cellsR_len]; simp; omega
  rw [List.getElem?_append_right (by omega), e1, List.getElem?_replicate]
  rw [if_pos (by omega)]

theorem infoR : (Try.prog.info? 59).map (fun i => (i.zero, i.size, i.bytes)) = some (some (.agg #[.int .i64 0, .int .i64 0, .int .i64 0, .int .i64 0]), 4, 32) := by kernel_rfl

theorem madeR (n : Nat) : (madeCells (Value.agg #[.int .i64 0, .int .i64 0, .int .i64 0, .int .i64 0]).cells (n * 4)).toList = List.replicate (n * 4) (.int .i64 0) := by
  rw [List.eq_replicate_iff]
  refine ⟨by simp [madeCells], fun x hx => ?_⟩
  simp only [madeCells, Array.toList_map, List.mem_map] at hx
  obtain ⟨i, _, rfl⟩ := hx
  have : i % 4 < 4 := Nat.mod_lt _ (by omega)
  have h4 : i % 4 = 0 ∨ i % 4 = 1 ∨ i % 4 = 2 ∨ i % 4 = 3 := by omega
  show (#[Value.int .i64 0, .int .i64 0, .int .i64 0, .int .i64 0] : Array Value)[i % 4]! = _
  rcases h4 with h | h | h | h <;> rw [h] <;> rfl

/-- A new slice with these rises. -/
def NewRi (rs : List Rise) (w : World) (e : Ending) (w' : World) : Prop :=
  ∃ g, e = .returned (.slice (some ⟨g, 0, none⟩) rs.length rs.length) ∧ w.heap.size ≤ g ∧ Own 59 w' g (cellsR rs) ∧ Below w.heap.size w w'

theorem toRiseS (a : Option Addr) (len cap : Nat) (rs : List Rise) (w : World) (h : RiS w a len rs) : Calls Try.prog 12 #[.slice a len cap] w (NewRi rs w) := by
  have hm := h.max
  obtain ⟨i0, hi, hz0, hz1, hz2⟩ := info_parts infoR
  go_enter Try.func12, Try.ntmps12
  go_wp2_with (at_make; refine wpList_make_full _ rfl (.tmp 6) (.tmp 6) 25 rfl w.heap.size 59 i0 _ 4 Try.underlying25 hi hz0 hz1 .i64 .i64 _ _ len rfl rfl rfl rfl (by rw [hz2]; omega) (by unfold maxLen; omega) (Nat.le_refl _) ?_; intro w1 hown hgrow)
  have ho : Own 59 w1 w.heap.size (fillR rs len 0) := by
    have := Own.of_row hown
    rw [madeR] at this
    simpa [fillR, cellsR] using this
  have hb1 : Below w.heap.size w w1 := (Below.refl _ _).grown hgrow (Nat.le_refl _) (by simp)
  clear hown hgrow hi hz0 hz1 hz2
  go_loopw [4] (fun i wr => ∃ k : Nat, k ≤ len ∧ i = .int .i64 k ∧ Own 59 wr w.heap.size (fillR rs len k) ∧ Below w.heap.size w wr) (fun i _ => len - (intOf i).toNat)
  case atStart => exact ⟨0, Nat.zero_le _, rfl, ho, hb1⟩
  case round =>
    obtain ⟨k, hk, rfl, ho', hb⟩ := hrel
    clear ho hb1
    by_cases hlt : k < len
    · obtain ⟨b, off, r, rfl, hbb, hck, hzz⟩ := h.get hlt
      obtain ⟨c0, c1, c2, c3⟩ := hck.below hb hbb
      clear hck
      go_wp2_with fail
      refine (toRise r _).mono ?_
      rintro e w2 ⟨rfl, hb2⟩
      have ho2 := ho'.below hb2
      have hB2 := hb.trans (hb2.mono (Nat.le_of_lt ho'.lt))
      have d0 : w2.cell? ⟨w.heap.size, k * 4, none⟩ = some (.int .i64 0) := ho2.at (fillR_mid (j := 0) h.size hlt (by omega))
      have d1 := ho2.at (fillR_mid (j := 1) h.size hlt (by omega))
      have d2 := ho2.at (fillR_mid (j := 2) h.size hlt (by omega))
      have d3 := ho2.at (fillR_mid (j := 3) h.size hlt (by omega))
      have f0 := ho2.free (k * 4)
      have f1 := ho2.free (k * 4 + 1)
      have f2 := ho2.free (k * 4 + 2)
      have f3 := ho2.free (k * 4 + 3)
      unfold RV
      clear c0 c1 c2 c3 hb2
      go_wp2
      go_roundw
      case rel =>
        have hzz' := hzz.out
        exact ⟨k + 1, by omega, by go_num, by rw [← fillR_set hlt h.size hzz']; exact (((ho2.set _ _).set _ _).set _ _).set _ _, (((hB2.setCell (Nat.le_refl _) _).setCell (Nat.le_refl _) _).setCell (Nat.le_refl _) _).setCell (Nat.le_refl _) _⟩
      case measure => simp [intOf]; omega
    · go_wp2
      go_ret
      obtain rfl : k = len := by omega
      refine ⟨_, by rw [h.size]; rfl, Nat.le_refl _, ?_, hb⟩
      have := h.size
      unfold fillR at ho'
      rw [List.take_of_length_le (by omega)] at ho'
      simpa using ho'
end Go.Proofs.Ytikdagkopalojaa
