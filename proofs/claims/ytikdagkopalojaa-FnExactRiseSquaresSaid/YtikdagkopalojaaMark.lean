/-
  Slices of the call's own: what may be written, and what then stands there.
-/
import Derived.Test.YtikdagkopalojaaRises2
import Derived.Test.YtikdagkopalojaaOwn1
namespace Go.Proofs.Ytikdagkopalojaa
open Go.RowKit

/-- A slice of the call's own that reads as rises: nothing else looks at its block. -/
def MineR (B : Nat) (w : World) (a : Option Addr) (len : Nat) (rs : List Rise) : Prop :=
  rs.length = len ∧ len ≤ 1048576 ∧ (len = 0 ∨ ∃ g rest, a = some ⟨g, 0, none⟩ ∧ B ≤ g ∧ Own 59 w g (cellsR rs ++ rest))
theorem MineR.base {B : Nat} {w : World} {a : Option Addr} {len : Nat} {rs : List Rise} (h : MineR B w a len rs) : len ≠ 0 → ∀ g, a = some ⟨g, 0, none⟩ → B ≤ g := by
  intro hl g hg
  rcases h.2.2 with h0 | ⟨g', rest, rfl, hB, _⟩
  · exact absurd h0 hl
  · simp at hg; omega
theorem MineR.lt {B : Nat} {w : World} {a : Option Addr} {len : Nat} {rs : List Rise} (h : MineR B w a len rs) : len ≠ 0 → ∀ g, a = some ⟨g, 0, none⟩ → g < w.heap.size := by
  intro hl g hg
  rcases h.2.2 with h0 | ⟨g', rest, rfl, hB, ho⟩
  · exact absurd h0 hl
  · simp at hg; have := ho.lt; omega
theorem MineR.ris {B : Nat} {w : World} {a : Option Addr} {len : Nat} {rs : List Rise} (h : MineR B w a len rs) : RiS w a len rs := by
  obtain ⟨h1, h2, h3⟩ := h
  refine ⟨h1, h2, ?_⟩
  rcases h3 with h3 | ⟨g, rest, rfl, hB, ho⟩
  · exact .inl h3
  · refine .inr ⟨g, 0, rfl, ho.lt, fun i hi => ?_⟩
    have e := fun j hj => cellsR_get (rs := rs) (k := i) (by omega) j hj
    have e' : ∀ j, j < 4 → (cellsR rs ++ rest)[i * 4 + j]? = (rs.getD i default).cells[j]? := fun j hj => by
      rw [List.getElem?_append_left (by rw [cellsR_len]; omega)]; exact e j hj
    rw [Nat.zero_add]
    exact ⟨ho.at (by have := e' 0 (by omega); simpa [Rise.cells] using this), ho.at (by have := e' 1 (by omega); simpa [Rise.cells] using this), ho.at (by have := e' 2 (by omega); simpa [Rise.cells] using this), ho.at (by have := e' 3 (by omega); simpa [Rise.cells] using this)⟩
theorem MineR.below {B : Nat} {w w' : World} {a : Option Addr} {len : Nat} {rs : List Rise} (h : MineR B w a len rs) (hb : Below w.heap.size w w') : MineR B w' a len rs := by
  obtain ⟨h1, h2, h3⟩ := h
  refine ⟨h1, h2, ?_⟩
  rcases h3 with h3 | ⟨g, rest, rfl, hB, ho⟩
  · exact .inl h3
  · exact .inr ⟨g, rest, rfl, hB, ho.below hb⟩
theorem MineR.nil (B : Nat) (w : World) : MineR B w none 0 [] := ⟨rfl, by omega, .inl rfl⟩
theorem MineR.of_own {B : Nat} {w : World} {g : Nat} {rs : List Rise} (h : Own 59 w g (cellsR rs)) (hB : B ≤ g) (hm : rs.length ≤ 1048576) : MineR B w (some ⟨g, 0, none⟩) rs.length rs :=
  ⟨rfl, hm, .inr ⟨g, [], rfl, hB, by simpa using h⟩⟩
theorem MineR.other {B : Nat} {w w' : World} {a a' : Option Addr} {len len' : Nat} {rs : List Rise} (h : MineR B w a len rs) (ho : OnlyAt a' len' w w') (hne : len ≠ 0 → len' ≠ 0 → a ≠ a') : MineR B w' a len rs := by
  obtain ⟨h1, h2, h3⟩ := h
  refine ⟨h1, h2, ?_⟩
  rcases h3 with h3 | ⟨g, rest, rfl, hB, hw⟩
  · exact .inl h3
  · by_cases hl : len = 0
    · exact .inl hl
    · refine .inr ⟨g, rest, rfl, hB, hw.block (ho.2.2.2.2 g fun hl' g' hg' e => ?_)⟩
      subst e
      exact hne hl hl' hg'.symm

/-- The marks from n on. -/
def markR (n : Nat) (k : Int) : List Rise := (List.range n).map fun i : Nat => ⟨k + 4 * (i : Int), k + 4 * i + 1, k + 4 * i + 2, k + 4 * i + 3⟩
theorem markR_get {n : Nat} {k : Int} {i : Nat} (h : i < n) : (markR n k).getD i default = ⟨k + 4 * i, k + 4 * i + 1, k + 4 * i + 2, k + 4 * i + 3⟩ := by simp [markR, h, List.getD_eq_getElem?_getD]
theorem markR_len (n : Nat) (k : Int) : (markR n k).length = n := by simp [markR]

/-- Cells of which the first k elements have turned. -/
def turnR (rs new : List Rise) (k : Nat) : List Rise := new.take k ++ rs.drop k
theorem turnR_set {rs new : List Rise} {k : Nat} (rest : List Value) (hk : k < rs.length) (hl : new.length = rs.length) {r : Rise} (hr : new.getD k default = r) :
    ((((cellsR (turnR rs new k) ++ rest).set (k * 4) (.int .i64 r.f)).set (k * 4 + 1) (.int .i64 r.t)).set (k * 4 + 2) (.int .i64 r.s)).set (k * 4 + 3) (.int .i64 r.l) = cellsR (turnR rs new (k + 1)) ++ rest := by
  unfold turnR
  have e1 : (cellsR (new.take k)).length = k * 4 := by rw [cellsR_len]; simp; omega
  rw [List.take_succ_eq_append_getElem (by omega), cellsR_append, cellsR_append, cellsR_append]
  have e2 : cellsR [new[k]'(by omega)] = r.cells := by
    rw [← hr, getD_at (by omega)]
    simp [cellsR]
  rw [e2]
  have e3 : cellsR (rs.drop k) = (rs[k]'hk).cells ++ cellsR (rs.drop (k + 1)) := by
    rw [List.drop_eq_getElem_cons hk]
    unfold cellsR
    rw [List.flatMap_cons]
  rw [e3]
  generalize cellsR (new.take k) = A at *
  generalize cellsR (rs.drop (k + 1)) = D at *
  generalize rs[k]'hk = q
  generalize k * 4 = o at *
  subst e1
  simp [Rise.cells, List.set_append_right]
theorem turnR_at {rs new : List Rise} {k j : Nat} (rest : List Value) (hk : k < rs.length) (hl : new.length = rs.length) (hj : j < 4) : (cellsR (turnR rs new k) ++ rest)[k * 4 + j]? = (rs.getD k default).cells[j]? := by
  unfold turnR
  have hlen : (new.take k ++ rs.drop k).length = rs.length := by simp; omega
  rw [List.getElem?_append_left (by rw [cellsR_len, hlen]; omega), cellsR_get (by rw [hlen]; exact hk) j hj]
  congr 2
  rw [List.getD_eq_getElem?_getD, List.getElem?_append_right (by simp; omega)]
  simp
  congr 1
  rw [Nat.min_eq_left (by omega), Nat.sub_self, Nat.add_zero]
theorem turnR_full {rs new : List Rise} (hl : new.length = rs.length) : turnR rs new rs.length = new := by
  unfold turnR
  rw [List.drop_length, List.append_nil, ← hl, List.take_length]
theorem turnR_zero (rs new : List Rise) : turnR rs new 0 = rs := by simp [turnR]

/-- What a marking leaves: the marks, and nothing else turned. -/
def MarkedR (B : Nat) (a : Option Addr) (len : Nat) (k : Int) (w : World) (e : Ending) (w' : World) : Prop :=
  e = .returned (.int .i64 (k + 4 * len)) ∧ MineR B w' a len (markR len k) ∧ OnlyAt a len w w'

set_option maxHeartbeats 1000000 in
theorem markRiseS (B : Nat) (a : Option Addr) (len cap : Nat) (rs : List Rise) (k : Int) (hk : 0 ≤ k ∧ k ≤ 1000000) (w : World) (h : MineR B w a len rs) :
    Calls Try.prog 24 #[.slice a len cap, .int .i64 k] w (MarkedR B a len k w) := by
  have hm := h.2.1
  have hl := h.1
  rcases h.2.2 with h0 | ⟨g, rest, rfl, hB, ho⟩
  · subst h0
    go_enter Try.func24, Try.ntmps24
    go_wp2
    go_loopw [1, 5] (fun m i wr => m = .int .i64 k ∧ i = .int .i64 0 ∧ w = wr) (fun _ _ _ => 0)
    case atStart => exact ⟨rfl, rfl, rfl⟩
    case round =>
      obtain ⟨rfl, rfl, rfl⟩ := hrel
      go_wp2
      go_ret
      exact ⟨by simp, ⟨rfl, by omega, .inl rfl⟩, OnlyAt.refl _ _ _⟩
  · have hnew : (markR len k).length = rs.length := by rw [markR_len, hl]
    go_enter Try.func24, Try.ntmps24
    go_wp2
    go_loopw [1, 5] (fun m i wr => ∃ n : Nat, n ≤ len ∧ i = .int .i64 n ∧ m = .int .i64 (k + 4 * n) ∧ Own 59 wr g (cellsR (turnR rs (markR len k) n) ++ rest) ∧ OnlyAt (some ⟨g, 0, none⟩) len w wr) (fun _ i _ => len - (intOf i).toNat)
    case atStart => exact ⟨0, Nat.zero_le _, rfl, by simp, by rw [turnR_zero]; exact ho, OnlyAt.refl _ _ _⟩
    case round =>
      obtain ⟨n, hn, rfl, rfl, ho', hoa⟩ := hrel
      clear ho
      by_cases hlt : n < len
      · have hne : len ≠ 0 := by omega
        have hget := markR_get (n := len) (k := k) (i := n) hlt
        have d0 : wr.cell? ⟨g, n * 4, none⟩ = some (.int .i64 (rs.getD n default).f) := ho'.at (turnR_at rest (by omega) hnew (j := 0) (by omega))
        have d1 : wr.cell? ⟨g, n * 4 + 1, none⟩ = some (.int .i64 (rs.getD n default).t) := ho'.at (turnR_at rest (by omega) hnew (j := 1) (by omega))
        have d2 : wr.cell? ⟨g, n * 4 + 2, none⟩ = some (.int .i64 (rs.getD n default).s) := ho'.at (turnR_at rest (by omega) hnew (j := 2) (by omega))
        have d3 : wr.cell? ⟨g, n * 4 + 3, none⟩ = some (.int .i64 (rs.getD n default).l) := ho'.at (turnR_at rest (by omega) hnew (j := 3) (by omega))
        have f0 := ho'.free (n * 4)
        have f1 := ho'.free (n * 4 + 1)
        have f2 := ho'.free (n * 4 + 2)
        have f3 := ho'.free (n * 4 + 3)
        go_wp2
        go_roundw
        case rel =>
          refine ⟨n + 1, by omega, by go_num, by go_num, ?_, (((hoa.set hne _ _).set hne _ _).set hne _ _).set hne _ _⟩
          rw [← turnR_set rest (by omega) hnew hget]
          have e4 : ∀ x : Int, x + 1 + 1 = x + 2 := by omega
          have e5 : ∀ x : Int, x + 2 + 1 = x + 3 := by omega
          simp only [e4, e5]
          exact (((ho'.set _ _).set _ _).set _ _).set _ _
        case measure => simp [intOf]; omega
      · go_wp2
        go_ret
        obtain rfl : n = len := by omega
        refine ⟨rfl, ⟨markR_len _ _, hm, .inr ⟨g, rest, rfl, hB, ?_⟩⟩, hoa⟩
        rw [← hl] at ho'
        rw [turnR_full (by rw [hl]; exact hnew.trans hl), hl] at ho'
        exact ho'

set_option maxHeartbeats 1000000 in
theorem heldRiseS (B : Nat) (a : Option Addr) (len cap : Nat) (k : Int) (hk : 0 ≤ k ∧ k ≤ 1000000) (w : World) (h : MineR B w a len (markR len k)) :
    Calls Try.prog 36 #[.slice a len cap, .int .i64 k] w (fun e w' => e = .returned (.int .i64 (k + 4 * len)) ∧ w = w') := by
  have hm := h.2.1
  have hr := h.ris
  go_enter Try.func36, Try.ntmps36
  go_wp2
  go_loopw [1, 5] (fun m i wr => ∃ (n : Nat) (v : Int), n ≤ len ∧ i = .int .i64 n ∧ m = .int .i64 v ∧ Hid (v = k + 4 * n) ∧ w = wr) (fun _ i _ => len - (intOf i).toNat)
  case atStart => exact ⟨0, k, Nat.zero_le _, rfl, rfl, by show k = _; simp, rfl⟩
  case round =>
    obtain ⟨n, v, hn, rfl, rfl, hv, rfl⟩ := hrel
    by_cases hlt : n < len
    · have hget := markR_get (n := len) (k := k) (i := n) hlt
      obtain ⟨b, off, r, rfl, hbb, ⟨c0, c1, c2, c3⟩, hzz⟩ := hr.get hlt
      have e := hzz.out.symm.trans hget
      rw [← hv.out] at e
      have e0 : r.f = v := by rw [e]
      have e1 : r.t = v + 1 := by rw [e]
      have e2 : r.s = v + 1 + 1 := by rw [e]; show v + 2 = _; omega
      have e3 : r.l = v + 1 + 1 + 1 := by rw [e]; show v + 3 = _; omega
      rw [e0] at c0
      rw [e1] at c1
      rw [e2] at c2
      rw [e3] at c3
      clear e0 e1 e2 e3 e hget
      have hb : 0 ≤ v ∧ v ≤ 8000000 := by have := hv.out; omega
      have hnext : Hid (v + 1 + 1 + 1 + 1 = k + 4 * ((n + 1 : Nat) : Int)) := by refine Lib.hid ?_; have := hv.out; omega
      go_wp2
      go_roundw
      case rel => exact ⟨n + 1, _, by omega, by go_num, rfl, hnext, trivial⟩
      case measure => simp [intOf]; omega
    · go_wp2
      go_ret
      obtain rfl : n = len := by omega
      exact ⟨by rw [hv.out]; rfl, rfl⟩
end Go.Proofs.Ytikdagkopalojaa
