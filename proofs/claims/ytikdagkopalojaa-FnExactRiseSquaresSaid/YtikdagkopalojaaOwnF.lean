/-
  Slices of floats of the call's own: marked and held; rows that grow.
-/
import Derived.Test.YtikdagkopalojaaOwn1
import Derived.Deep.AppendLies
namespace Go.Proofs.Ytikdagkopalojaa
open Go.RowKit
attribute [local go_sem] order_cl cl_zero cl_one cl_two aord_none

theorem cl_int (k : FloatKind) (n : Int) : cl k (floatOfInt k n) = some (floatOfInt k n) := by
  unfold floatOfInt FloatKind.nearest
  exact cl_encode rfl

def markF (n : Nat) (k : Int) : List Nat := (List.range n).map fun i : Nat => floatOfInt .f32 (k + (i : Int))
theorem markF_get {n : Nat} {k : Int} {i : Nat} (h : i < n) : (fls (markF n k))[i]? = some (.float .f32 (floatOfInt .f32 (k + i))) := by simp [fls, markF, h]
theorem markF_len (n : Nat) (k : Int) : (fls (markF n k)).length = n := by simp [fls, markF]

def MarkedF (B : Nat) (a : Option Addr) (len : Nat) (k : Int) (w : World) (e : Ending) (w' : World) : Prop :=
  e = .returned (.int .i64 (k + len)) ∧ MineV 37 B w' a len (fls (markF len k)) ∧ OnlyAt a len w w'

theorem markFloat32S (B : Nat) (a : Option Addr) (len cap : Nat) (xs : List Nat) (k : Int) (hk : 0 ≤ k ∧ k ≤ 1000000) (w : World) (h : MineV 37 B w a len (fls xs)) :
    Calls Try.prog 25 #[.slice a len cap, .int .i64 k] w (MarkedF B a len k w) := by
  have hm := h.2.1
  have hl := h.1
  rcases h.2.2 with h0 | ⟨g, rest, rfl, hB, ho⟩
  · subst h0
    go_enter Try.func25, Try.ntmps25
    go_wp2
    go_loopw [1, 5] (fun m i wr => m = .int .i64 k ∧ i = .int .i64 0 ∧ w = wr) (fun _ _ _ => 0)
    case atStart => exact ⟨rfl, rfl, rfl⟩
    case round =>
      obtain ⟨rfl, rfl, rfl⟩ := hrel
      go_wp2
      go_ret
      exact ⟨by simp, ⟨rfl, by omega, .inl rfl⟩, OnlyAt.refl _ _ _⟩
  · have hnew : (fls (markF len k)).length = (fls xs).length := by rw [markF_len, hl]
    go_enter Try.func25, Try.ntmps25
    go_wp2
    go_loopw [1, 5] (fun m i wr => ∃ n : Nat, n ≤ len ∧ i = .int .i64 n ∧ m = .int .i64 (k + n) ∧ Own 37 wr g (turnV (fls xs) (fls (markF len k)) n ++ rest) ∧ OnlyAt (some ⟨g, 0, none⟩) len w wr) (fun _ i _ => len - (intOf i).toNat)
    case atStart => exact ⟨0, Nat.zero_le _, rfl, by simp, by rw [turnV_zero]; exact ho, OnlyAt.refl _ _ _⟩
    case round =>
      obtain ⟨n, hn, rfl, rfl, ho', hoa⟩ := hrel
      clear ho
      by_cases hlt : n < len
      · have hne : len ≠ 0 := by omega
        have hget := markF_get (n := len) (k := k) (i := n) hlt
        have d0 : wr.cell? ⟨g, n, none⟩ = some (.float .f32 (xs.getD n 0)) := ho'.at ((turnV_at rest (by omega) hnew).trans (fls_get (by rw [← fls_len]; omega)))
        have f0 := ho'.free n
        go_wp2
        go_roundw
        case rel =>
          refine ⟨n + 1, by omega, by go_num, by go_num, ?_, hoa.set hne _ _⟩
          rw [← turnV_set rest (by omega) hnew hget]
          exact ho'.set _ _
        case measure => simp [intOf]; omega
      · go_wp2
        go_ret
        obtain rfl : n = len := by omega
        refine ⟨rfl, ⟨markF_len _ _, hm, .inr ⟨g, rest, rfl, hB, ?_⟩⟩, hoa⟩
        rw [← hl] at ho'
        rw [turnV_full (by rw [hl]; exact hnew.trans hl), hl] at ho'
        exact ho'

theorem heldFloat32S (B : Nat) (a : Option Addr) (len cap : Nat) (k : Int) (hk : 0 ≤ k ∧ k ≤ 1000000) (w : World) (h : MineV 37 B w a len (fls (markF len k))) :
    Calls Try.prog 26 #[.slice a len cap, .int .i64 k] w (fun e w' => e = .returned (.int .i64 (k + len)) ∧ w = w') := by
  have hm := h.2.1
  have hr := h.fls
  go_enter Try.func26, Try.ntmps26
  go_wp2
  go_loopw [1, 5] (fun m i wr => ∃ (n : Nat) (v : Int), n ≤ len ∧ i = .int .i64 n ∧ m = .int .i64 v ∧ Hid (v = k + n) ∧ w = wr) (fun _ i _ => len - (intOf i).toNat)
  case atStart => exact ⟨0, k, Nat.zero_le _, rfl, rfl, by show k = _; simp, rfl⟩
  case round =>
    obtain ⟨n, v, hn, rfl, rfl, hv, rfl⟩ := hrel
    by_cases hlt : n < len
    · obtain ⟨b, off, r, rfl, hbb, c0, hzz⟩ := hr.get hlt
      have e : r = floatOfInt .f32 v := by rw [← hzz.out, hv.out]; simp [markF, hlt, List.getD_eq_getElem?_getD]
      subst e
      have hc := cl_int .f32 v
      have hs := aord_self hc
      have hb : 0 ≤ v ∧ v ≤ 8000000 := by have := hv.out; omega
      have hnext : Hid (v + 1 = k + ((n + 1 : Nat) : Int)) := by refine Lib.hid ?_; have := hv.out; omega
      clear hzz
      go_wp2
      go_roundw
      case rel => exact ⟨n + 1, _, by omega, by go_num, rfl, hnext, trivial⟩
      case measure => simp [intOf]; omega
    · go_wp2
      go_ret
      obtain rfl : n = len := by omega
      exact ⟨by rw [hv.out]; rfl, rfl⟩

/-! ### Rows of floats that grow -/
theorem fls_one (zs : List Nat) : ∀ u ∈ fls zs, u.oneCell' = true := by
  intro u hu
  simp only [fls, List.mem_map] at hu
  obtain ⟨z, _, rfl⟩ := hu
  rfl
/-- A row that the call has built reads as its own. -/
theorem MineV.of_row {E : TypeId} {B n : Nat} {w : World} {a : Option Addr} {len cap : Nat} {vs : List Value} (h : w.ownsRow B E 1 (.slice a len cap) n vs) (hm : n ≤ 1048576) : n = len ∧ MineV E B w a len vs := by
  obtain ⟨h1, ⟨h2, h3⟩ | ⟨g, c, cur, hv, hB, hg, _, _, hs, ht⟩⟩ := h
  · simp only [Value.slice.injEq] at h2
    obtain ⟨rfl, rfl, rfl⟩ := h2
    subst h3
    exact ⟨rfl, by simpa using h1, by omega, .inl rfl⟩
  · simp only [Value.slice.injEq] at hv
    obtain ⟨rfl, rfl, rfl⟩ := hv
    refine ⟨rfl, by simpa using h1, hm, .inr ⟨g, cur.toList.drop (len * 1), rfl, hB, ?_⟩⟩
    unfold Own
    rw [← ht, List.take_append_drop, hg]
end Go.Proofs.Ytikdagkopalojaa
