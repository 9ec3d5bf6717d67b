/-
  The least squares of rises: the program's words: the other sign, and the function that adds.
-/
import Derived.Test.YtikdagkopalojaaSquares2
namespace Go.Proofs.Ytikdagkopalojaa
open Go.RowKit
attribute [local go_sem] order_cl cl_zero cl_one cl_two aord_none

/-! ### The other sign -/
theorem neg_bits (b : Nat) : (b ^^^ 2 ^ 31) % 2 ^ 31 = b % 2 ^ 31 ∧ (b ^^^ 2 ^ 31) / 2 ^ 31 % 2 = 1 - b / 2 ^ 31 % 2 := by
  constructor
  · rw [Nat.xor_mod_two_pow, Nat.mod_self, Nat.xor_zero]
  · rw [← Nat.shiftRight_eq_div_pow, ← Nat.shiftRight_eq_div_pow, Nat.shiftRight_xor_distrib, Nat.shiftRight_eq_div_pow (2 ^ 31), Nat.div_self (by decide)]
    generalize b >>> 31 = c
    have h := Nat.xor_mod_two_pow (a := c) (b := 1) (n := 1)
    rw [Nat.pow_one] at h
    rw [h]
    rcases Nat.mod_two_eq_zero_or_one c with e | e <;> rw [e] <;> rfl
theorem read_neg (b : Nat) : FloatKind.f32.format.read (Op.negFloat .f32 b) = (FloatKind.f32.format.read b).opposite := by
  obtain ⟨h1, h2⟩ := neg_bits b
  have hs : (FloatKind.format .f32).signWeight = 2 ^ 31 := rfl
  have hn : Op.negFloat .f32 b = b ^^^ 2 ^ 31 := rfl
  unfold Ieee.Format.read
  rw [hn, hs, h1]
  have h3 : ((b ^^^ 2 ^ 31) / 2 ^ 31 % 2 == 1) = !(b / 2 ^ 31 % 2 == 1) := by
    rw [h2]
    have : b / 2 ^ 31 % 2 < 2 := Nat.mod_lt _ (by decide)
    generalize b / 2 ^ 31 % 2 = c at *
    rcases (show c = 0 ∨ c = 1 by omega) with rfl | rfl <;> rfl
  dsimp only
  rw [h3]
  split
  · rfl
  · split
    · rfl
    · split
      · rfl
      · rfl
theorem ab_neg (X : Option Nat) (b : Nat) : ab .add .f32 X (cl .f32 (Op.negFloat .f32 b)) = ab .sub .f32 X (cl .f32 b) := by
  have hr := read_neg b
  cases hb : cl .f32 b with
  | none =>
    obtain ⟨s, t, e⟩ := read_nan hb
    have : cl .f32 (Op.negFloat .f32 b) = none := by
      unfold cl
      rw [hr, e]
      rfl
    rw [this]
    cases X <;> rfl
  | some b' =>
    obtain rfl := cl_some hb
    have : cl .f32 (Op.negFloat .f32 b') = some (Op.negFloat .f32 b') := by
      unfold cl at hb ⊢
      rw [hr]
      cases h : FloatKind.f32.format.read b' with
      | nan s t => rw [h] at hb; cases hb
      | infinity s => rfl
      | number s m p => rfl
    rw [this]
    cases X with
    | none => rfl
    | some x =>
      show floatBits .add .f32 x (Op.negFloat .f32 b') = floatBits .sub .f32 x b'
      simp only [floatBits, Ieee.Format.add, Ieee.Format.sub, hr]

/-! ### The function that adds -/
def addS (n i k : Nat) (W : Cl) (S : Nat → Cl) : Nat → Cl := if 0 < i ∧ 0 < k then updE S ((i - 1) * n + (k - 1)) (ab .add .f32 (S ((i - 1) * n + (k - 1))) W) else S
def AddQ (m n g i k : Nat) (W : Cl) (S : Nat → Cl) (w : World) (e : Ending) (w' : World) : Prop := e = .returned (.tuple #[]) ∧ Mat w' g m (addS n i k W S) ∧ OnlyAt (some ⟨g, 0, none⟩) 1 w w'
theorem OnlyAt.drew {a : Option Addr} {len : Nat} {w w' : World} (h : OnlyAt a len w w') (d : Nat) : OnlyAt a len w (w'.drewN d) := h

theorem implAdd (m n g gs gn i k wb : Nat) (S : Nat → Cl) (w : World) (hn : n ≤ 10) (hm : m = n * n) (hi : i ≤ n) (hk : k ≤ n) (hS : Mat w g m S)
    (hs : w.cell? ⟨gs, 0, none⟩ = some (.slice (some ⟨g, 0, none⟩) m m)) (hc : w.cell? ⟨gn, 0, none⟩ = some (.int .i64 (n : Int))) :
    Calls Try.prog 55 #[.int .i64 (i : Int), .int .i64 (k : Int), .float .f32 wb, .pointer (some ⟨gs, 0, none⟩), .pointer (some ⟨gn, 0, none⟩)] w (AddQ m n g i k (cl .f32 wb) S w) := by
  by_cases h0 : 0 < i ∧ 0 < k
  · obtain ⟨p, rfl⟩ : ∃ p : Nat, i = p + 1 := ⟨i - 1, by omega⟩
    obtain ⟨q, rfl⟩ : ∃ q : Nat, k = q + 1 := ⟨k - 1, by omega⟩
    have hm100 : m ≤ 100 := by rw [hm]; exact Nat.mul_le_mul hn hn
    obtain ⟨a, ha, hal, hw1⟩ := rowAt hm (show p < n by omega) hn
    obtain ⟨t, ht, htm, hw2⟩ := placeAt hal (show q < n by omega) hm100
    have hta := ht.out
    have hw3 : IntKind.i64.wrap ((a : Int) + ((q : Int) + 1)) = (a : Int) + ((q : Int) + 1) := IntWalk.i64_in _ (by omega)
    have hw4 : IntKind.i64.wrap ((a : Int) + ((q : Int) + 1) - 1) = (t : Int) := by rw [show (a : Int) + ((q : Int) + 1) - 1 = (t : Int) by omega]; exact IntWalk.i64_in _ (by omega)
    have hw5 : IntKind.i64.wrap ((p : Int) + 1 - 1) = (p : Int) := by rw [show (p : Int) + 1 - 1 = (p : Int) by omega]; exact IntWalk.i64_in _ (by omega)
    obtain ⟨y, hy, ey⟩ := hS.get htm
    have hf := hS.free t
    have eS : Hid (addS n (p + 1) (q + 1) (cl .f32 wb) S = updE S t (ab .add .f32 (S t) (cl .f32 wb))) := Lib.hid (by
      unfold addS
      rw [if_pos ⟨Nat.succ_pos _, Nat.succ_pos _⟩, Nat.add_sub_cancel, Nat.add_sub_cancel, hta, ha.out])
    clear hm ht ha hta hal hw2
    simp only [Int.natCast_add, Int.natCast_one]
    go_enter Try.func55, Try.ntmps55
    go_wp2_with (refine wpList_fl rfl rfl rfl rfl rfl ?_; intro r1 d1 hr1)
    refine bodyPost_ret (v := .tuple #[]) (by simp [results, Try.results55, go_sem]) rfl ?_
    refine ⟨rfl, ?_, ((OnlyAt.refl _ _ _).set (by omega) _ _).drew _⟩
    rw [eS.out]
    exact (hS.set htm (by rw [hr1, ey.out])).drew _
  · have eS : addS n i k (cl .f32 wb) S = S := by unfold addS; rw [if_neg h0]
    by_cases h1 : 0 < i
    · have h2 : k = 0 := by omega
      subst h2
      clear h0
      go_enter Try.func55, Try.ntmps55
      go_wp2
      refine bodyPost_ret (v := .tuple #[]) (by simp [results, Try.results55, go_sem]) rfl ?_
      exact ⟨rfl, by rw [eS]; exact hS, OnlyAt.refl _ _ _⟩
    · have h2 : i = 0 := by omega
      subst h2
      clear h0
      go_enter Try.func55, Try.ntmps55
      go_wp2
      refine bodyPost_ret (v := .tuple #[]) (by simp [results, Try.results55, go_sem]) rfl ?_
      exact ⟨rfl, by rw [eS]; exact hS, OnlyAt.refl _ _ _⟩
end Go.Proofs.Ytikdagkopalojaa
