/-
  The least squares of rises: what is meant.
-/
import Derived.Test.YtikdagkopalojaaEven4
import Derived.Test.YtikdagkopalojaaRises2
namespace Go.Proofs.Ytikdagkopalojaa
open Go.RowKit

def oneC : Cl := cl .f32 1065353216
/-- A rise's weight, and its push. -/
def wF (r : Rise) : Cl := ab .quo .f32 oneC (cl .f32 (floatOfInt .f32 r.l))
def upF (r : Rise) : Cl := ab .mul .f32 (wF r) (cl .f32 (floatOfInt .f32 r.s))
def sqA (n f : Nat) (W : Cl) (S : Nat → Cl) : Nat → Cl := if 0 < f then updE S ((f - 1) * n + (f - 1)) (ab .add .f32 (S ((f - 1) * n + (f - 1))) W) else S
def bA (f : Nat) (U : Cl) (B : Nat → Cl) : Nat → Cl := if 0 < f then updE B (f - 1) (ab .sub .f32 (B (f - 1)) U) else B
def bB (t : Nat) (U : Cl) (B : Nat → Cl) : Nat → Cl := if 0 < t then updE B (t - 1) (ab .add .f32 (B (t - 1)) U) else B
def sqD (n f t : Nat) (W : Cl) (S : Nat → Cl) : Nat → Cl := updE S ((f - 1) * n + (t - 1)) (ab .sub .f32 (S ((f - 1) * n + (t - 1))) W)
def sqC (n f t : Nat) (W : Cl) (S : Nat → Cl) : Nat → Cl := if 0 < f ∧ 0 < t then sqD n t f W (sqD n f t W S) else S
def stS (n : Nat) (r : Rise) (S : Nat → Cl) : Nat → Cl := sqC n r.f.toNat r.t.toNat (wF r) (sqA n r.t.toNat (wF r) (sqA n r.f.toNat (wF r) S))
def stB (r : Rise) (B : Nat → Cl) : Nat → Cl := bB r.t.toNat (upF r) (bA r.f.toNat (upF r) B)
def sqAt (n : Nat) (rs : List Rise) : Nat → Nat → Cl
  | 0 => fun _ => some 0
  | k + 1 => stS n (rs.getD k default) (sqAt n rs k)
def bAt (rs : List Rise) : Nat → Nat → Cl
  | 0 => fun _ => some 0
  | k + 1 => stB (rs.getD k default) (bAt rs k)
/-- The sum of squares over the first rises, at these heights. -/
def missF (r : Rise) (h : Nat → Cl) : Cl := ab .sub .f32 (cl .f32 (floatOfInt .f32 r.s)) (ab .sub .f32 (h r.t.toNat) (h r.f.toNat))
def allAt (rs : List Rise) (h : Nat → Cl) : Nat → Cl
  | 0 => some 0
  | k + 1 => ab .add .f32 (allAt rs h k) (ab .mul .f32 (ab .mul .f32 (wF (rs.getD k default)) (missF (rs.getD k default) h)) (missF (rs.getD k default) h))

theorem updE_at (r : Nat → Cl) (t : Nat) (v : Cl) : updE r t v t = v := by simp [updE]
theorem updE_ne {r : Nat → Cl} {t u : Nat} {v : Cl} (h : u ≠ t) : updE r t v u = r u := by simp [updE, h]
theorem stS_both {n p q pp pq qp qq : Nat} {W v3 v5 v7 v8 : Cl} {S : Nat → Cl} (h1 : pp = p * n + p) (h2 : qq = q * n + q) (h3 : pq = p * n + q) (h4 : qp = q * n + p)
    (n1 : qq ≠ pp) (n2 : pq ≠ pp) (n3 : qp ≠ pp) (n4 : pq ≠ qq) (n5 : qp ≠ qq) (n6 : qp ≠ pq)
    (e3 : v3 = ab .add .f32 (S pp) W) (e5 : v5 = ab .add .f32 (S qq) W) (e7 : v7 = ab .sub .f32 (S pq) W) (e8 : v8 = ab .sub .f32 (S qp) W) :
    sqC n (p + 1) (q + 1) W (sqA n (q + 1) W (sqA n (p + 1) W S)) = updE (updE (updE (updE S pp v3) qq v5) pq v7) qp v8 := by
  unfold sqC
  rw [if_pos ⟨Nat.succ_pos _, Nat.succ_pos _⟩]
  unfold sqD sqA
  rw [if_pos (Nat.succ_pos _), if_pos (Nat.succ_pos _)]
  simp only [Nat.add_sub_cancel, ← h1, ← h2, ← h3, ← h4]
  rw [updE_ne n6, updE_ne n5, updE_ne n4, updE_ne n3, updE_ne n2, updE_ne n1, ← e3, ← e5, ← e7, ← e8]
theorem stB_both {p q : Nat} {U v4 v6 : Cl} {B : Nat → Cl} (hne : q ≠ p) (e4 : v4 = ab .sub .f32 (B p) U) (e6 : v6 = ab .add .f32 (B q) U) : bB (q + 1) U (bA (p + 1) U B) = updE (updE B p v4) q v6 := by
  unfold bB bA
  rw [if_pos (Nat.succ_pos _), if_pos (Nat.succ_pos _)]
  simp only [Nat.add_sub_cancel]
  rw [updE_ne hne, ← e4, ← e6]
theorem stS_f {n p pp : Nat} {W v3 : Cl} {S : Nat → Cl} (h1 : pp = p * n + p) (e3 : v3 = ab .add .f32 (S pp) W) : sqC n (p + 1) 0 W (sqA n 0 W (sqA n (p + 1) W S)) = updE S pp v3 := by
  unfold sqC sqA
  rw [if_neg (by omega), if_neg (by omega), if_pos (Nat.succ_pos _)]
  simp only [Nat.add_sub_cancel, ← h1]
  rw [← e3]
theorem stB_f {p : Nat} {U v4 : Cl} {B : Nat → Cl} (e4 : v4 = ab .sub .f32 (B p) U) : bB 0 U (bA (p + 1) U B) = updE B p v4 := by
  unfold bB bA
  rw [if_neg (by omega), if_pos (Nat.succ_pos _)]
  simp only [Nat.add_sub_cancel]
  rw [← e4]
theorem stS_t {n q qq : Nat} {W v5 : Cl} {S : Nat → Cl} (h2 : qq = q * n + q) (e5 : v5 = ab .add .f32 (S qq) W) : sqC n 0 (q + 1) W (sqA n (q + 1) W (sqA n 0 W S)) = updE S qq v5 := by
  unfold sqC sqA
  rw [if_neg (by omega), if_pos (Nat.succ_pos _), if_neg (by omega)]
  simp only [Nat.add_sub_cancel, ← h2]
  rw [← e5]
theorem stB_t {q : Nat} {U v6 : Cl} {B : Nat → Cl} (e6 : v6 = ab .add .f32 (B q) U) : bB (q + 1) U (bA 0 U B) = updE B q v6 := by
  unfold bB bA
  rw [if_pos (Nat.succ_pos _), if_neg (by omega)]
  simp only [Nat.add_sub_cancel]
  rw [← e6]

/-- Words of classes. -/
def wordsOf (m : Nat) (S : Nat → Cl) : List Nat := canon ((List.range m).map S)
theorem words_of {m : Nat} {S : Nat → Cl} {us : List Nat} (hl : us.length = m) (hc : ∀ t, t < m → cl .f32 (us.getD t 0) = S t) : us.map (cl .f32) = (wordsOf m S).map (cl .f32) := by
  have e : us.map (cl .f32) = (List.range m).map S := by
    apply List.ext_getElem
    · simp [hl]
    · intro t h1 h2
      simp only [List.length_map] at h1
      have := hc t (by omega)
      rw [getD_at (by omega)] at this
      simp [this]
  rw [e]
  exact (canon_map e).symm
theorem clsOf_alike {us vs : List Nat} (h : us.map (cl .f32) = vs.map (cl .f32)) : clsOf us = clsOf vs := by
  funext t
  have hl := (alike h).1
  unfold clsOf
  by_cases ht : t < us.length
  · rw [getD_at ht, getD_at (by omega)]
    have := congrArg (fun l : List (Option Nat) => l[t]?) h
    simpa [ht, show t < vs.length by omega] using this
  · rw [List.getD_eq_getElem?_getD, List.getD_eq_getElem?_getD, List.getElem?_eq_none (by omega), List.getElem?_eq_none (by omega)]
theorem solve_alike {m n : Nat} {qs qs' bs bs' : List Nat} (hq : qs.map (cl .f32) = qs'.map (cl .f32)) (hb : bs.map (cl .f32) = bs'.map (cl .f32)) : outS m n qs bs = outS m n qs' bs' ∧ okS m n qs bs = okS m n qs' bs' := by
  unfold outS okS argsE
  rw [clsOf_alike hq, clsOf_alike hb, (alike hq).2.1, (alike hb).2.1]
  exact ⟨rfl, rfl⟩
theorem outS_len {m n : Nat} {qs bs : List Nat} (h : okS m n qs bs = true) : (outS m n qs bs).length = n := by
  unfold okS at h
  simp only [Bool.and_eq_true] at h
  obtain ⟨h1, h2⟩ := h
  unfold outS
  rw [h1, if_pos rfl]
  unfold okE at h2
  unfold outE
  cases hs : solveE n (clsOf qs) (clsOf bs) with
  | none => rw [hs] at h2; cases h2
  | some C =>
    rw [hs] at h2
    have h3 : finAll (canon C) = true := h2
    show (if finAll (canon C) = true then canon C else []).length = n
    rw [if_pos h3]
    unfold solveE at hs
    cases hf : fillE n (clsOf qs) n with
    | none => rw [hf] at hs; cases hs
    | some r =>
      rw [hf] at hs
      simp only [Option.map_some, Option.some.injEq] at hs
      rw [← hs]
      simp [canon]
/-- Zero, then what was solved: a row of the call's own. -/
theorem row_one {E : TypeId} {B : Nat} (w : World) (hB : B ≤ w.heap.size) (v : Value) : (w.alloc (.cells #[v] E)).ownsRow B E 1 (.slice (some ⟨w.heap.size, 0, none⟩) 1 1) 1 [v] :=
  ⟨rfl, .inr ⟨w.heap.size, 1, #[v], rfl, hB, heap_alloc_new w _, Nat.le_refl _, by unfold maxLen; omega, rfl, rfl⟩⟩
theorem fls_cells {w : World} {g : Nat} {zs : List Nat} {rest : List Value} (h : Own 37 w g (fls zs ++ rest)) : ∀ j u, (fls zs)[j]? = some u → w.cell? ((⟨g, 0, none⟩ : Addr).add j) = some u := fun j u hj => by
  have ea : (⟨g, 0, none⟩ : Addr).add j = ⟨g, j, none⟩ := by unfold Addr.add; split <;> simp_all
  rw [ea]
  refine h.at ?_
  rw [List.getElem?_append_left, hj]
  rcases Nat.lt_or_ge j (fls zs).length with hlt | hge
  · exact hlt
  · rw [List.getElem?_eq_none hge] at hj; cases hj
end Go.Proofs.Ytikdagkopalojaa
