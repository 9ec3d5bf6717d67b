/-
  An even square: what is solved, told of classes.
-/
import Derived.Test.YtikdagkopalojaaRootC
import Derived.Test.YtikdagkopalojaaOwnF
import Derived.Test.YtikdagkopalojaaQS
namespace Go.Proofs.Ytikdagkopalojaa
open Go.RowKit

/-! ### Words for classes -/
def nanW : Nat := 2143289344
theorem cl_nanW : cl .f32 nanW = none := cl_of_rung (by decide)
def canon (C : List (Option Nat)) : List Nat := C.map fun o => o.getD nanW
theorem canon_map {zs : List Nat} {C : List (Option Nat)} (h : zs.map (cl .f32) = C) : (canon C).map (cl .f32) = C := by
  subst h
  unfold canon
  rw [List.map_map, List.map_map]
  refine List.map_congr_left fun z _ => ?_
  simp only [Function.comp]
  cases hz : cl .f32 z with
  | none => exact cl_nanW
  | some u => rw [Option.getD_some]; have := cl_some hz; subst this; exact hz
/-- Numbers of the same classes: they are finite alike, and alike if they are finite. -/
theorem alike {zs ys : List Nat} (h : zs.map (cl .f32) = ys.map (cl .f32)) : zs.length = ys.length ∧ finAll zs = finAll ys ∧ (finAll zs = true → zs = ys) := by
  induction zs generalizing ys with
  | nil =>
    cases ys with
    | nil => exact ⟨rfl, rfl, fun _ => rfl⟩
    | cons => simp at h
  | cons z zs ih =>
    cases ys with
    | nil => simp at h
    | cons y ys =>
      simp only [List.map_cons, List.cons.injEq] at h
      obtain ⟨h1, h2⟩ := h
      obtain ⟨i1, i2, i3⟩ := ih h2
      refine ⟨by simp [i1], ?_, fun hf => ?_⟩
      · unfold finAll at *
        simp only [List.all_cons, h1, i2]
      · have hf' : isNum .f32 (cl .f32 z) = true ∧ finAll zs = true := by unfold finAll at hf ⊢; simpa using hf
        have hz : cl .f32 z ≠ none := fun e => by rw [e] at hf'; simp [isNum] at hf'
        obtain ⟨u, hu⟩ := Option.ne_none_iff_exists'.1 hz
        have e1 := cl_some hu
        rw [h1] at hu
        have e2 := cl_some hu
        rw [i3 hf'.2, ← e1, ← e2]

/-! ### What is solved -/
abbrev Cl := Option Nat
/-- s less the products of f and g. -/
def accE (s : Cl) (f g : Nat → Cl) : Nat → Cl
  | 0 => s
  | j + 1 => ab .sub .f32 (accE s f g j) (ab .mul .f32 (f j) (g j))
def updE (r : Nat → Cl) (t : Nat) (v : Cl) : Nat → Cl := fun u => if u = t then v else r u
/-- What stands at row i, place k, before it is divided. -/
def cellE (n : Nat) (sq r : Nat → Cl) (i k : Nat) : Nat → Cl := accE (sq (i * n + k)) (fun j => r (i * n + j)) (fun j => r (k * n + j))
def stepE (n : Nat) (sq : Nat → Cl) (i k : Nat) (r : Nat → Cl) : Option (Nat → Cl) :=
  if k < i then some (updE r (i * n + k) (ab .quo .f32 (cellE n sq r i k k) (r (k * n + k))))
  else if gtB (cellE n sq r i k k) (some 0) then some (updE r (i * n + k) (rootF (cellE n sq r i k k))) else none
def rowE (n : Nat) (sq : Nat → Cl) (i : Nat) : Nat → (Nat → Cl) → Option (Nat → Cl)
  | 0, r => some r
  | k + 1, r => (rowE n sq i k r).bind (stepE n sq i k)
def fillE (n : Nat) (sq : Nat → Cl) : Nat → Option (Nat → Cl)
  | 0 => some fun _ => some 0
  | i + 1 => (fillE n sq i).bind (rowE n sq i (i + 1))
def fwdE (n : Nat) (r b : Nat → Cl) : Nat → Nat → Cl
  | 0 => fun _ => some 0
  | i + 1 => updE (fwdE n r b i) i (ab .quo .f32 (accE (b i) (fun j => r (i * n + j)) (fwdE n r b i) i) (r (i * n + i)))
def backE (n : Nat) (r x : Nat → Cl) (i : Nat) : Nat → Cl := accE (x i) (fun t => r ((i + 1 + t) * n + i)) (fun t => x (i + 1 + t))
def bwdE (n : Nat) (r : Nat → Cl) (x : Nat → Cl) : Nat → Nat → Cl
  | 0 => x
  | m + 1 => updE (bwdE n r x m) (n - 1 - m) (ab .quo .f32 (backE n r (bwdE n r x m) (n - 1 - m) (n - 1 - (n - 1 - m))) (r ((n - 1 - m) * n + (n - 1 - m))))
def solveE (n : Nat) (sq b : Nat → Cl) : Option (List Cl) := (fillE n sq n).map fun r => (List.range n).map (bwdE n r (fwdE n r b n) n)

theorem rowE_none {n : Nat} {sq : Nat → Cl} {i k : Nat} {r : Nat → Cl} (h : rowE n sq i k r = none) : ∀ d, rowE n sq i (k + d) r = none
  | 0 => h
  | d + 1 => by show (rowE n sq i (k + d) r).bind _ = none; rw [rowE_none h d]; rfl
theorem fillE_none {n : Nat} {sq : Nat → Cl} {i : Nat} (h : fillE n sq i = none) : ∀ d, fillE n sq (i + d) = none
  | 0 => h
  | d + 1 => by show (fillE n sq (i + d)).bind _ = none; rw [fillE_none h d]; rfl
/-- A step that fails: nothing is solved. -/
theorem solve_none {n : Nat} {sq b : Nat → Cl} {i k : Nat} {r0 r : Nat → Cl} (hf : fillE n sq i = some r0) (hr : rowE n sq i k r0 = some r) (hs : stepE n sq i k r = none) (hk : k ≤ i) (hi : i < n) : solveE n sq b = none := by
  have h1 : rowE n sq i (k + 1) r0 = none := by show (rowE n sq i k r0).bind _ = none; rw [hr]; exact hs
  have h2 := rowE_none h1 (i - k)
  rw [show k + 1 + (i - k) = i + 1 by omega] at h2
  have h3 : fillE n sq (i + 1) = none := by show (fillE n sq i).bind _ = none; rw [hf]; exact h2
  have h4 := fillE_none h3 (n - (i + 1))
  rw [show i + 1 + (n - (i + 1)) = n by omega] at h4
  unfold solveE
  rw [h4]
  rfl
theorem row_next {n : Nat} {sq : Nat → Cl} {i k : Nat} {r0 r r' : Nat → Cl} (hr : rowE n sq i k r0 = some r) (hs : stepE n sq i k r = some r') : rowE n sq i (k + 1) r0 = some r' := by
  show (rowE n sq i k r0).bind _ = _
  rw [hr]
  exact hs
theorem fill_next {n : Nat} {sq : Nat → Cl} {i : Nat} {r0 r : Nat → Cl} (hf : fillE n sq i = some r0) (hr : rowE n sq i (i + 1) r0 = some r) : fillE n sq (i + 1) = some r := by
  show (fillE n sq i).bind _ = _
  rw [hf]
  exact hr

def okE (n : Nat) (sq b : Nat → Cl) : Bool := match solveE n sq b with | none => false | some C => finAll (canon C)
def outE (n : Nat) (sq b : Nat → Cl) : List Nat := match solveE n sq b with | none => [] | some C => if finAll (canon C) then canon C else []

/-- A new list (nil, if the answer is no) with an answer. -/
def NewFB (out : List Nat) (ok : Bool) (w : World) (e : Ending) (w' : World) : Prop :=
  ∃ a cap, e = .returned (.tuple #[.slice a out.length cap, .bool ok]) ∧ MineV 37 w.heap.size w' a out.length (fls out) ∧ Below w.heap.size w w'
theorem NewFB.none {n : Nat} {sq b : Nat → Cl} {w w' : World} (h : solveE n sq b = .none) (hb : Below w.heap.size w w') : NewFB (outE n sq b) (okE n sq b) w (.returned (.tuple #[.slice .none 0 0, .bool false])) w' := by
  unfold outE okE
  rw [h]
  exact ⟨.none, 0, rfl, MineV.nil _ _ _, hb⟩
/-- What stands in a block: m numbers of the classes R, and more. -/
def Mat (wr : World) (g m : Nat) (R : Nat → Cl) : Prop := ∃ (us : List Nat) (rest : List Value), us.length = m ∧ (∀ t, t < m → cl .f32 (us.getD t 0) = R t) ∧ Own 37 wr g (fls us ++ rest)
section
variable {wr w1 : World} {g m : Nat} {R : Nat → Cl}
theorem Mat.get (h : Mat wr g m R) {t : Nat} (ht : t < m) : ∃ z, wr.cell? ⟨g, t, none⟩ = some (.float .f32 z) ∧ Hid (cl .f32 z = R t) := by
  obtain ⟨us, rest, hl, hc, ho⟩ := h
  exact ⟨_, ho.at (by rw [List.getElem?_append_left (by rw [fls_len]; omega)]; exact fls_get (by omega)), hc t ht⟩
theorem Mat.free (h : Mat wr g m R) (t : Nat) : wr.frozen? ⟨g, t, none⟩ = false := by
  obtain ⟨us, rest, hl, hc, ho⟩ := h
  exact ho.free t
theorem Mat.lt (h : Mat wr g m R) : g < wr.heap.size := by
  obtain ⟨us, rest, hl, hc, ho⟩ := h
  exact ho.lt
theorem Mat.below (h : Mat wr g m R) (hb : Below wr.heap.size wr w1) : Mat w1 g m R := by
  obtain ⟨us, rest, hl, hc, ho⟩ := h
  exact ⟨us, rest, hl, hc, ho.below hb⟩
theorem Mat.drew (h : Mat wr g m R) (d : Nat) : Mat (wr.drewN d) g m R := h
theorem Mat.other (h : Mat wr g m R) {a : Addr} (ha : g ≠ a.block) (v : Value) : Mat (wr.setCell a v) g m R := by
  obtain ⟨us, rest, hl, hc, ho⟩ := h
  exact ⟨us, rest, hl, hc, ho.other ha v⟩
theorem Mat.set (h : Mat wr g m R) {t v : Nat} (ht : t < m) {V : Cl} (hv : cl .f32 v = V) : Mat (wr.setCell ⟨g, t, none⟩ (.float .f32 v)) g m (updE R t V) := by
  obtain ⟨us, rest, hl, hc, ho⟩ := h
  refine ⟨us.set t v, rest, by simp [hl], fun u hu => ?_, ?_⟩
  · unfold updE
    rw [List.getD_eq_getElem?_getD, List.getElem?_set]
    by_cases e : t = u
    · subst e; simp [hl, ht, hv]
    · rw [if_neg e, if_neg (fun e' => e e'.symm), ← List.getD_eq_getElem?_getD]
      exact hc u hu
  · have := ho.set t (.float .f32 v)
    rw [List.set_append_left _ _ (by rw [fls_len]; omega)] at this
    have e : (fls us).set t (.float .f32 v) = fls (us.set t v) := by simp [fls, List.map_set]
    rw [e] at this
    exact this
end

theorem Mat.grown {wr w1 : World} {g m : Nat} {R : Nat → Cl} {row : Option Nat} (h : Mat wr g m R) (hb : wr.grownBy w1 row) (hne : some g ≠ row) : Mat w1 g m R := by
  obtain ⟨us, rest, hl, hc, ho⟩ := h
  exact ⟨us, rest, hl, hc, ho.grown hb hne⟩
theorem row_emptyF (w : World) (B : Nat) (E : TypeId) (hB : B ≤ w.heap.size) : (w.alloc (.cells #[] E)).ownsRow B E 1 (.slice (some ⟨w.heap.size, 0, none⟩) 0 0) 0 [] :=
  ⟨rfl, .inr ⟨w.heap.size, 0, #[], rfl, hB, heap_alloc_new w _, Nat.le_refl _, by unfold maxLen; omega, rfl, rfl⟩⟩
theorem row_ownF {w : World} {B n : Nat} {v : Value} {vs : List Value} {E : TypeId} (h : w.ownsRow B E 1 v n vs) (h0 : 0 < n) :
    ∃ g cap rest, v = .slice (some ⟨g, 0, none⟩) n cap ∧ B ≤ g ∧ Own E w g (vs ++ rest) := by
  obtain ⟨h1, h2 | ⟨g, cap, cur, rfl, hB, hg, _, _, hs, ht⟩⟩ := h
  · omega
  · refine ⟨g, cap, cur.toList.drop (n * 1), rfl, hB, ?_⟩
    unfold Own
    rw [← ht, List.take_append_drop, hg]

theorem fwd_next {n i r1 : Nat} {R b : Nat → Cl} {us : List Nat} (hu : us.length = i) (hc : ∀ t, t < i → cl .f32 (us.getD t 0) = fwdE n R b i t) (hr : cl .f32 r1 = ab .quo .f32 (accE (b i) (fun j => R (i * n + j)) (fwdE n R b i) i) (R (i * n + i))) :
    ∀ t, t < i + 1 → cl .f32 ((us ++ [r1]).getD t 0) = fwdE n R b (i + 1) t := fun t ht => by
  show _ = updE (fwdE n R b i) i _ t
  unfold updE
  by_cases e : t = i
  · subst e
    rw [if_pos rfl, ← hr, List.getD_eq_getElem?_getD, List.getElem?_append_right (by omega), hu]
    simp
  · rw [if_neg e, List.getD_eq_getElem?_getD, List.getElem?_append_left (by omega), ← List.getD_eq_getElem?_getD]
    exact hc t (by omega)
theorem back_next {n i j : Nat} {R x : Nat → Cl} (hj : i + 1 ≤ j) : backE n R x i (j + 1 - (i + 1)) = ab .sub .f32 (backE n R x i (j - (i + 1))) (ab .mul .f32 (R (j * n + i)) (x j)) := by
  rw [show j + 1 - (i + 1) = (j - (i + 1)) + 1 by omega]
  show ab .sub .f32 _ (ab .mul .f32 (R ((i + 1 + (j - (i + 1))) * n + i)) (x (i + 1 + (j - (i + 1))))) = _
  rw [show i + 1 + (j - (i + 1)) = j by omega]
  rfl
theorem solved {n : Nat} {sq b R : Nat → Cl} {us : List Nat} (hf : fillE n sq n = some R) (hl : us.length = n) (hc : ∀ t, t < n → cl .f32 (us.getD t 0) = bwdE n R (fwdE n R b n) n t) : solveE n sq b = some (us.map (cl .f32)) := by
  unfold solveE
  rw [hf]
  show some _ = some _
  congr 1
  apply List.ext_getElem
  · simp [hl]
  · intro t h1 h2
    simp only [List.length_map, List.length_range] at h1
    have := hc t h1
    rw [getD_at (by omega)] at this
    simp [this]
/-- What was solved is handed back if it is finite. -/
theorem NewFB.some {n : Nat} {sq b : Nat → Cl} {us : List Nat} {w w' : World} {g cap : Nat} {rest : List Value} (h : solveE n sq b = .some (us.map (cl .f32))) (hl : us.length = n) (hn : n ≤ 1048576) (hg : w.heap.size ≤ g) (ho : Own 37 w' g (fls us ++ rest)) (hb : Below w.heap.size w w') :
    (finAll us = true → NewFB (outE n sq b) (okE n sq b) w (.returned (.tuple #[.slice (.some ⟨g, 0, .none⟩) n cap, .bool true])) w') ∧ (finAll us = false → NewFB (outE n sq b) (okE n sq b) w (.returned (.tuple #[.slice .none 0 0, .bool false])) w') := by
  have e := canon_map (zs := us) rfl
  obtain ⟨_, h2, h3⟩ := alike e.symm
  refine ⟨fun hf => ?_, fun hf => ?_⟩
  · have h4 : us = canon (us.map (cl .f32)) := h3 hf
    have e1 : okE n sq b = true := by unfold okE; rw [h]; show finAll _ = true; rw [← h2, hf]
    have e2 : outE n sq b = us := by unfold outE; rw [h]; show (if finAll _ = true then _ else _) = _; rw [← h2, hf, if_pos rfl]; exact h4.symm
    rw [e1, e2]
    exact ⟨.some ⟨g, 0, .none⟩, cap, by rw [hl], ⟨by rw [fls_len], by omega, .inr ⟨g, rest, rfl, hg, ho⟩⟩, hb⟩
  · have e1 : okE n sq b = false := by unfold okE; rw [h]; show finAll _ = false; rw [← h2, hf]
    have e2 : outE n sq b = [] := by unfold outE; rw [h]; show (if finAll _ = true then _ else _) = _; rw [← h2, hf]; rfl
    rw [e1, e2]
    exact ⟨.none, 0, rfl, MineV.nil _ _ _, hb⟩
/-- Where row i begins; and its place k. -/
theorem rowAt {i n m : Nat} (hm : m = n * n) (hi : i < n) (hn : n ≤ 10) : ∃ a : Nat, Hid (a = i * n) ∧ a + n ≤ m ∧ IntKind.i64.wrap ((i : Int) * (n : Int)) = (a : Int) := by
  have h1 : i * n + n ≤ n * n := by
    have := Nat.mul_le_mul_right n (show i + 1 ≤ n by omega)
    rw [Nat.add_mul, Nat.one_mul] at this
    exact this
  have h2 : n * n ≤ 100 := Nat.mul_le_mul hn hn
  have e : ((i : Int) * (n : Int)) = ((i * n : Nat) : Int) := by simp
  refine ⟨i * n, rfl, by omega, ?_⟩
  rw [e]
  exact IntWalk.i64_in _ (by omega)
theorem placeAt {a k n m : Nat} (ha : a + n ≤ m) (hk : k < n) (hm : m ≤ 100) : ∃ t : Nat, Hid (t = a + k) ∧ t < m ∧ IntKind.i64.wrap ((a : Int) + (k : Int)) = (t : Int) :=
  ⟨a + k, rfl, by omega, by rw [show ((a : Int) + (k : Int)) = ((a + k : Nat) : Int) by simp]; exact IntWalk.i64_in _ (by omega)⟩
end Go.Proofs.Ytikdagkopalojaa
