/-
  The point at two distances: the program's function and the specification's.
-/
import Derived.Test.YticoikchcmmpfaaLTurn
namespace Go.Proofs.Yticoikchcmmpfaa
open Go.RowKit
attribute [local go_sem] order_cl cl_zero cl_one cl_two aord_none

/-! ### '+' and '-' on complex numbers -/
theorem run_cs {P : Program} (w : World) (op : BinOp) (t : TypeId) (k : FloatKind) (a b c d : Nat) (hop : op = .add ∨ op = .sub) :
    ∃ r q n, (binOp op t (.complex k a b) (.complex k c d)).run P w = .ok (.complex k r q) (w.drewN n) ∧ cl k r = ab op k (cl k a) (cl k c) ∧ cl k q = ab op k (cl k b) (cl k d) := by
  obtain ⟨r, n1, h1, e1⟩ := run_fl (P := P) w op t k a c (by rcases hop with h | h <;> simp [h])
  obtain ⟨q, n2, h2, e2⟩ := run_fl (P := P) (w.drewN n1) op t k b d (by rcases hop with h | h <;> simp [h])
  refine ⟨r, q, n1 + n2, ?_, e1, e2⟩
  have g1 : (Op.floatArith op k a c).run P w = .ok (.float k r) (w.drewN n1) := by rcases hop with rfl | rfl <;> simpa [binOp] using h1
  have g2 : (Op.floatArith op k b d).run P (w.drewN n1) = .ok (.float k q) ((w.drewN n1).drewN n2) := by rcases hop with rfl | rfl <;> simpa [binOp] using h2
  rcases hop with rfl | rfl <;> simp [binOp, Op.complexOp, Op.Complex.arith, g1, g2]
theorem wpList_cs {P : Program} {w : World} {ops : Array Oper} {rest : List Oper} {o : Oper} {a : Act} {Q : Exit → Act → World → Prop} (hg : Region.wanted o (yielded ops a.tmps) = true) {op : BinOp} {t t' : TypeId} {x y : Operand} (hop : o.op = Op.binOp op t x y t') {k : FloatKind} {p q p' q' : Nat} (hx : a.eval x = .complex k p p') (hy : a.eval y = .complex k q q')
    (h5 : (op == .add || op == .sub) = true) {X Y X' Y' : Option Nat} (hX : cl k p = X) (hY : cl k q = Y) (hX' : cl k p' = X') (hY' : cl k q' = Y') (hK : ∀ r r' d, cl k r = ab op k X Y → cl k r' = ab op k X' Y' → wpList P ops Q rest (a.put o.dst (.complex k r r')) (w.drewN d)) : wpList P ops Q (o :: rest) a w := by
  refine wpList_step fun K hK' => ?_
  rw [if_pos hg]
  have h4 : op = .add ∨ op = .sub := by cases op <;> simp_all
  obtain ⟨r, r', d, hrun, hr, hr'⟩ := run_cs (P := P) w op t k p p' q q' h4
  unfold Oper.wp
  have e : (execOp a.eval o).run P w = .ok (.value (.complex k r r')) (w.drewN d) := by
    have eg : eqGuard op t x y (.complex k p p') (.complex k q q') = pure () := by rcases h4 with rfl | rfl <;> rfl
    simp only [execOp, hop, hx, hy, eg]
    simp [hrun, Result.andThen]
  rw [e]
  exact hK' _ _ (hK r r' d (by rw [hr, hX, hY]) (by rw [hr', hX', hY']))

/-! ### The other sign -/
theorem neg_bits (b : Nat) : (b ^^^ 2 ^ 31) % 2 ^ 31 = b % 2 ^ 31 ∧ (b ^^^ 2 ^ 31) / 2 ^ 31 % 2 = 1 - b / 2 ^ 31 % 2 := by
  constructor
  · rw [Nat.xor_mod_two_pow, Nat.mod_self, Nat.xor_zero]
  · rw [← Nat.shiftRight_eq_div_pow, ← Nat.shiftRight_eq_div_pow, Nat.shiftRight_xor_distrib, Nat.shiftRight_eq_div_pow (2 ^ 31), Nat.div_self (by decide)]
    generalize b >>> 31 = c
    have h := Nat.xor_mod_two_pow (a := c) (b := 1) (n := 1)
    rw [Nat.pow_one] at h
    rw [h]
    rcases Nat.mod_two_eq_zero_or_one c with e | e <;> rw [e] <;> rfl
theorem read_neg (b : Nat) : FloatKind.f32.format.read (Op.negFloat .f32 b) = (FloatKind.f32.format.read b).opposite := by
  obtain ⟨h1, h2⟩ := neg_bits b
  have hs : (FloatKind.format .f32).signWeight = 2 ^ 31 := rfl
  have hn : Op.negFloat .f32 b = b ^^^ 2 ^ 31 := rfl
  unfold Ieee.Format.read
  rw [hn, hs, h1]
  have h3 : ((b ^^^ 2 ^ 31) / 2 ^ 31 % 2 == 1) = !(b / 2 ^ 31 % 2 == 1) := by
    rw [h2]
    have : b / 2 ^ 31 % 2 < 2 := Nat.mod_lt _ (by decide)
    generalize b / 2 ^ 31 % 2 = c at *
    rcases (show c = 0 ∨ c = 1 by omega) with rfl | rfl <;> rfl
  dsimp only
  rw [h3]
  split
  · rfl
  · split
    · rfl
    · split
      · rfl
      · rfl
@[local go_sem] theorem run_neg_float (P : Program) (W : World) (b : Nat) : (Op.unary .neg (.float .f32 b)).run P W = .ok (.float .f32 (Op.negFloat .f32 b)) W := rfl
def negX (X : Option Nat) : Option Nat := X.map (Op.negFloat .f32)
theorem cl_neg {b : Nat} {X : Option Nat} (h : cl .f32 b = X) : cl .f32 (Op.negFloat .f32 b) = negX X := by
  subst h
  unfold cl
  rw [read_neg]
  cases FloatKind.f32.format.read b <;> rfl
theorem Vl.neg {X : Option Nat} {x : Rat} (h : Vl .f32 X x) : Vl .f32 (negX X) (-x) := by
  obtain ⟨n, s, m, p, rfl, e, rfl⟩ := h
  exact ⟨_, !s, m, p, rfl, by rw [read_neg, e]; rfl, opposite_dv s m p⟩

def highX (left : Bool) (Y : Option Nat) : Option Nat := if left then rootF Y else negX (rootF Y)
def lpX (A Z : Option Nat) : Option Nat := ab .add .f32 A (nar Z)
theorem cl_two32 : cl .f32 1073741824 = twoW := by decide

/-- What is asked of the classes, so that both functions go the same way. -/
structure LongsOk (A1 A2 B1 B2 R S : Option Nat) (left yes : Bool) : Prop where
  rn : isNum .f32 R = true
  sn : isNum .f32 S = true
  rp : aord .f32 R (some 0) = some .gt
  sp : aord .f32 S (some 0) = some .gt
  fit : Fits (sqrtF (powX (ab .sub .f32 B1 A1) (ab .sub .f32 B2 A2)))
  dp : aord .f32 (longX (ab .sub .f32 B1 A1) (ab .sub .f32 B2 A2)) (some 0) = some .gt
  ok : geB (yX R (xX (longX (ab .sub .f32 B1 A1) (ab .sub .f32 B2 A2)) R S)) (some 0) = yes
  f1 : yes = true → Fits (mulRe (ab .quo .f32 (ab .sub .f32 B1 A1) (longX (ab .sub .f32 B1 A1) (ab .sub .f32 B2 A2))) (ab .quo .f32 (ab .sub .f32 B2 A2) (longX (ab .sub .f32 B1 A1) (ab .sub .f32 B2 A2))) (xX (longX (ab .sub .f32 B1 A1) (ab .sub .f32 B2 A2)) R S) (highX left (yX R (xX (longX (ab .sub .f32 B1 A1) (ab .sub .f32 B2 A2)) R S))))
  f2 : yes = true → Fits (mulIm (ab .quo .f32 (ab .sub .f32 B1 A1) (longX (ab .sub .f32 B1 A1) (ab .sub .f32 B2 A2))) (ab .quo .f32 (ab .sub .f32 B2 A2) (longX (ab .sub .f32 B1 A1) (ab .sub .f32 B2 A2))) (xX (longX (ab .sub .f32 B1 A1) (ab .sub .f32 B2 A2)) R S) (highX left (yX R (xX (longX (ab .sub .f32 B1 A1) (ab .sub .f32 B2 A2)) R S))))
  p1 : yes = true → isNum .f32 (lpX A1 (mulRe (ab .quo .f32 (ab .sub .f32 B1 A1) (longX (ab .sub .f32 B1 A1) (ab .sub .f32 B2 A2))) (ab .quo .f32 (ab .sub .f32 B2 A2) (longX (ab .sub .f32 B1 A1) (ab .sub .f32 B2 A2))) (xX (longX (ab .sub .f32 B1 A1) (ab .sub .f32 B2 A2)) R S) (highX left (yX R (xX (longX (ab .sub .f32 B1 A1) (ab .sub .f32 B2 A2)) R S))))) = true
  p2 : yes = true → isNum .f32 (lpX A2 (mulIm (ab .quo .f32 (ab .sub .f32 B1 A1) (longX (ab .sub .f32 B1 A1) (ab .sub .f32 B2 A2))) (ab .quo .f32 (ab .sub .f32 B2 A2) (longX (ab .sub .f32 B1 A1) (ab .sub .f32 B2 A2))) (xX (longX (ab .sub .f32 B1 A1) (ab .sub .f32 B2 A2)) R S) (highX left (yX R (xX (longX (ab .sub .f32 B1 A1) (ab .sub .f32 B2 A2)) R S))))) = true
def lp1 (A1 A2 B1 B2 R S : Option Nat) (left : Bool) : Option Nat := lpX A1 (mulRe (ab .quo .f32 (ab .sub .f32 B1 A1) (longX (ab .sub .f32 B1 A1) (ab .sub .f32 B2 A2))) (ab .quo .f32 (ab .sub .f32 B2 A2) (longX (ab .sub .f32 B1 A1) (ab .sub .f32 B2 A2))) (xX (longX (ab .sub .f32 B1 A1) (ab .sub .f32 B2 A2)) R S) (highX left (yX R (xX (longX (ab .sub .f32 B1 A1) (ab .sub .f32 B2 A2)) R S))))
def lp2 (A1 A2 B1 B2 R S : Option Nat) (left : Bool) : Option Nat := lpX A2 (mulIm (ab .quo .f32 (ab .sub .f32 B1 A1) (longX (ab .sub .f32 B1 A1) (ab .sub .f32 B2 A2))) (ab .quo .f32 (ab .sub .f32 B2 A2) (longX (ab .sub .f32 B1 A1) (ab .sub .f32 B2 A2))) (xX (longX (ab .sub .f32 B1 A1) (ab .sub .f32 B2 A2)) R S) (highX left (yX R (xX (longX (ab .sub .f32 B1 A1) (ab .sub .f32 B2 A2)) R S))))

/-- A complex number and an answer; nothing is told of the number where the answer is no. -/
def RetLO (X Y : Option Nat) (b : Bool) (w : World) (e : Ending) (w' : World) : Prop := ∃ r q, e = .returned (.tuple #[.complex .f32 r q, .bool b]) ∧ (b = true → cl .f32 r = X ∧ cl .f32 q = Y) ∧ Below w.heap.size w w'

set_option maxRecDepth 8000 in
set_option maxHeartbeats 2000000 in
theorem specLongs (a b : Nat × Nat) (r s : Nat) (left yes : Bool) (ha : NumC a) (hb : NumC b) {A1 A2 B1 B2 R S : Option Nat} (ea1 : cl .f32 a.1 = A1) (ea2 : cl .f32 a.2 = A2) (eb1 : cl .f32 b.1 = B1) (eb2 : cl .f32 b.2 = B2) (er : cl .f32 r = R) (es : cl .f32 s = S) (ok : LongsOk A1 A2 B1 B2 R S left yes) (w : World) :
    Calls Try.prog 12 #[.complex .f32 a.1 a.2, .float .f32 r, .complex .f32 b.1 b.2, .float .f32 s, .bool left] w (RetLO (lp1 A1 A2 B1 B2 R S left) (lp2 A1 A2 B1 B2 R S left) yes w) := by
  have cA := fun W => l01CFinite a.1 a.2 W
  have cB := fun W => l01CFinite b.1 b.2 W
  rw [ha.1, ha.2] at cA
  rw [hb.1, hb.2] at cB
  obtain ⟨rn, sn, rp, sp, fit, dp, hok, f1, f2, p1, p2⟩ := ok
  have cR := fun W => l02AboveT (x := r) (by rw [er]; exact rn) (by rw [er]; exact rp) W
  have cS := fun W => l02AboveT (x := s) (by rw [es]; exact sn) (by rw [es]; exact sp) W
  have dp' : (aord .f32 (longX (ab .sub .f32 B1 A1) (ab .sub .f32 B2 A2)) (some 0) == some .gt) = true := by rw [dp]; rfl
  unfold geB at hok
  unfold lp1 lp2
  clear ha hb rn sn rp sp dp
  obtain ⟨a1, a2⟩ := a
  obtain ⟨b1, b2⟩ := b
  dsimp only at *
  go_enter Try.func12, Try.ntmps12
  go_wp2_with (first | (go_at_call 36; (first | (with_reducible refine (cA _).mono ?_) | (with_reducible refine (cB _).mono ?_)); rintro e w' ⟨rfl, d8, rfl⟩) | (go_at_call 37; (first | (with_reducible refine (cR _).mono ?_) | (with_reducible refine (cS _).mono ?_)); rintro e w' ⟨rfl, d9, rfl⟩) | (refine wpList_cs rfl rfl rfl rfl rfl eb1 ea1 eb2 ea2 ?_; intro w1 w2 d hw1 hw2))
  generalize ab .sub .f32 B1 A1 = W1 at *
  generalize ab .sub .f32 B2 A2 = W2 at *
  refine (l01Long _ _ (by rw [hw1, hw2]; exact fit) _).mono ?_
  rintro e w' ⟨l, rfl, hl, d10, rfl⟩
  rw [hw1, hw2] at hl
  generalize longX W1 W2 = D at *
  clear fit cA cB cR cS
  have k2 := cl_two32
  have rX : ab .quo .f32 (ab .sub .f32 (ab .add .f32 (ab .mul .f32 D D) (ab .mul .f32 R R)) (ab .mul .f32 S S)) (ab .mul .f32 twoW D) = xX D R S := rfl
  generalize hXX : xX D R S = XX at *
  have rY : ab .sub .f32 (ab .mul .f32 R R) (ab .mul .f32 XX XX) = yX R XX := rfl
  generalize hYY : yX R XX = YY at *
  cases yes with
  | false =>
    simp only [Bool.or_eq_false_iff] at hok
    obtain ⟨hok1, hok2⟩ := hok
    clear f1 f2 p1 p2
    go_wp2_with (refine wpList_flc rfl rfl rfl rfl rfl (by assumption) (by assumption) ?_; intro x d hx; (try rw [rX] at hx); (try rw [rY] at hx))
    exact bodyPost_ret (by simp [results, Try.results12, go_sem]) rfl ⟨0, 0, rfl, (fun h => by cases h), below_drewN (Below.refl _ _) _⟩
  | true =>
    replace f1 := f1 rfl
    replace f2 := f2 rfl
    replace p1 := p1 rfl
    replace p2 := p2 rfl
    go_wp2_with (refine wpList_flc rfl rfl rfl rfl rfl (by assumption) (by assumption) ?_; intro x d hx; (try rw [rX] at hx); (try rw [rY] at hx))
    refine (l01Sqrt _ _).mono ?_
    rintro e w' ⟨h, rfl, hh, d11, rfl⟩
    rw [hx] at hh
    have hneg := cl_neg hh
    have g1 : ∀ H X Y, highX left YY = H → cl .f32 X = ab .quo .f32 W1 D → cl .f32 Y = ab .quo .f32 W2 D → ∀ x' h', cl .f32 x' = XX → cl .f32 h' = H → ∀ W, Calls Try.prog 40 #[.complex .f32 X Y, .complex .f32 x' h'] W (RetCD (nar (mulRe (ab .quo .f32 W1 D) (ab .quo .f32 W2 D) XX (highX left YY))) (nar (mulIm (ab .quo .f32 W1 D) (ab .quo .f32 W2 D) XX (highX left YY))) W) := by
      intro H X Y hH hX hY x' h' hx' hh' W
      have := l01Mul X Y x' h' (by rw [hX, hY, hx', hh', ← hH]; exact f1) (by rw [hX, hY, hx', hh', ← hH]; exact f2) W
      rw [hX, hY, hx', hh', ← hH] at this
      exact this
    have g2 : ∀ X Y, cl .f32 X = lpX A1 (mulRe (ab .quo .f32 W1 D) (ab .quo .f32 W2 D) XX (highX left YY)) → cl .f32 Y = lpX A2 (mulIm (ab .quo .f32 W1 D) (ab .quo .f32 W2 D) XX (highX left YY)) → ∀ W, Calls Try.prog 39 #[.complex .f32 X Y] W (RetCO (lpX A1 (mulRe (ab .quo .f32 W1 D) (ab .quo .f32 W2 D) XX (highX left YY))) (lpX A2 (mulIm (ab .quo .f32 W1 D) (ab .quo .f32 W2 D) XX (highX left YY))) true W) := by
      intro X Y hX hY W
      have := l05NumberT (x := X) (y := Y) (by rw [hX]; exact p1) (by rw [hY]; exact p2) W
      rw [hX, hY] at this
      exact this
    clear f1 f2 p1 p2 rX rY hXX hYY dp' hok k2
    cases left
    all_goals
      go_wp2_with (refine wpList_flc rfl rfl rfl rfl rfl (by assumption) (by assumption) ?_; intro y d hy)
      refine (g1 _ _ _ rfl (by assumption) (by assumption) _ _ (by assumption) (by assumption) _).mono ?_
      rintro e w' ⟨m1, m2, rfl, hm1, hm2, d12, rfl⟩
      go_wp2_with (refine wpList_cs rfl rfl rfl rfl rfl ea1 hm1 ea2 hm2 ?_; intro p1 p2 d hp1 hp2)
      refine (g2 _ _ hp1 hp2 _).mono ?_
      rintro e w' ⟨q1, q2, rfl, hq1, hq2, d13, rfl⟩
      go_wp2
      exact bodyPost_ret (by simp [results, Try.results12, go_sem]) rfl ⟨q1, q2, rfl, fun _ => ⟨hq1, hq2⟩, below_drewN (Below.refl _ _) _⟩
end Go.Proofs.Yticoikchcmmpfaa
