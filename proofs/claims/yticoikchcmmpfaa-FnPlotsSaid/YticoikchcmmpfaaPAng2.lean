/-
  AngleTurns of finite numbers is finite: the walk.
-/
import Derived.Test.YticoikchcmmpfaaPSpr
import Derived.Test.YticoikchcmmpfaaLMany3
namespace Go.Proofs.Yticoikchcmmpfaa
open Go.RowKit
attribute [local go_sem] order_cl cl_zero cl_one cl_two aord_none

theorem q64 {X Y : Option Nat} {x y q : Rat} (hx : Vl .f64 X x) (hy : Vl .f64 Y y) (K : Nat) (hK : K ≤ 99) {B : Rat} (hB : (2 : Rat) ^ K = B) (hq : q * y = x) (hy0 : y ≠ 0) (h : Ab q B) : ∃ r, Vl .f64 (ab .quo .f64 X Y) r ∧ Ab (r - q) (B * vv * 3) := by
  subst hB
  obtain ⟨r, hr, n1, n2⟩ := hx.quo hy K hK q hq hy0 h.1 h.2
  refine ⟨r, hr, ?_⟩
  show _ ∧ _
  rw [show uk .f64 = vv from rfl] at n1 n2
  constructor <;> grind
theorem one64_vl : Vl .f64 one64 1 := by
  have := vl64 q_num.2.2.2.2.2
  rw [q_val.2.2.2.2.2.2.2] at this
  exact this
/-- Of two numbers that are not both 0 the lesser by the greater. -/
theorem first_ang {A B : Option Nat} {a b : Rat} (ha : Vl .f64 A a) (hb : Vl .f64 B b) (a0 : 0 ≤ a) (ab' : a ≤ b) (b0 : 0 < b) : ∃ t, Vl .f64 (ab .quo .f64 A B) t ∧ Ab t 2 := by
  have hv : vv ≤ 1 / 1000000000 ∧ 0 < vv := by decide +kernel
  have hq : a / b * b = a := Rat.div_mul_cancel (by grind)
  have hq1 : Ab (a / b) 1 := by
    generalize a / b = q at *
    constructor
    · refine le_of_mul b0 (by grind)
    · refine le_of_mul b0 (by grind)
  obtain ⟨t, ht, et⟩ := q64 ha hb 0 (by omega) (B := 1) (by decide +kernel) hq (by grind) hq1
  exact ⟨t, ht, ((et.add hq1).mono (by decide +kernel)).eq (by grind)⟩
def halfT (T : Option Nat) : Option Nat := ab .quo .f64 T (ab .add .f64 one64 (sqrtF (ab .add .f64 one64 (ab .mul .f64 T T))))
theorem half_ang {T : Option Nat} {t : Rat} (ht : Vl .f64 T t) (bt : Ab t 2) : ∃ u, Vl .f64 (halfT T) u ∧ Ab u 2 := by
  have hv : vv ≤ 1 / 1000000000 ∧ 0 < vv := by decide +kernel
  obtain ⟨m, hm, em⟩ := mul64 ht ht 2 (by omega) (B := 4) (by decide +kernel) ((bt.mul bt).mono (by decide +kernel))
  have t0 := sq_nn t
  have bm := (bt.mul bt).2
  obtain ⟨s, hs, es⟩ := add64 one64_vl hm 3 (by omega) (B := 8) (by decide +kernel) (by unfold Ab at em ⊢; constructor <;> grind)
  have s1 : 9 / 10 ≤ s := by unfold Ab at em es; grind
  have s2 : s ≤ 6 := by unfold Ab at em es; grind
  obtain ⟨r, hr, r0, nr⟩ := hs.sqrt (by grind) 2 (by omega) (by rw [show (2 : Rat) ^ 2 * 2 ^ 2 = 16 by decide +kernel]; grind)
  have he : (2 : Rat) ^ 2 * 2 ^ 2 * uk .f64 * 12 ≤ 1 / 1000 := by decide +kernel
  unfold Nr at nr
  generalize (2 : Rat) ^ 2 * 2 ^ 2 * uk .f64 * 12 = ee at *
  have r1 : r ≤ 3 := le_of_sq (by decide +kernel) (by grind)
  obtain ⟨d, hd, ed⟩ := add64 one64_vl hr 2 (by omega) (B := 4) (by decide +kernel) (by unfold Ab; constructor <;> grind)
  have d1 : 99 / 100 ≤ d := by unfold Ab at ed; grind
  have hq : t / d * d = t := Rat.div_mul_cancel (by grind)
  have hq1 : Ab (t / d) (2 / (99 / 100)) := Ab.div (by rw [hq]; exact bt) (.inl d1) (by decide +kernel)
  have hq2 : Ab (t / d) 4 := hq1.mono (by decide +kernel)
  -- the divisor is near 2
  have r9 : 9 / 10 ≤ r := le_of_sq r0 (by grind)
  have d2 : 15 / 10 ≤ d := by unfold Ab at ed; grind
  have hq3 : Ab (t / d) (2 / (15 / 10)) := Ab.div (by rw [hq]; exact bt) (.inl d2) (by decide +kernel)
  obtain ⟨u, hu, eu⟩ := q64 ht hd 2 (by omega) (B := 4) (by decide +kernel) hq (by grind) hq2
  exact ⟨u, hu, ((eu.add hq3).mono (by decide +kernel)).eq (by grind)⟩
/-- A round of the sum. -/
def polyT (U P : Option Nat) (k : Int) : Option Nat := ab .sub .f64 (ab .quo .f64 one64 (some (floatOfInt .f64 k))) (ab .mul .f64 U P)
def oddOk (j : Nat) : Bool := isNum .f64 (ab .quo .f64 one64 (some (floatOfInt .f64 (15 - 2 * (j : Int))))) && decide (Ab (w64 ((ab .quo .f64 one64 (some (floatOfInt .f64 (15 - 2 * (j : Int))))).getD 0)) 1)
theorem odd_all : ((List.range 8).all oddOk) = true := by decide +kernel
theorem odd_get {j : Nat} (h : j < 8) : ∃ v, Vl .f64 (ab .quo .f64 one64 (some (floatOfInt .f64 (15 - 2 * (j : Int))))) v ∧ Ab v 1 := by
  have h1 := List.all_eq_true.1 odd_all j (List.mem_range.2 h)
  unfold oddOk at h1
  simp only [Bool.and_eq_true, decide_eq_true_eq] at h1
  refine ⟨_, ?_, h1.2⟩
  have e := some_of h1.1
  rw [e] at h1 ⊢
  exact vl64 h1.1
theorem pow7 (j : Nat) : (1 : Rat) ≤ 7 ^ j := by
  induction j with
  | zero => simp
  | succ j ih => rw [Rat.pow_succ]; grind
theorem pow7_le {j : Nat} (h : j < 8) : (7 : Rat) ^ j ≤ 823543 := by
  have : j = 0 ∨ j = 1 ∨ j = 2 ∨ j = 3 ∨ j = 4 ∨ j = 5 ∨ j = 6 ∨ j = 7 := by omega
  rcases this with rfl | rfl | rfl | rfl | rfl | rfl | rfl | rfl <;> decide +kernel
theorem poly_ang {U P : Option Nat} {u p : Rat} {j : Nat} (hj : j < 8) (hu : Vl .f64 U u) (hp : Vl .f64 P p) (bu : Ab u 5) (bp : Ab p (7 ^ j)) : ∃ q, Vl .f64 (polyT U P (15 - 2 * (j : Int))) q ∧ Ab q (7 ^ (j + 1)) := by
  have hv : vv ≤ 1 / 1000000000 ∧ 0 < vv := by decide +kernel
  obtain ⟨o, ho, bo⟩ := odd_get hj
  have h1 := pow7 j
  have h2 := pow7_le hj
  rw [Rat.pow_succ]
  generalize (7 : Rat) ^ j = M at *
  obtain ⟨m, hm, em⟩ := mul64 hu hp 23 (by omega) (B := 8388608) (by decide +kernel) ((bu.mul bp).mono (by grind))
  have bm : Ab m (5 * M + 1 / 100) := ((em.add (bu.mul bp)).mono (by grind)).eq (by grind)
  obtain ⟨q, hq, eq⟩ := sub64 ho hm 23 (by omega) (B := 8388608) (by decide +kernel) ((bo.sub bm).mono (by grind))
  exact ⟨q, hq, ((eq.add (bo.sub bm)).mono (by grind)).eq (by grind)⟩
def eight64 : Option Nat := some 4620693217682128896
theorem eight_ok : isNum .f64 eight64 = true ∧ isNum .f64 full64 = true ∧ isNum .f64 quarter64 = true ∧ isNum .f64 half64 = true ∧ w64 4620693217682128896 = 8 ∧ 6 ≤ w64 4618760256179416344 ∧ Ab (w64 4598175219545276416) 1 ∧ Ab (w64 4602678819172646912) 1 := by decide +kernel
def lastT (T P : Option Nat) : Option Nat := ab .quo .f64 (ab .mul .f64 eight64 (ab .mul .f64 T P)) full64
theorem last_ang {T P : Option Nat} {t p : Rat} (ht : Vl .f64 T t) (hp : Vl .f64 P p) (bt : Ab t 2) (bp : Ab p (7 ^ 8)) : ∃ a, Vl .f64 (lastT T P) a ∧ Ab a 1000000000 := by
  have hv : vv ≤ 1 / 1000000000 ∧ 0 < vv := by decide +kernel
  obtain ⟨o1, o2, _, _, o5, o6, _⟩ := eight_ok
  have e7 : (7 : Rat) ^ 8 = 5764801 := by decide +kernel
  rw [e7] at bp
  obtain ⟨m, hm, em⟩ := mul64 ht hp 24 (by omega) (B := 16777216) (by decide +kernel) ((bt.mul bp).mono (by decide +kernel))
  have bm : Ab m 11529603 := ((em.add (bt.mul bp)).mono (by grind)).eq (by grind)
  have b8 : Ab (w64 4620693217682128896) 8 := by rw [o5]; unfold Ab; constructor <;> decide +kernel
  obtain ⟨k, hk, ek⟩ := mul64 (vl64 o1) hm 27 (by omega) (B := 134217728) (by decide +kernel) ((b8.mul bm).mono (by decide +kernel))
  have bk : Ab k 92236825 := ((ek.add (b8.mul bm)).mono (by grind)).eq (by grind)
  have hq : k / w64 4618760256179416344 * w64 4618760256179416344 = k := Rat.div_mul_cancel (by grind)
  have bq : Ab (k / w64 4618760256179416344) (92236825 / 6) := Ab.div (by rw [hq]; exact bk) (.inl o6) (by decide +kernel)
  obtain ⟨a, ha, ea⟩ := q64 hk (vl64 o2) 27 (by omega) (B := 134217728) (by decide +kernel) hq (by grind) (bq.mono (by decide +kernel))
  exact ⟨a, ha, ((ea.add bq).mono (by grind)).eq (by grind)⟩
theorem less_ang {C A : Option Nat} {c a M : Rat} (hc : Vl .f64 C c) (ha : Vl .f64 A a) (bc : Ab c 1) (bM : M ≤ 1000000002) (ba : Ab a M) : ∃ b, Vl .f64 (ab .sub .f64 C A) b ∧ Ab b (M + 2) := by
  have hv : vv ≤ 1 / 4000000000000 ∧ 0 < vv := by decide +kernel
  obtain ⟨b, hb, eb⟩ := sub64 hc ha 31 (by omega) (B := 2147483648) (by decide +kernel) ((bc.sub ba).mono (by grind))
  exact ⟨b, hb, ((eb.add (bc.sub ba)).mono (by grind)).eq (by grind)⟩
end Go.Proofs.Yticoikchcmmpfaa
namespace Go.Proofs.Yticoikchcmmpfaa
open Go.RowKit
attribute [local go_sem] order_cl cl_zero cl_one cl_two aord_none

theorem neg_bits64 (b : Nat) : (b ^^^ 2 ^ 63) % 2 ^ 63 = b % 2 ^ 63 ∧ (b ^^^ 2 ^ 63) / 2 ^ 63 % 2 = 1 - b / 2 ^ 63 % 2 := by
  constructor
  · rw [Nat.xor_mod_two_pow, Nat.mod_self, Nat.xor_zero]
  · rw [← Nat.shiftRight_eq_div_pow, ← Nat.shiftRight_eq_div_pow, Nat.shiftRight_xor_distrib, Nat.shiftRight_eq_div_pow (2 ^ 63), Nat.div_self (by decide)]
    generalize b >>> 63 = c
    have h := Nat.xor_mod_two_pow (a := c) (b := 1) (n := 1)
    rw [Nat.pow_one] at h
    rw [h]
    rcases Nat.mod_two_eq_zero_or_one c with e | e <;> rw [e] <;> rfl
theorem read_neg64 (b : Nat) : FloatKind.f64.format.read (Op.negFloat .f64 b) = (FloatKind.f64.format.read b).opposite := by
  obtain ⟨h1, h2⟩ := neg_bits64 b
  have hs : (FloatKind.format .f64).signWeight = 2 ^ 63 := rfl
  have hn : Op.negFloat .f64 b = b ^^^ 2 ^ 63 := rfl
  unfold Ieee.Format.read
  rw [hn, hs, h1]
  have h3 : ((b ^^^ 2 ^ 63) / 2 ^ 63 % 2 == 1) = !(b / 2 ^ 63 % 2 == 1) := by
    rw [h2]
    have : b / 2 ^ 63 % 2 < 2 := Nat.mod_lt _ (by decide)
    generalize b / 2 ^ 63 % 2 = c at *
    rcases (show c = 0 ∨ c = 1 by omega) with rfl | rfl <;> rfl
  dsimp only
  rw [h3]
  split
  · rfl
  · split
    · rfl
    · split
      · rfl
      · rfl
@[local go_sem] theorem run_neg_float64 (P : Program) (W : World) (b : Nat) : (Op.unary .neg (.float .f64 b)).run P W = .ok (.float .f64 (Op.negFloat .f64 b)) W := rfl
theorem Vl.neg64 {b : Nat} {x : Rat} (h : Vl .f64 (cl .f64 b) x) : Vl .f64 (cl .f64 (Op.negFloat .f64 b)) (-x) := by
  obtain ⟨n, s, m, p, e, er, rfl⟩ := h
  obtain rfl := cl_some e
  have hr : FloatKind.f64.format.read (Op.negFloat .f64 n) = .number (!s) m p := by rw [read_neg64, er]; rfl
  refine ⟨_, !s, m, p, ?_, hr, opposite_dv s m p⟩
  unfold cl
  rw [hr]
  rfl
/-- A number that is finite, and no greater. -/
def Ang (b : Nat) (M : Rat) : Prop := ∃ v, Vl .f64 (cl .f64 b) v ∧ Ab v M
theorem Ang.mono {b : Nat} {M M' : Rat} (h : Ang b M) (hM : M ≤ M') : Ang b M' := by
  obtain ⟨v, h1, h2⟩ := h
  exact ⟨v, h1, h2.mono hM⟩
theorem Ang.fits {b : Nat} {M : Rat} (h : Ang b M) (hM : M ≤ 1000000004) : Fits (cl .f64 b) ∧ ∃ v, Vl .f32 (nar (cl .f64 b)) v ∧ Ab v 1073741824 := by
  obtain ⟨v, h1, h2⟩ := h
  have hu : uu ≤ 1 / 16000000 ∧ 0 < uu := by decide +kernel
  obtain ⟨f, r, hr, er⟩ := nar32 h1 30 (by omega) (B := 1073741824) (by decide +kernel) (h2.mono (by grind))
  exact ⟨f, r, hr, ((er.add h2).mono (by grind)).eq (by grind)⟩
theorem ang_first {a b r : Nat} {x y : Rat} (ha : Vl .f64 (cl .f64 a) x) (hb : Vl .f64 (cl .f64 b) y) (a0 : 0 ≤ x) (h : x ≤ y) (b0 : 0 < y) (hr : cl .f64 r = ab .quo .f64 (cl .f64 a) (cl .f64 b)) : Ang r 2 := by
  obtain ⟨t, ht, bt⟩ := first_ang ha hb a0 h b0
  exact ⟨t, by rw [hr]; exact ht, bt⟩
theorem ang_half {t r1 r2 r3 r4 r5 : Nat} (h : Ang t 2) (h1 : cl .f64 r1 = ab .mul .f64 (cl .f64 t) (cl .f64 t)) (h2 : cl .f64 r2 = ab .add .f64 one64 (cl .f64 r1)) (h3 : cl .f64 r3 = sqrtF (cl .f64 r2)) (h4 : cl .f64 r4 = ab .add .f64 one64 (cl .f64 r3)) (h5 : cl .f64 r5 = ab .quo .f64 (cl .f64 t) (cl .f64 r4)) : Ang r5 2 := by
  obtain ⟨v, hv, bv⟩ := h
  obtain ⟨u, hu, bu⟩ := half_ang hv bv
  exact ⟨u, by rw [h5, h4, h3, h2, h1]; exact hu, bu⟩
theorem ang_sq {t r : Nat} (h : Ang t 2) (hr : cl .f64 r = ab .mul .f64 (cl .f64 t) (cl .f64 t)) : Ang r 5 := by
  obtain ⟨v, hv, bv⟩ := h
  obtain ⟨m, hm, em⟩ := mul64 hv hv 2 (by omega) (B := 4) (by decide +kernel) ((bv.mul bv).mono (by decide +kernel))
  exact ⟨m, by rw [hr]; exact hm, ((em.add (bv.mul bv)).mono (by decide +kernel)).eq (by grind)⟩
theorem ang_poly {u p r1 r2 r3 : Nat} {j : Nat} {i : Int} (hj : j < 8) (hi : i = 15 - 2 * (j : Int)) (hu : Ang u 5) (hp : Ang p (7 ^ j)) (h1 : cl .f64 r1 = ab .quo .f64 one64 (some (floatOfInt .f64 i))) (h2 : cl .f64 r2 = ab .mul .f64 (cl .f64 u) (cl .f64 p)) (h3 : cl .f64 r3 = ab .sub .f64 (cl .f64 r1) (cl .f64 r2)) : Ang r3 (7 ^ (j + 1)) := by
  obtain ⟨v, hv, bv⟩ := hu
  obtain ⟨q, hq, bq⟩ := hp
  obtain ⟨z, hz, bz⟩ := poly_ang hj hv hq bv bq
  subst hi
  exact ⟨z, by rw [h3, h2, h1]; exact hz, bz⟩
theorem ang_last {t p r1 r2 r3 : Nat} (ht : Ang t 2) (hp : Ang p (7 ^ 8)) (h1 : cl .f64 r1 = ab .mul .f64 (cl .f64 t) (cl .f64 p)) (h2 : cl .f64 r2 = ab .mul .f64 eight64 (cl .f64 r1)) (h3 : cl .f64 r3 = ab .quo .f64 (cl .f64 r2) full64) : Ang r3 1000000000 := by
  obtain ⟨v, hv, bv⟩ := ht
  obtain ⟨q, hq, bq⟩ := hp
  obtain ⟨z, hz, bz⟩ := last_ang hv hq bv bq
  exact ⟨z, by rw [h3, h2, h1]; exact hz, bz⟩
theorem ang_less {b r : Nat} {C : Option Nat} {M : Rat} (hC : ∃ c, Vl .f64 C c ∧ Ab c 1) (hb : Ang b M) (hM : M ≤ 1000000002) (hr : cl .f64 r = ab .sub .f64 C (cl .f64 b)) : Ang r (M + 2) := by
  obtain ⟨c, hc, bc⟩ := hC
  obtain ⟨v, hv, bv⟩ := hb
  obtain ⟨z, hz, bz⟩ := less_ang hc hv bc hM bv
  exact ⟨z, by rw [hr]; exact hz, bz⟩
theorem ang_neg {b : Nat} {M : Rat} (hb : Ang b M) : Ang (Op.negFloat .f64 b) M := by
  obtain ⟨v, hv, bv⟩ := hb
  exact ⟨_, hv.neg64, by unfold Ab at *; constructor <;> grind⟩
theorem quarter_ang : ∃ c, Vl .f64 quarter64 c ∧ Ab c 1 := ⟨_, vl64 eight_ok.2.2.1, eight_ok.2.2.2.2.2.2.1⟩
theorem half_ang1 : ∃ c, Vl .f64 half64 c ∧ Ab c 1 := ⟨_, vl64 eight_ok.2.2.2.1, eight_ok.2.2.2.2.2.2.2⟩
theorem cl_eight64 : cl .f64 4620693217682128896 = eight64 := by decide

/-- What is asked of the two numbers: what is taken is a share, whichever is greater. -/
theorem ang_pair {x y : Nat} {vx vy : Rat} (hx : Vl .f32 (cl .f32 x) vx) (hy : Vl .f32 (cl .f32 y) vy) (hne : vx ≠ 0 ∨ vy ≠ 0) : (aord .f64 (absX (wid (cl .f32 y))) (absX (wid (cl .f32 x))) = some .gt ∧ ∀ a b r, cl .f64 a = absX (wid (cl .f32 y)) → cl .f64 b = absX (wid (cl .f32 x)) → cl .f64 r = ab .quo .f64 (cl .f64 b) (cl .f64 a) → Ang r 2) ∨
    ((aord .f64 (absX (wid (cl .f32 y))) (absX (wid (cl .f32 x))) == some .gt) = false ∧ ∀ a b r, cl .f64 a = absX (wid (cl .f32 y)) → cl .f64 b = absX (wid (cl .f32 x)) → cl .f64 r = ab .quo .f64 (cl .f64 a) (cl .f64 b) → Ang r 2) := by
  obtain ⟨p, hp, p0, ep⟩ := hx.wid.abs
  obtain ⟨q, hq, q0, eq⟩ := hy.wid.abs
  rcases (show p < q ∨ q ≤ p by grind) with c | c
  · exact .inl ⟨(hq.order hp).2.2 c, fun a b r ha hb hr => ang_first (by rw [hb]; exact hp) (by rw [ha]; exact hq) p0 (Rat.le_of_lt c) (by grind) hr⟩
  · exact .inr ⟨not_gt hq hp c, fun a b r ha hb hr => ang_first (by rw [ha]; exact hq) (by rw [hb]; exact hp) q0 c (by grind) hr⟩

def RetAng (w : World) (e : Ending) (w' : World) : Prop := ∃ r, e = .returned (.float .f32 r) ∧ (∃ v, Vl .f32 (cl .f32 r) v ∧ Ab v 1073741824) ∧ Below w.heap.size w w'
attribute [local go_sem] cl_one64 cl_half64 cl_quarter64 cl_full64 cl_eight64

set_option maxRecDepth 8000 in
set_option maxHeartbeats 2000000 in
theorem angleTurns (x y : Nat) {vx vy : Rat} (hx : Vl .f32 (cl .f32 x) vx) (hy : Vl .f32 (cl .f32 y) vy) (hne : vx ≠ 0 ∨ vy ≠ 0) (w : World) : Calls Try.prog 72 #[.float .f32 y, .float .f32 x] w (RetAng w) := by
  have nx : NumF x := hx.isNum
  have ny : NumF y := hy.isNum
  have cn : ∀ (W : World) B cap E, B = W.heap.size → Calls Try.prog 28 #[.slice (some ⟨B, 0, none⟩) 2 cap] (W.alloc (.cells #[.float .f32 x, .float .f32 y] E)) (RetD (.bool true) (W.alloc (.cells #[.float .f32 x, .float .f32 y] E))) := fun W B cap E hB => two_numbers W B cap 0 x y nx ny E hB
  have hb : ((aord .f32 (cl .f32 x) (some 0) == some .eq) = false) ∨ ((aord .f32 (cl .f32 x) (some 0) == some .eq) = true ∧ (aord .f32 (cl .f32 y) (some 0) == some .eq) = false) := by
    by_cases hx0 : vx = 0
    · right
      refine ⟨by rw [(hx.order zero_vl).2.1 hx0]; rfl, ?_⟩
      have hy0 : vy ≠ 0 := by rcases hne with h | h; exact absurd hx0 h; exact h
      rcases (show vy < 0 ∨ 0 < vy by grind) with c | c
      · rw [(hy.order zero_vl).1 c]; rfl
      · rw [(hy.order zero_vl).2.2 c]; rfl
    · left
      rcases (show vx < 0 ∨ 0 < vx by grind) with c | c
      · rw [(hx.order zero_vl).1 c]; rfl
      · rw [(hx.order zero_vl).2.2 c]; rfl
  have hp := ang_pair hx hy hne
  clear hx hy hne nx ny
  generalize hX : cl .f32 x = X at *
  generalize hY : cl .f32 y = Y at *
  generalize hA : absX (wid Y) = A at *
  generalize hB : absX (wid X) = B at *
  rcases hb with h0 | ⟨h0, h0'⟩
  all_goals
    rcases hp with ⟨hgt, hp⟩ | ⟨hgt, hp⟩
    all_goals
      go_enter Try.func72, Try.ntmps72
      go_wp2_with (first | (go_at_call 28; refine (cn _ _ _ _ rfl).mono ?_; rintro e w' ⟨rfl, d1, rfl⟩) | (refine wpList_widc rfl rfl Try.underlying25 Try.underlying31 rfl (by assumption) ?_; intro r d hr))
      refine (mathAbs _ _).mono ?_
      rintro e w1 ⟨rfl, rfl⟩
      have ha := cl_abs hr
      rw [hA] at ha
      generalize r % 2 ^ 63 = a at *
      clear hr
      go_wp2_with (refine wpList_widc rfl rfl Try.underlying25 Try.underlying31 rfl (by assumption) ?_; intro r d hr)
      refine (mathAbs _ _).mono ?_
      rintro e w1 ⟨rfl, rfl⟩
      have hb' := cl_abs hr
      rw [hB] at hb'
      generalize r % 2 ^ 63 = b at *
      clear hr
      go_wp2_with (refine wpList_flc rfl rfl rfl rfl rfl (by assumption) (by assumption) ?_; intro r d hr)
      have hT : Hid (Ang r 2) := Lib.hid (hp _ _ _ ha hb' (by rw [ha, hb']; exact hr))
      clear hp cn
      go_loopw [7, 42] (fun t i wr => ∃ (k t' : Nat), i = .int .i64 (k : Int) ∧ k ≤ 3 ∧ t = .float .f64 t' ∧ Hid (Ang t' 2) ∧ Below w.heap.size w wr) (fun _ i _ => 3 - (intOf i).toNat)
      case atStart => exact ⟨0, _, rfl, Nat.zero_le _, rfl, hT, below_drewN ((Below.refl _ _).alloc (Nat.le_refl _) _) _⟩
      case round =>
        obtain ⟨k, t', rfl, hk, rfl, hA', hBw⟩ := hrel
        by_cases hlt : k < 3
        · go_wp2_with (refine wpList_flc rfl rfl rfl rfl rfl (by first | exact cl_one64 | exact rfl) (by exact rfl) ?_; intro r d hr)
          refine (mathSqrt rfl _).mono ?_
          rintro e w1 ⟨q, rfl, hq, d3, rfl⟩
          go_wp2_with (refine wpList_flc rfl rfl rfl rfl rfl (by first | exact cl_one64 | exact rfl) (by exact rfl) ?_; intro r d hr)
          have hn : Hid (Ang r 2) := Lib.hid (ang_half hA'.out (by assumption) (by assumption) hq (by assumption) hr)
          go_roundw
          case rel => exact ⟨k + 1, _, by go_num, by omega, rfl, hn, below_drewN hBw _⟩
          case measure => simp [intOf]; omega
        · obtain rfl : k = 3 := by omega
          go_wp2_with (refine wpList_flc rfl rfl rfl rfl rfl (by exact rfl) (by exact rfl) ?_; intro r d hr)
          have hU : Hid (Ang r 5) := Lib.hid (ang_sq hA'.out hr)
          go_loopw [9, 10] (fun p i wr' => ∃ (j : Nat) (v : Int) (p' : Nat), i = .int .i64 v ∧ j ≤ 8 ∧ Hid (v = 15 - 2 * (j : Int)) ∧ p = .float .f64 p' ∧ Hid (Ang p' (7 ^ j)) ∧ Below w.heap.size w wr') (fun _ i _ => (intOf i + 1).toNat)
          case atStart => exact ⟨0, 15, _, rfl, Nat.zero_le _, Lib.hid rfl, rfl, Lib.hid ⟨0, by rw [cl_zero]; exact zero64, by unfold Ab; constructor <;> decide +kernel⟩, below_drewN hBw _⟩
          case round =>
            obtain ⟨j, v, p', rfl, hj, hv, rfl, hP, hBx⟩ := hrel
            by_cases hjl : 1 ≤ v
            · have hv15 : v ≤ 15 := by have := hv.out; omega
              have hj8 : j < 8 := by have := hv.out; omega
              have hi2 : Hid (j + 1 ≤ 8 ∧ v - 2 = 15 - 2 * ((j + 1 : Nat) : Int)) := Lib.hid (by have := hv.out; omega)
              go_wp2_with (refine wpList_flc rfl rfl rfl rfl rfl (by first | exact cl_one64 | exact rfl) (by first | exact cl_intB _ _ | exact rfl) ?_; intro r d hr)
              have hn : Hid (Ang r (7 ^ (j + 1))) := Lib.hid (ang_poly hj8 hv.out hU.out hP.out (by assumption) (by assumption) hr)
              clear hv
              go_roundw
              case rel => exact ⟨j + 1, v - 2, _, by go_num, hi2.out.1, Lib.hid hi2.out.2, rfl, hn, below_drewN hBx _⟩
              case measure => simp [intOf]; omega
            · obtain rfl : j = 8 := by have := hv.out; omega
              clear hv
              cases hbx : (aord .f32 X (some 0) == some .lt) <;> cases hby : (aord .f32 Y (some 0) == some .lt)
              all_goals
                go_wp2_with (first
                  | (refine wpList_flc rfl rfl rfl rfl rfl (by first | exact cl_eight64 | exact cl_quarter64 | exact cl_half64 | exact rfl) (by first | exact cl_full64 | exact rfl) ?_; intro r d hr)
                  | (have L0 := ang_last hA'.out hP.out (by assumption) (by assumption) (by assumption)
                     first
                       | (have L1 := ang_less quarter_ang L0 (by decide +kernel) (by assumption); have L2 := ang_less half_ang1 L1 (by decide +kernel) (by assumption); have LE := L2.fits (by decide +kernel); have LF := (ang_neg L2).fits (by decide +kernel))
                       | (have L1 := ang_less quarter_ang L0 (by decide +kernel) (by assumption); have LE := L1.fits (by decide +kernel); have LF := (ang_neg L1).fits (by decide +kernel))
                       | (have L1 := ang_less half_ang1 L0 (by decide +kernel) (by assumption); have LE := L1.fits (by decide +kernel); have LF := (ang_neg L1).fits (by decide +kernel))
                       | (have LE := L0.fits (by decide +kernel); have LF := (ang_neg L0).fits (by decide +kernel))
                     have LX := LE.2
                     have LY := LF.2
                     first
                       | (refine wpList_narc rfl rfl Try.underlying31 Try.underlying25 rfl (LE.1.of rfl) rfl ?_; intro r d hr; rw [← hr] at LX)
                       | (refine wpList_narc rfl rfl Try.underlying31 Try.underlying25 rfl (LF.1.of rfl) rfl ?_; intro r d hr; rw [← hr] at LY)))
                go_ret
                exact ⟨_, rfl, by first | exact LX | exact LY, below_drewN hBx _⟩
end Go.Proofs.Yticoikchcmmpfaa
