/-
  The moments of the corners in 32 bits.
-/
import Derived.Test.YticoikchcmmpfaaPWords
import Derived.Test.YticoikchcmmpfaaPMono
namespace Go.Proofs.Yticoikchcmmpfaa
open Go.RowKit

/-! ### Exact -/
def mu (n : Nat) (u : Nat → Rat) : Rat := sm n u / n
theorem mu_sum {n : Nat} (hn : 0 < n) (u : Nat → Rat) : (n : Rat) * mu n u = sm n u := mul_div_n hn _
theorem le_of_n {n : Nat} (hn : 0 < n) {a b : Rat} (h : (n : Rat) * a ≤ n * b) : a ≤ b := by
  have h0 : (0 : Rat) < (n : Rat) := by exact_mod_cast hn
  exact le_of_mul h0 (by grind)
theorem mu_ab {n : Nat} (hn : 0 < n) {u : Nat → Rat} {e : Rat} (h : ∀ k, k < n → Ab (u k) e) : Ab (mu n u) e := by
  have h1 := sm_ab h
  rw [← mu_sum hn] at h1
  unfold Ab at *
  exact ⟨le_of_n hn (by grind), le_of_n hn h1.2⟩
/-- The mean of the products about the means. -/
def cen (n : Nat) (u w : Nat → Rat) : Rat := mu n fun k => (u k - mu n u) * (w k - mu n w)
def vX (n : Nat) (r : Nat → Nat) (k : Nat) : Rat := (plotV n r k).1
def vY (n : Nat) (r : Nat → Nat) (k : Nat) : Rat := (plotV n r k).2
def radOk (n k r : Nat) : Bool := decide ((corn n k r).1 * (corn n k r).1 + (corn n k r).2 * (corn n k r).2 ≤ 1601 / 100)
theorem rad_all : ((List.range 7).all fun i => (List.range (i + 3)).all fun k => (List.range 5).all fun r => radOk (i + 3) k r) = true := by decide +kernel
theorem rad_get {n r k : Nat} (h3 : 3 ≤ n) (h9 : n ≤ 9) (hk : k < n) (hr : r < 5) : (corn n k r).1 * (corn n k r).1 + (corn n k r).2 * (corn n k r).2 ≤ 1601 / 100 := by
  have h1 := List.all_eq_true.1 (List.all_eq_true.1 (List.all_eq_true.1 rad_all (n - 3) (List.mem_range.2 (by omega))) k (List.mem_range.2 (by omega))) r (List.mem_range.2 hr)
  rw [show n - 3 + 3 = n by omega] at h1
  exact of_decide_eq_true h1
theorem cen_self {n : Nat} (hn : 0 < n) (u : Nat → Rat) : (n : Rat) * cen n u u ≤ sm n fun k => u k * u k := by
  unfold cen
  rw [mu_sum hn]
  have e : sm n (fun k => (u k - mu n u) * (u k - mu n u)) = sm n (fun k => u k * u k) - (2 * mu n u) * sm n u + n * (mu n u * mu n u) := by
    rw [← sm_mul, ← sm_sub, ← sm_const, ← sm_add]
    exact sm_congr fun k _ => by grind
  have hs := mu_sum hn u
  rw [e]
  have h0 : (0 : Rat) ≤ (n : Rat) := Rat.natCast_nonneg
  have := Rat.mul_nonneg h0 (sq_nn (mu n u))
  clear e
  generalize (sm n fun k => u k * u k) = S at *
  generalize mu n u = m at *
  rw [← hs]
  grind
theorem cen_nn {n : Nat} (hn : 0 < n) (u : Nat → Rat) : 0 ≤ cen n u u := by
  refine le_of_n hn ?_
  unfold cen
  rw [mu_sum hn, Rat.mul_zero]
  have hz : (0 : Rat) = sm n fun _ => 0 := by rw [sm_const]; grind
  rw [hz]
  exact sm_le fun k _ => sq_nn _
theorem cen_two {n : Nat} (hn : 0 < n) (u w : Nat → Rat) : Ab (2 * cen n u w) (cen n u u + cen n w w) := by
  have hh : ∀ s : Rat, s * s = 1 → 2 * s * cen n u w ≤ cen n u u + cen n w w := fun s hs => by
    have h1 : (sm n fun k => 2 * s * ((u k - mu n u) * (w k - mu n w))) ≤ sm n fun k => (u k - mu n u) * (u k - mu n u) + (w k - mu n w) * (w k - mu n w) := sm_le fun k _ => by
      have := sq_nn ((u k - mu n u) - s * (w k - mu n w))
      have e : ((u k - mu n u) - s * (w k - mu n w)) * ((u k - mu n u) - s * (w k - mu n w)) = (u k - mu n u) * (u k - mu n u) - 2 * s * ((u k - mu n u) * (w k - mu n w)) + s * s * ((w k - mu n w) * (w k - mu n w)) := by grind
      rw [e, hs] at this
      grind
    rw [sm_mul, sm_add, ← mu_sum hn, ← mu_sum hn, ← mu_sum hn] at h1
    exact le_of_n hn (a := 2 * s * cen n u w) (b := cen n u u + cen n w w) (by unfold cen; grind)
  have h1 := hh 1 (by decide +kernel)
  have h2 := hh (-1) (by decide +kernel)
  unfold Ab
  constructor <;> grind
/-- The square of the area is no more than what the moments make. -/
theorem area_det {n : Nat} (hn : 0 < n) (X Y : Nat → Rat) (W : Rat) (hW : sm n (fun k => X k * Y (nx n k) - X (nx n k) * Y k) = 2 * W) (h1 : 1 ≤ W) :
    W * W ≤ sm n (fun k => X k * X k) * sm n (fun k => Y k * Y k) - sm n (fun k => X k * Y k) * sm n (fun k => X k * Y k) := by
  have cyc : ∀ f : Nat → Rat, sm n (fun k => f (nx n k)) = sm n f := fun f => by
    have h := sm_cyc hn f
    rw [sm_sub] at h
    grind
  have nn : ∀ f : Nat → Rat, 0 ≤ sm n fun k => f k * f k := fun f => by
    have hz : (0 : Rat) = sm n fun _ => 0 := by rw [sm_const]; grind
    rw [hz]
    exact sm_le fun k _ => sq_nn _
  -- for any two lists and any t
  have key : ∀ (Z : Nat → Rat) (t : Rat), t * sm n (fun k => X k * Z (nx n k) - X (nx n k) * Z k) ≤ t * t * sm n (fun k => X k * X k) + sm n (fun k => Z k * Z k) := fun Z t => by
    have h2 : (sm n fun k => 2 * t * (X k * Z (nx n k) - X (nx n k) * Z k)) ≤ sm n fun k => t * t * (X k * X k) + Z k * Z k + (t * t * (X (nx n k) * X (nx n k)) + Z (nx n k) * Z (nx n k)) := sm_le fun k _ => by
      have a1 := sq_nn (t * X k - Z (nx n k))
      have a2 := sq_nn (t * X (nx n k) + Z k)
      generalize X k = p at *
      generalize X (nx n k) = q at *
      generalize Z k = y at *
      generalize Z (nx n k) = z at *
      grind
    have hc := cyc (fun j => t * t * (X j * X j) + Z j * Z j)
    rw [sm_add, hc, sm_add, sm_mul, sm_mul] at h2
    grind
  have y0 := nn Y
  have x0 := nn X
  have k1 := key Y (sm n (fun k => Y k * Y k) + 1)
  have k2 := key (fun k => sm n (fun k => X k * X k) * Y k - sm n (fun k => X k * Y k) * X k) W
  rw [hW] at k1
  generalize hA : sm n (fun k => X k * X k) = A at *
  generalize hB : sm n (fun k => X k * Y k) = B at *
  generalize hC : sm n (fun k => Y k * Y k) = C at *
  have e1 : (sm n fun k => X k * (A * Y (nx n k) - B * X (nx n k)) - X (nx n k) * (A * Y k - B * X k)) = A * (2 * W) := by
    rw [← hW, ← sm_mul]
    exact sm_congr fun k _ => by grind
  have e2 : (sm n fun k => (A * Y k - B * X k) * (A * Y k - B * X k)) = A * (A * C - B * B) := by
    have : (sm n fun k => (A * Y k - B * X k) * (A * Y k - B * X k)) = A * A * C - 2 * A * B * B + B * B * A := by
      rw [← hC, ← sm_mul]
      have t1 : 2 * A * B * B = sm n fun k => 2 * A * B * (X k * Y k) := by rw [sm_mul, hB]
      have t2 : B * B * A = sm n fun k => B * B * (X k * X k) := by rw [sm_mul, hA]
      rw [t1, t2, ← sm_sub, ← sm_add]
      exact sm_congr fun k _ => by grind
    rw [this]
    grind
  rw [e1, e2] at k2
  have hA0 : 0 < A := by
    rcases (show 0 < A ∨ A = 0 by grind) with c | c
    · exact c
    · exfalso
      rw [c] at k1
      have := Rat.mul_le_mul_of_nonneg_left h1 (show 0 ≤ C + 1 by grind)
      clear key cyc nn e1 e2 k2 hA hB hC hW
      have k3 : 2 * ((C + 1) * W) ≤ C := by grind
      grind
  refine le_of_mul hA0 ?_
  clear e1 e2 k1 key cyc nn
  generalize A * C - B * B = D at *
  grind
structure MomP (n : Nat) (r : Nat → Nat) : Prop where
  a0 : 0 ≤ cen n (vX n r) (vX n r)
  c0 : 0 ≤ cen n (vY n r) (vY n r)
  tr : cen n (vX n r) (vX n r) + cen n (vY n r) (vY n r) ≤ 1601 / 100
  b2 : Ab (2 * cen n (vX n r) (vY n r)) (cen n (vX n r) (vX n r) + cen n (vY n r) (vY n r))
  det : 163 / 100 ≤ cen n (vX n r) (vX n r) * cen n (vY n r) (vY n r) - cen n (vX n r) (vY n r) * cen n (vX n r) (vY n r)
theorem momP {n : Nat} {r : Nat → Nat} (R : PlotR n r) : MomP n r := by
  have hn := R.pos
  refine ⟨cen_nn hn _, cen_nn hn _, ?_, cen_two hn _ _, ?_⟩
  · refine le_of_n hn ?_
    have h1 := cen_self hn (vX n r)
    have h2 := cen_self hn (vY n r)
    have h3 : (sm n fun k => vX n r k * vX n r k + vY n r k * vY n r k) ≤ sm n fun _ => 1601 / 100 := sm_le fun k hk => rad_get R.n3 R.n9 hk (R.r5 k hk)
    rw [sm_const, sm_add] at h3
    grind
  · have w := R.whole_lo
    have hn1 : (3 : Rat) ≤ (n : Rat) := by exact_mod_cast R.n3
    generalize hW : areaW (plotV n r) n = W at *
    have hcy : sm n (fun k => (vX n r k - mu n (vX n r)) * (vY n r (nx n k) - mu n (vY n r)) - (vX n r (nx n k) - mu n (vX n r)) * (vY n r k - mu n (vY n r))) = 2 * W := by
      have e1 := sm_cyc hn (fun k => mu n (vX n r) * vY n r k - mu n (vY n r) * vX n r k)
      have e2 : 2 * W = sm n fun k => dd orig (plotV n r k) (plotV n r (nx n k)) := by
        rw [← hW]
        have : areaW (plotV n r) n = sm n fun k => (1 / 2) * dd orig (plotV n r k) (plotV n r (nx n k)) := sm_congr fun k _ => by grind
        rw [this, sm_mul]
        grind
      have e3 : 2 * W = (sm n fun k => dd orig (plotV n r k) (plotV n r (nx n k))) - (sm n fun k => (mu n (vX n r) * vY n r (nx n k) - mu n (vY n r) * vX n r (nx n k)) - (mu n (vX n r) * vY n r k - mu n (vY n r) * vX n r k)) := by
        rw [e2, e1]; grind
      rw [e3, ← sm_sub]
      exact sm_congr fun k _ => by
        unfold dd orig vX vY
        simp only
        grind
    have hd := area_det hn (fun k => vX n r k - mu n (vX n r)) (fun k => vY n r k - mu n (vY n r)) W hcy (by grind)
    rw [← mu_sum hn, ← mu_sum hn, ← mu_sum hn] at hd
    rw [show mu n (fun k => (vX n r k - mu n (vX n r)) * (vX n r k - mu n (vX n r))) = cen n (vX n r) (vX n r) from rfl, show mu n (fun k => (vX n r k - mu n (vX n r)) * (vY n r k - mu n (vY n r))) = cen n (vX n r) (vY n r) from rfl, show mu n (fun k => (vY n r k - mu n (vY n r)) * (vY n r k - mu n (vY n r))) = cen n (vY n r) (vY n r) from rfl] at hd
    generalize cen n (vX n r) (vX n r) = A at *
    generalize cen n (vX n r) (vY n r) = B at *
    generalize cen n (vY n r) (vY n r) = C at *
    have e4 : (n : Rat) * A * (n * C) - n * B * (n * B) = n * (n * (A * C - B * B)) := by grind
    rw [e4] at hd
    have h5 := Rat.mul_le_mul_of_nonneg_left w (show (0 : Rat) ≤ n * (128 / 100) by grind)
    have h6 := Rat.mul_le_mul_of_nonneg_right w (show (0 : Rat) ≤ W by grind)
    refine le_of_n hn (le_of_n hn ?_)
    generalize A * C - B * B = D at *
    have e7 : (n : Rat) * (128 / 100) * (n * (128 / 100)) = n * (n * (16384 / 10000)) := by grind
    have e8 : (n : Rat) * (163 / 100) ≤ n * (16384 / 10000) := Rat.mul_le_mul_of_nonneg_left (by decide +kernel) (by grind)
    have e9 := Rat.mul_le_mul_of_nonneg_left e8 (show (0 : Rat) ≤ n by grind)
    rw [e7] at h5
    grind
end Go.Proofs.Yticoikchcmmpfaa
namespace Go.Proofs.Yticoikchcmmpfaa
open Go.RowKit

def sum32 (f : Nat → Option Nat) : Nat → Option Nat
  | 0 => some 0
  | k + 1 => ab .add .f32 (sum32 f k) (f k)
def lenW (n : Nat) : Option Nat := some (floatOfInt .f32 (n : Int))
def lenOk (n : Nat) : Bool := isNum .f32 (lenW n) && decide (wv ((lenW n).getD 0) = (n : Rat))
theorem len_all : ((List.range 10).all lenOk) = true := by decide +kernel
theorem len_get {n : Nat} (h : n ≤ 9) : Vl .f32 (lenW n) n := by
  have h1 := List.all_eq_true.1 len_all n (List.mem_range.2 (by omega))
  unfold lenOk at h1
  simp only [Bool.and_eq_true, decide_eq_true_eq] at h1
  rw [← h1.2]
  have e := some_of h1.1
  rw [e] at h1 ⊢
  exact vl_word h1.1
def meanX (f : Nat → Option Nat) (n : Nat) : Option Nat := ab .quo .f32 (sum32 f n) (lenW n)
def dX (f : Nat → Option Nat) (n k : Nat) : Option Nat := ab .sub .f32 (f k) (meanX f n)
def momX (f g : Nat → Option Nat) (n : Nat) : Option Nat := ab .quo .f32 (sum32 (fun k => ab .mul .f32 (dX f n k) (dX g n k)) n) (lenW n)

theorem sum32_num {f : Nat → Option Nat} {x : Nat → Rat} {n : Nat} {e M B : Rat} (hn : n ≤ 9) (hv : ∀ k, k < n → ∃ v, Vl .f32 (f k) v ∧ Ab (v - x k) e) (hb : ∀ k, k < n → Ab (x k) M) (K : Nat) (hK : K ≤ 100) (hB : (2 : Rat) ^ K = B) (hM : 9 * (M + e + B * uu) ≤ B) (e0 : 0 ≤ e) (M0 : 0 ≤ M) {k : Nat} (hk : k ≤ n) : ∃ s, Vl .f32 (sum32 f k) s ∧ Ab (s - sm k x) (k * (e + B * uu)) := by
  have hu : uu ≤ 1 / 16000000 ∧ 0 < uu := by decide +kernel
  have B0 : 0 ≤ B := by
    rw [← hB]
    have := one_le_pow K
    rw [Rat.natCast_pow] at this
    have e : ((2 : Nat) : Rat) = 2 := rfl
    rw [e] at this
    grind
  induction k with
  | zero =>
    refine ⟨0, zero_vl, ?_⟩
    unfold sm Ab
    have e : ((0 : Nat) : Rat) = 0 := rfl
    rw [e]
    constructor <;> grind
  | succ k ih =>
    obtain ⟨s, hs, es⟩ := ih (by omega)
    obtain ⟨v, hv', ev⟩ := hv k (by omega)
    have bk := hb k (by omega)
    have bs : Ab (sm k x) (k * M) := sm_ab fun j hj => hb j (by omega)
    have h1 := (bs.add es).add (bk.add ev)
    have hc1 : ((k + 1 : Nat) : Rat) = (k : Rat) + 1 := by rw [Rat.natCast_add]; rfl
    have k9 : (k : Rat) + 1 ≤ 9 := by rw [← hc1]; exact_mod_cast (show k + 1 ≤ 9 by omega)
    have Bu := Rat.mul_nonneg B0 (show 0 ≤ uu by grind)
    have hsum : Ab (s + v) B := by
      refine (h1.mono ?_).eq (by grind)
      have := Rat.mul_le_mul_of_nonneg_right k9 (show 0 ≤ M + e + B * uu by grind)
      grind
    obtain ⟨w, hw, ew⟩ := add32 hs hv' K hK hB hsum
    refine ⟨w, hw, ?_⟩
    rw [hc1]
    show Ab (w - (sm k x + x k)) _
    exact (((ew.add es).add ev).mono (by grind)).eq (by grind)

/-- A row of parts: near u, moved by b. -/
structure RowN (n : Nat) (f : Nat → Option Nat) (u : Nat → Rat) (b : Rat) : Prop where
  n3 : 3 ≤ n
  n9 : n ≤ 9
  vl : ∀ k, k < n → ∃ v, Vl .f32 (f k) v ∧ Ab (v - (u k + b)) (8 * uu)
  u4 : ∀ k, k < n → Ab (u k) 4
  b2 : Ab b 2
section
variable {n : Nat} {f g : Nat → Option Nat} {u w : Nat → Rat} {b c : Rat}
theorem RowN.mean (h : RowN n f u b) : ∃ m, Vl .f32 (meanX f n) m ∧ Ab (m - (mu n u + b)) (104 * uu) := by
  have hu : uu ≤ 1 / 16000000 ∧ 0 < uu := by decide +kernel
  have hn : 0 < n := by have := h.n3; omega
  have h6 : ∀ k, k < n → Ab (u k + b) 6 := fun k hk => ((h.u4 k hk).add h.b2).mono (by decide +kernel)
  obtain ⟨s, hs, es⟩ := sum32_num (x := fun k => u k + b) h.n9 h.vl h6 6 (by omega) (B := 64) (by decide +kernel) (by grind) (by grind) (by decide +kernel) (Nat.le_refl n)
  have n0 : (0 : Rat) < (n : Rat) := by exact_mod_cast hn
  have e1 : sm n (fun k => u k + b) = n * (mu n u + b) := by
    rw [sm_add, sm_const, ← mu_sum hn]; grind
  rw [e1] at es
  have hq : s / n * n = s := Rat.div_mul_cancel (by grind)
  have bm := mu_ab hn h.u4
  have b2 := h.b2
  generalize s / (n : Rat) = q at *
  have eq : Ab (q - (mu n u + b)) (72 * uu) := by
    rw [← hq] at es
    unfold Ab at *
    constructor
    · refine le_of_n hn ?_
      have := es.1
      grind
    · refine le_of_n hn ?_
      have := es.2
      grind
  obtain ⟨m, hm, em⟩ := quo32 hs (len_get h.n9) 3 (by omega) (B := 8) (by decide +kernel) q hq (by grind) (by
    clear es hq e1
    unfold Ab at *; constructor <;> grind)
  exact ⟨m, hm, ((em.add eq).mono (by grind)).eq (by grind)⟩
theorem RowN.dev (h : RowN n f u b) {k : Nat} (hk : k < n) : ∃ d, Vl .f32 (dX f n k) d ∧ Ab (d - (u k - mu n u)) (128 * uu) ∧ Ab (u k - mu n u) 8 := by
  have hu : uu ≤ 1 / 16000000 ∧ 0 < uu := by decide +kernel
  have hn : 0 < n := by have := h.n3; omega
  obtain ⟨m, hm, em⟩ := h.mean
  obtain ⟨v, hv, ev⟩ := h.vl k hk
  have b1 := (h.u4 k hk).sub (mu_ab hn h.u4)
  have e1 := ev.sub em
  have e2 : Ab (v - m - (u k - mu n u)) (112 * uu) := (e1.mono (by grind)).eq (by grind)
  obtain ⟨d, hd, ed⟩ := sub32 hv hm 4 (by omega) (B := 16) (by decide +kernel) (((e2.add b1).mono (by grind)).eq (by grind))
  exact ⟨d, hd, ((ed.add e2).mono (by grind)).eq (by grind), b1.mono (by decide +kernel)⟩
theorem mom_num (h : RowN n f u b) (h' : RowN n g w c) : ∃ a, Vl .f32 (momX f g n) a ∧ Ab (a - cen n u w) (3700 * uu) := by
  have hu : uu ≤ 1 / 16000000 ∧ 0 < uu := by decide +kernel
  have hn : 0 < n := by have := h.n3; omega
  have hp : ∀ k, k < n → ∃ v, Vl .f32 (ab .mul .f32 (dX f n k) (dX g n k)) v ∧ Ab (v - (u k - mu n u) * (w k - mu n w)) (2200 * uu) := fun k hk => by
    obtain ⟨d, hd, ed, bd⟩ := h.dev hk
    obtain ⟨t, ht, et, bt⟩ := h'.dev hk
    have bt' : Ab t (8 + 1 / 100) := ((et.add bt).mono (by grind)).eq (by grind)
    have bd' : Ab d (8 + 1 / 100) := ((ed.add bd).mono (by grind)).eq (by grind)
    obtain ⟨p, hp, ep⟩ := mul32 hd ht 7 (by omega) (B := 128) (by decide +kernel) ((bd'.mul bt').mono (by decide +kernel))
    have e1 := (ed.mul bt').add (bd.mul et)
    exact ⟨p, hp, ((ep.add e1).mono (by grind)).eq (by grind)⟩
  have hb : ∀ k, k < n → Ab ((u k - mu n u) * (w k - mu n w)) 64 := fun k hk => by
    obtain ⟨d, hd, ed, bd⟩ := h.dev hk
    obtain ⟨t, ht, et, bt⟩ := h'.dev hk
    exact (bd.mul bt).mono (by decide +kernel)
  obtain ⟨s, hs, es⟩ := sum32_num (x := fun k => (u k - mu n u) * (w k - mu n w)) h.n9 hp hb 10 (by omega) (B := 1024) (by decide +kernel) (by grind) (by grind) (by decide +kernel) (Nat.le_refl n)
  have n0 : (0 : Rat) < (n : Rat) := by exact_mod_cast hn
  rw [← mu_sum hn] at es
  have hq : s / n * n = s := Rat.div_mul_cancel (by grind)
  have bc : Ab (cen n u w) 64 := mu_ab hn hb
  unfold cen at bc ⊢
  generalize (mu n fun k => (u k - mu n u) * (w k - mu n w)) = A at *
  clear hp hb
  generalize s / (n : Rat) = q at *
  have eq : Ab (q - A) (3224 * uu) := by
    rw [← hq] at es
    unfold Ab at *
    constructor
    · refine le_of_n hn ?_
      have := es.1
      grind
    · refine le_of_n hn ?_
      have := es.2
      grind
  obtain ⟨m, hm, em⟩ := quo32 hs (len_get h.n9) 7 (by omega) (B := 128) (by decide +kernel) q hq (by grind) (by
    clear es hq
    unfold Ab at *; constructor <;> grind)
  exact ⟨m, hm, ((em.add eq).mono (by grind)).eq (by grind)⟩
end
theorem PlotW.rowX {n : Nat} {r : Nat → Nat} {bx b2 d : Rat} {P : Nat → Nat × Nat} (h : PlotW n r bx b2 d P) : RowN n (fun k => cl .f32 (P k).1) (vX n r) bx :=
  ⟨h.R.n3, h.R.n9, fun k hk => ⟨_, numF_vl (h.num k hk).1, (h.dx k hk).mono h.d8⟩, fun k hk => (h.R.in4 k hk).1, h.cx⟩
theorem PlotW.rowY {n : Nat} {r : Nat → Nat} {bx b2 d : Rat} {P : Nat → Nat × Nat} (h : PlotW n r bx b2 d P) : RowN n (fun k => cl .f32 (P k).2) (vY n r) b2 :=
  ⟨h.R.n3, h.R.n9, fun k hk => ⟨_, numF_vl (h.num k hk).2, (h.dy k hk).mono h.d8⟩, fun k hk => (h.R.in4 k hk).2, h.cy⟩
end Go.Proofs.Yticoikchcmmpfaa
