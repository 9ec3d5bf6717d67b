/-
  The search for a cut: what holds of its two ends, round by round.
-/
import Derived.Test.YticoikchcmmpfaaPPlot
namespace Go.Proofs.Yticoikchcmmpfaa
open Go.RowKit Ieee

theorem mul_zero_vl {X : Option Nat} {x : Rat} (hx : Vl .f32 X x) : Vl .f32 (ab .mul .f32 (some 0) X) 0 := by
  obtain ⟨a, s, m, i, rfl, ea, rfl⟩ := hx
  have e0 : FloatKind.f32.format.read 0 = .number false 0 (-149) := by decide
  have e : ab .mul .f32 (some 0) (some a) = some (FloatKind.f32.format.write (.number (false != s) (0 * m) (-149 + i))) := by
    simp [ab, floatBits, Format.mul, ea, e0, Datum.product]
  rw [e, Nat.zero_mul]
  have e1 : FloatKind.f32.format.write (.number (false != s) 0 (-149 + i)) = FloatKind.f32.format.word (false != s) 0 := by simp [Format.write, Format.nearest]
  rw [e1]
  refine ⟨_, (false != s), 0, FloatKind.f32.format.leastPlace, rfl, ?_, by rw [dv_eq]; simp [Rat.zero_mul, Rat.mul_zero]⟩
  cases s <;> decide
/-- The absolute number, narrowed. -/
def nabX (X : Option Nat) : Option Nat := nar (absX (wid X))
theorem nab_num {X : Option Nat} {x : Rat} (hx : Vl .f32 X x) (bx : Ab x 60) : Fits (absX (wid X)) ∧ ∃ t a, Vl .f32 (nabX X) t ∧ 0 ≤ t ∧ 0 ≤ a ∧ (a = x ∨ a = -x) ∧ Ab (t - a) (64 * uu) := by
  obtain ⟨a, ha, a0, ha'⟩ := hx.wid.abs
  obtain ⟨f, t, ht, et⟩ := nar32 ha 6 (by omega) (B := 64) (by decide +kernel) (by unfold Ab at *; rcases ha' with e | e <;> constructor <;> grind)
  refine ⟨f, t, a, ht, ?_, a0, ha', et⟩
  exact ha.nar_nn 6 (by omega) a0 (by have : (2 : Rat) ^ 6 = 64 := by decide +kernel
                                      unfold Ab at bx
                                      rcases ha' with e | e <;> grind) ht
def wantX (S AREA : Option Nat) : Option Nat := ab .mul .f32 S (nabX AREA)
/-- Whether the part is less than wanted. -/
def lessB (PART S AREA : Option Nat) : Bool := aord .f32 (nabX PART) (wantX S AREA) == some .lt
theorem less_num {PART S AREA : Option Nat} {p s a A W : Rat} (hp : Vl .f32 PART p) (hs : Vl .f32 S s) (ha : Vl .f32 AREA a) (A0 : 0 ≤ A) (AW : A ≤ W) (W5 : W ≤ 50) (ep : Ab (p - A) (10600 * uu)) (ea : Ab (a - W) (5920 * uu)) (s0 : 0 ≤ s) (s1 : s ≤ 7 / 8) :
    (lessB PART S AREA = true → A ≤ s * W + 16000 * uu) ∧ (lessB PART S AREA = false → s * W - 16000 * uu ≤ A) := by
  have hu : uu ≤ 1 / 16000000 ∧ 0 < uu := by decide +kernel
  obtain ⟨_, t, b, ht, t0, b0, hb, et⟩ := nab_num hp (by clear ea; unfold Ab at *; constructor <;> grind)
  obtain ⟨_, u, c, hu', u0, c0, hc, eu⟩ := nab_num ha (by clear ep; unfold Ab at *; constructor <;> grind)
  have ec : Ab (u - W) (5984 * uu) := by
    clear et ep hb
    unfold Ab at *
    rcases hc with e | e <;> constructor <;> grind
  have eb : Ab (t - A) (10664 * uu) := by
    clear eu ea hc ec
    unfold Ab at *
    rcases hb with e | e <;> constructor <;> grind
  have bs : Ab s (7 / 8) := ⟨by grind, s1⟩
  have bsu := bs.mul (show Ab u 51 by unfold Ab at *; constructor <;> grind)
  obtain ⟨v, hv, ev⟩ := mul32 hs hu' 6 (by omega) (B := 64) (by decide +kernel) (bsu.mono (by decide +kernel))
  have es := bs.mul ec
  have ew : Ab (v - s * W) (5300 * uu) := ((ev.add es).mono (by grind)).eq (by grind)
  obtain ⟨o1, o2, o3⟩ := ht.order hv
  have hl : lessB PART S AREA = true ↔ t < v := by
    unfold lessB wantX
    rcases (show t < v ∨ t = v ∨ v < t by grind) with h | h | h
    · rw [o1 h]; simp [h]
    · rw [o2 h]; simp; grind
    · rw [o3 h]; simp; grind
  constructor
  · intro h
    have := hl.1 h
    clear et eu ep ea es ev bsu
    unfold Ab at *
    grind
  · intro h
    have : ¬ t < v := fun h' => by rw [hl.2 h'] at h; cases h
    clear et eu ep ea es ev bsu
    unfold Ab at *
    grind
theorem less_zero {PART AREA : Option Nat} {p a : Rat} (hp : Vl .f32 PART p) (bp : Ab p 60) (ha : Vl .f32 AREA a) (ba : Ab a 60) : lessB PART (some 0) AREA = false := by
  obtain ⟨_, t, b, ht, t0, _⟩ := nab_num hp bp
  obtain ⟨_, u, c, hu', _⟩ := nab_num ha ba
  have hv := mul_zero_vl hu'
  obtain ⟨o1, o2, o3⟩ := ht.order hv
  unfold lessB wantX
  rcases (show t < 0 ∨ t = 0 ∨ 0 < t by grind) with h | h | h
  · grind
  · rw [o2 h]; rfl
  · rw [o3 h]; rfl

/-- The middle. -/
def midX (LO HI : Option Nat) : Option Nat := ab .quo .f32 (ab .add .f32 LO HI) twoW
theorem mid_num {LO HI : Option Nat} {l h : Rat} (hl : Vl .f32 LO l) (hh : Vl .f32 HI h) (bl : Ab l (61 / 10)) (bh : Ab h (61 / 10)) : ∃ m, Vl .f32 (midX LO HI) m ∧ Ab (m - (l + h) / 2) (32 * uu) := by
  have hu : uu ≤ 1 / 16000000 ∧ 0 < uu := by decide +kernel
  obtain ⟨s, hs, es⟩ := add32 hl hh 4 (by omega) (B := 16) (by decide +kernel) ((bl.add bh).mono (by decide +kernel))
  obtain ⟨m, hm, em⟩ := quo32 hs two_num 3 (by omega) (B := 8) (by decide +kernel) (s / 2) (by grind) (by decide +kernel) (by unfold Ab at *; constructor <;> grind)
  refine ⟨m, hm, ?_⟩
  clear bl bh
  unfold Ab at *
  constructor <;> grind
def gapB : Nat → Rat
  | 0 => 81 / 10
  | k + 1 => gapB k / 2 + 32 * uu
theorem gapB_end : gapB 30 ≤ 70 * uu := by decide +kernel

structure Bis (n : Nat) (r : Nat → Nat) (bx T l0 h0 : Rat) (z : Bool) (w0 : Nat) (k : Nat) (lo hi : Nat) : Prop where
  nl : NumF lo
  nh : NumF hi
  rl : l0 - k * (32 * uu) ≤ wv lo ∧ wv lo ≤ h0 + k * (32 * uu)
  rh : l0 - k * (32 * uu) ≤ wv hi ∧ wv hi ≤ h0 + k * (32 * uu)
  gap : Ab (wv hi - wv lo) (gapB k)
  al : areaL (plotV n r) n (wv lo - bx) ≤ T + 16000 * uu
  ah : T - 16000 * uu ≤ areaL (plotV n r) n (wv hi - bx)
  z0 : z = true → lo = w0
section
variable {n : Nat} {r : Nat → Nat} {bx T l0 h0 : Rat} {z : Bool} {w0 k lo hi : Nat}
theorem Bis.mid (h : Bis n r bx T l0 h0 z w0 k lo hi) (hk : k < 30) (bl : Ab (l0 - bx) (401 / 100)) (bh : Ab (h0 - bx) (401 / 100)) (hb : Ab bx 2) : ∃ m, Vl .f32 (midX (cl .f32 lo) (cl .f32 hi)) m ∧ ∀ c, Vl .f32 (cl .f32 c) m → NumF c ∧ Ab (wv c - bx) (402 / 100) ∧
    (areaL (plotV n r) n (wv c - bx) ≤ T + 16000 * uu → z = false → Bis n r bx T l0 h0 z w0 (k + 1) c hi) ∧ (T - 16000 * uu ≤ areaL (plotV n r) n (wv c - bx) → Bis n r bx T l0 h0 z w0 (k + 1) lo c) := by
  have hu : uu ≤ 1 / 16000000 ∧ 0 < uu := by decide +kernel
  have k30 : (k : Rat) ≤ 29 := by exact_mod_cast (show k ≤ 29 by omega)
  have hc1 : ((k + 1 : Nat) : Rat) = (k : Rat) + 1 := by rw [Rat.natCast_add]; rfl
  have k30' := Rat.mul_le_mul_of_nonneg_right k30 (show 0 ≤ 32 * uu by grind)
  have k0 : (0 : Rat) ≤ (k : Rat) := Rat.natCast_nonneg
  have k0' := Rat.mul_nonneg k0 (show 0 ≤ 32 * uu by grind)
  obtain ⟨nl, nh, ⟨rl1, rl2⟩, ⟨rh1, rh2⟩, gap, al, ah, z0⟩ := h
  obtain ⟨m, hm, em⟩ := mid_num (numF_vl nl) (numF_vl nh) (by clear gap; unfold Ab at *; constructor <;> grind) (by clear gap; unfold Ab at *; constructor <;> grind)
  refine ⟨m, hm, fun c hc => ?_⟩
  have hw := vl_wv hc
  have e1 : ((k : Rat) + 1) * (32 * uu) = k * (32 * uu) + 32 * uu := by grind
  have r1 : l0 - ((k : Rat) + 1) * (32 * uu) ≤ m ∧ m ≤ h0 + ((k : Rat) + 1) * (32 * uu) := by
    rw [e1]
    generalize (k : Rat) * (32 * uu) = q at *
    clear gap bl bh hb
    unfold Ab at em
    constructor <;> grind
  have r2 : l0 - ((k : Rat) + 1) * (32 * uu) ≤ wv lo ∧ wv lo ≤ h0 + ((k : Rat) + 1) * (32 * uu) := by rw [e1]; constructor <;> grind
  have r3 : l0 - ((k : Rat) + 1) * (32 * uu) ≤ wv hi ∧ wv hi ≤ h0 + ((k : Rat) + 1) * (32 * uu) := by rw [e1]; constructor <;> grind
  refine ⟨hc.isNum, ?_, fun hA hz => ⟨hc.isNum, nh, ?_, ?_, ?_, hA, ah, fun h' => by rw [hz] at h'; cases h'⟩, fun hA => ⟨nl, hc.isNum, ?_, ?_, ?_, al, hA, z0⟩⟩
  · rw [hw]
    rw [e1] at r1
    generalize (k : Rat) * (32 * uu) = q at *
    clear gap em hb
    unfold Ab at *
    constructor <;> grind
  · rw [hw, hc1]; exact r1
  · rw [hc1]; exact r3
  · show Ab _ (gapB k / 2 + 32 * uu)
    rw [hw]
    clear bl bh hb
    unfold Ab at *
    constructor <;> grind
  · rw [hc1]; exact r2
  · rw [hw, hc1]; exact r1
  · show Ab _ (gapB k / 2 + 32 * uu)
    rw [hw]
    clear bl bh hb
    unfold Ab at *
    constructor <;> grind
theorem Bis.done (h : Bis n r bx T l0 h0 z w0 30 lo hi) (R : PlotR n r) : Ab (areaL (plotV n r) n (wv lo - bx) - T) (17820 * uu) ∧ l0 - 960 * uu ≤ wv lo := by
  have hu : uu ≤ 1 / 16000000 ∧ 0 < uu := by decide +kernel
  have g := h.gap.mono gapB_end
  have al := h.al
  have ah := h.ah
  have rl := h.rl.1
  have hl : areaL (plotV n r) n (wv hi - bx) - areaL (plotV n r) n (wv lo - bx) ≤ 1820 * uu := by
    by_cases hc : wv lo ≤ wv hi
    · have := R.lip (m := wv lo - bx) (m' := wv hi - bx) (by grind)
      unfold Ab at this g
      grind
    · have := R.mono (m := wv hi - bx) (m' := wv lo - bx) (by grind)
      grind
  refine ⟨?_, ?_⟩
  · unfold Ab
    constructor <;> grind
  · have e : ((30 : Nat) : Rat) = 30 := rfl
    rw [e] at rl
    grind
/-- The first corner lies right of the middle. -/
def first0 (n r : Nat) : Bool := decide (0 ≤ wv (cX n 0 r))
theorem first_all : ((List.range 7).all fun i => (List.range 5).all fun r => first0 (i + 3) r) = true := by decide +kernel
theorem corner0 (R : PlotR n r) : 0 ≤ (plotV n r 0).1 := by
  have h3 := R.n3
  have h9 := R.n9
  have h1 := List.all_eq_true.1 (List.all_eq_true.1 first_all (n - 3) (List.mem_range.2 (by omega))) (r 0) (List.mem_range.2 (R.r5 0 R.pos))
  rw [show n - 3 + 3 = n by omega] at h1
  exact of_decide_eq_true h1
/-- The two ends at the start. -/
theorem Bis.start {P : Nat → Nat × Nat} {b2 d : Rat} (hP : PlotW n r bx b2 d P) {s : Rat} {w1 : Nat} (s0 : 0 ≤ s) (s1 : s ≤ 7 / 8) (n0 : NumF w0) (n1 : NumF w1) (hl : ∀ k, k < n → wv w0 ≤ wv (P k).1) (hh : ∀ k, k < n → wv (P k).1 ≤ wv w1) (el : ∃ k, k < n ∧ wv (P k).1 = wv w0) (eh : ∃ k, k < n ∧ wv (P k).1 = wv w1) :
    Bis n r bx (s * areaW (plotV n r) n) (wv w0) (wv w1) z w0 0 w0 w1 ∧ Ab (wv w0 - bx) (401 / 100) ∧ Ab (wv w1 - bx) (401 / 100) := by
  have hu : uu ≤ 1 / 16000000 ∧ 0 < uu := by decide +kernel
  have d8 := hP.d8
  obtain ⟨i, hi, ei⟩ := el
  obtain ⟨j, hj, ej⟩ := eh
  have b1 := (hP.pt4 hi).1
  have b3 := (hP.pt4 hj).1
  rw [ei] at b1
  rw [ej] at b3
  have hij : wv w0 ≤ wv w1 := by rw [← ei]; exact hh i hi
  have w5 := hP.R.whole
  have w50 := hP.R.whole_hi
  have hz : ((0 : Nat) : Rat) = 0 := rfl
  have sw0 := Rat.mul_nonneg s0 (show 0 ≤ areaW (plotV n r) n by grind)
  have sw1 := Rat.mul_le_mul_of_nonneg_right s1 (show 0 ≤ areaW (plotV n r) n by grind)
  refine ⟨⟨n0, n1, by rw [hz]; constructor <;> grind, by rw [hz]; constructor <;> grind, ?_, ?_, ?_, fun _ => rfl⟩, b1, b3⟩
  · show Ab _ (81 / 10)
    unfold Ab at *
    constructor <;> grind
  · have a0 : areaL (plotV n r) n (wv w0 - bx - 8 * uu) = 0 := area_none fun k hk => by
      have h1 := hl k hk
      have h2 := (hP.dx k hk).2
      grind
    have := (hP.R.lip (m := wv w0 - bx - 8 * uu) (m' := wv w0 - bx) (by grind)).2
    grind
  · have hpos : 0 ≤ wv w1 - bx + 8 * uu := by
      -- some corner lies right of the middle
      have h1 := hh 0 hP.R.pos
      have h2 := (hP.dx 0 hP.R.pos).1
      have h3 := corner0 hP.R
      grind
    have a0 : areaL (plotV n r) n (wv w1 - bx + 8 * uu) = areaW (plotV n r) n := area_all hP.R.pos (fun k hk => by
      have h1 := hh k hk
      have h2 := (hP.dx k hk).1
      grind) hpos
    have := (hP.R.lip (m := wv w1 - bx) (m' := wv w1 - bx + 8 * uu) (by grind)).2
    grind
end
end Go.Proofs.Yticoikchcmmpfaa
