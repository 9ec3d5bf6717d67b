/-
  Points of the unit circle, told of classes.
-/
import Derived.Test.YticoikchcmmpfaaLPh
namespace Go.Proofs.Yticoikchcmmpfaa
open Go.RowKit
attribute [local go_sem] order_cl cl_zero cl_one cl_two aord_none cl_far cl_nfar cl_one64 cl_half64 cl_quarter64 cl_full64

theorem bits_call (args : Array Value) (W : World) : (callFunc 80 args).run Try.prog W = ((Extern.MathFloatBits.float64bits args).run Try.prog W).andThen fun v w' => .ok (.value v) w' :=
  run_callFunc_extern Try.func80 (by kernel_rfl) (by kernel_rfl) (by kernel_rfl) (e := Extern.MathFloatBits.float64bits) (by kernel_rfl) args W
theorem from_call (args : Array Value) (W : World) : (callFunc 79 args).run Try.prog W = ((Extern.MathFloatBits.float64frombits args).run Try.prog W).andThen fun v w' => .ok (.value v) w' :=
  run_callFunc_extern Try.func79 (by kernel_rfl) (by kernel_rfl) (by kernel_rfl) (e := Extern.MathFloatBits.float64frombits) (by kernel_rfl) args W
theorem run_bits (x : Nat) (W : World) : (callFunc 80 #[.float .f64 x]).run Try.prog W = .ok (.value (.int .u64 x)) W := by rw [bits_call]; rfl
theorem run_from (n : Int) (W : World) : (callFunc 79 #[.int .u64 n]).run Try.prog W = .ok (.value (.float .f64 n.toNat)) W := by rw [from_call]; rfl

theorem abs_bits (x : Nat) : (bits .andNot .u64 (x : Int) 9223372036854775808).toNat = x % 2 ^ 63 := by
  have h : (BitVec.ofInt 64 (x : Int) &&& ~~~(BitVec.ofInt 64 9223372036854775808)).toNat = x % 2 ^ 63 := by
    rw [BitVec.toNat_and, BitVec.toNat_not, BitVec.ofInt_natCast, BitVec.toNat_ofNat, show (BitVec.ofInt 64 9223372036854775808).toNat = 2 ^ 63 by decide, show 2 ^ 64 - 1 - 2 ^ 63 = 2 ^ 63 - 1 by decide, Nat.and_two_pow_sub_one_eq_mod]
    omega
  show (IntKind.u64.wrap ((BitVec.ofInt 64 (x : Int) &&& ~~~(BitVec.ofInt 64 9223372036854775808)).toNat : Int)).toNat = x % 2 ^ 63
  rw [h]
  have h2 : x % 2 ^ 63 < 2 ^ 63 := Nat.mod_lt _ (by decide)
  generalize x % 2 ^ 63 = y at *
  have : IntKind.u64.wrap (y : Int) = y := by
    simp only [IntKind.wrap, IntKind.bits, IntKind.signed]
    simp
    omega
  rw [this]
  rfl

theorem mathAbs (x : Nat) (w : World) : Calls Try.prog 64 #[.float .f64 x] w (fun e w' => e = .returned (.float .f64 (x % 2 ^ 63)) ∧ w = w') := by
  have h1 := run_bits x
  have h2 := fun n => run_from n
  have h3 := abs_bits x
  generalize x % 2 ^ 63 = y at *
  go_enter Try.func64, Try.ntmps64
  go_wp2
  go_ret
  exact ⟨rfl, rfl⟩

theorem double_sign : Ieee.double.signWeight = 2 ^ 63 := rfl
theorem read_abs (x : Nat) : ((FloatKind.f64.format.read (x % 2 ^ 63)).isNaN = (FloatKind.f64.format.read x).isNaN) ∧ (∀ s m p, FloatKind.f64.format.read x = .number s m p → FloatKind.f64.format.read (x % 2 ^ 63) = .number false m p) := by
  have e1 : x % 2 ^ 63 % Ieee.double.signWeight = x % Ieee.double.signWeight := by rw [double_sign, Nat.mod_mod]
  have e2 : (x % 2 ^ 63 / Ieee.double.signWeight % 2 == 1) = false := by
    rw [double_sign, Nat.div_eq_of_lt (Nat.mod_lt _ (by decide))]; rfl
  unfold Ieee.Format.read
  rw [show FloatKind.f64.format = Ieee.double from rfl, e1, e2]
  dsimp only
  generalize x % Ieee.double.signWeight = r
  generalize (x / Ieee.double.signWeight % 2 == 1) = b
  constructor
  · split
    · rfl
    · split
      · rfl
      · split <;> rfl
  · intro s m p h
    split at h
    · rename_i h1; rw [if_pos h1]; cases h; rfl
    · rename_i h1
      rw [if_neg h1]
      split at h
      · rename_i h2; rw [if_pos h2]; cases h; rfl
      · split at h <;> cases h
def absX (X : Option Nat) : Option Nat := X.map (· % 2 ^ 63)
theorem cl_abs {x : Nat} {X : Option Nat} (h : cl .f64 x = X) : cl .f64 (x % 2 ^ 63) = absX X := by
  subst h
  unfold cl
  rw [(read_abs x).1]
  split <;> rfl
theorem Vl.abs {X : Option Nat} {x : Rat} (h : Vl .f64 X x) : ∃ r, Vl .f64 (absX X) r ∧ 0 ≤ r ∧ (r = x ∨ r = -x) := by
  obtain ⟨n, s, m, p, rfl, e, rfl⟩ := h
  refine ⟨dv (.number false m p), ⟨_, _, _, _, rfl, (read_abs n).2 _ _ _ e, rfl⟩, ?_, ?_⟩
  · rw [dv_eq, if_neg (by decide), Rat.one_mul]
    exact Rat.mul_nonneg Rat.natCast_nonneg (Rat.le_of_lt (tw_pos p))
  · cases s
    · exact .inl rfl
    · right
      rw [dv_eq, dv_eq, if_neg (by decide), if_pos rfl]
      grind

/-! ### The point at some turns -/
/-- A quarter of a turn taken off i times. -/
def lessQ (F : Option Nat) : Nat → Option Nat
  | 0 => F
  | i + 1 => ab .sub .f64 (lessQ F i) quarter64
/-- Where the sine and the cosine go, i quarters on. -/
def turnQ (C S : Option Nat) : Nat → Option Nat × Option Nat
  | 0 => (C, S)
  | 1 => (ab .sub .f64 (some 0) S, C)
  | 2 => (ab .sub .f64 (some 0) C, ab .sub .f64 (some 0) S)
  | _ => (S, ab .sub .f64 (some 0) C)
def phX (X : Option Nat) (n : Nat) : Option Nat × Option Nat := turnQ (sineX (ab .sub .f64 quarter64 (lessQ (fracX X) n))) (sineX (lessQ (fracX X) n)) n
def fitsB : Option Nat → Bool
  | none => true
  | some y => match FloatKind.f64.decode y with
    | .number s m p => match FloatKind.f32.decode (FloatKind.f32.encode (.number s m p)) with
      | .number .. => true
      | _ => false
    | _ => true
theorem fits_of {X : Option Nat} (h : fitsB X = true) : Fits X := by
  intro y hy s m p hd
  subst hy
  unfold fitsB at h
  simp only [hd] at h
  cases he : FloatKind.f32.decode (FloatKind.f32.encode (.number s m p)) with
  | number s' m' p' =>
    have : s' = s := by
      by_cases h0 : m = 0
      · subst h0
        have e0 : FloatKind.f32.encode (.number s 0 p) = FloatKind.f32.format.word s 0 := by
          show Ieee.Format.nearest _ s 0 p = _
          simp [Ieee.Format.nearest]
        rw [e0] at he
        cases s
        · have : FloatKind.f32.decode (FloatKind.f32.format.word false 0) = .number false 0 (-149) := by decide
          rw [this] at he; cases he; rfl
        · have : FloatKind.f32.decode (FloatKind.f32.format.word true 0) = .number true 0 (-149) := by decide
          rw [this] at he; cases he; rfl
      · have e0 : FloatKind.f32.encode (.number s m p) = FloatKind.f32.format.word s (min (rungOf FloatKind.f32.format s m p) FloatKind.f32.format.infRung) := nearest_eq s _ h0 p
        rw [e0] at he
        have hm := word_mod FloatKind.f32.format s (Nat.min_le_right (rungOf FloatKind.f32.format s m p) FloatKind.f32.format.infRung)
        have hs := word_sign FloatKind.f32.format s (Nat.min_le_right (rungOf FloatKind.f32.format s m p) FloatKind.f32.format.infRung)
        unfold FloatKind.decode Ieee.Format.read at he
        rw [hm, hs] at he
        dsimp only at he
        split at he
        · cases he; rfl
        · split at he
          · cases he; rfl
          · split at he <;> cases he
    subst this
    exact ⟨m', p', rfl⟩
  | infinity s' => simp [he] at h
  | nan s' t => simp [he] at h
/-- What a sine asks of its number. -/
def sinAll (X : Option Nat) : Bool := sineOk X && (finB .f64 X && (!geB64 X (some 4841369599423283200) && !(ltB64 X (some 14064741636278059008) || aord .f64 X (some 14064741636278059008) == some .eq)))
theorem sineA {x : Nat} {X : Option Nat} (hx : cl .f64 x = X) (h : sinAll X = true) (w : World) : Calls Try.prog 76 #[.float .f64 x] w (RetG (sineX X) w) := by
  unfold sinAll at h
  simp only [Bool.and_eq_true] at h
  exact sine hx h.1 w
theorem sineW {x : Nat} {X : Option Nat} (hx : cl .f64 x = X) (h : sinAll X = true) (w : World) : Calls Try.prog 56 #[.float .f64 x] w (RetG (sineX X) w) := by
  unfold sinAll at h
  simp only [Bool.and_eq_true, Bool.not_eq_true'] at h
  exact l01SineWide hx h.1 h.2.1 h.2.2.1 h.2.2.2 w

/-- What all tests on the way answer. -/
def phOk (X : Option Nat) (n : Nat) : Bool :=
  finB .f64 X && (smallB X && (!geB64 (absX X) (some 4841369599423283200) && (!geB64 X (some 4841369599423283200) && (!(ltB64 X (some 14064741636278059008) || aord .f64 X (some 14064741636278059008) == some .eq) &&
  (decide (n ≤ 3) && ((List.range n).all (fun i => geB64 (lessQ (fracX X) i) quarter64) && (!geB64 (lessQ (fracX X) n) quarter64 &&
  (sinAll (ab .sub .f64 quarter64 (lessQ (fracX X) n)) && (sinAll (lessQ (fracX X) n) && (fitsB (phX X n).1 && fitsB (phX X n).2))))))))))

/-- A 64-bit test '>=' that is settled. -/
theorem ge_set {X Y : Option Nat} {b : Bool} (h : geB64 X Y = b) : (aord .f64 X Y == some .gt || aord .f64 X Y == some .eq) = b := h

set_option maxRecDepth 8000 in
set_option maxHeartbeats 2000000 in
theorem phasor {x : Nat} {X : Option Nat} (hx : cl .f64 x = X) (n : Nat) (h : phOk X n = true) (w : World) : Calls Try.prog 58 #[.float .f64 x] w (RetCD (nar (phX X n).1) (nar (phX X n).2) w) := by
  unfold phOk at h
  simp only [Bool.and_eq_true, Bool.not_eq_true', decide_eq_true_eq, List.all_eq_true, List.mem_range] at h
  obtain ⟨h1, h2, h3, _, _, hn, h6, h7, h8, h9, h10, h11⟩ := h
  have f1 := fits_of h10
  have f2 := fits_of h11
  have ci := fun W => fin64 x W
  rw [hx, h1] at ci
  have ca := fun W => mathAbs x W
  have hab := cl_abs hx
  have cf := fun W => fraction hx h2 W
  unfold geB64 at h3
  simp only [Bool.or_eq_false_iff] at h3
  obtain ⟨h3, h3'⟩ := h3
  unfold phX at f1 f2 ⊢
  clear h10 h11 h1 h2 hx
  generalize fracX X = F at *
  generalize absX X = A at *
  generalize x % 2 ^ 63 = ax at *
  go_enter Try.func58, Try.ntmps58
  go_wp2_with (first | (go_at_call 65; refine (ci _).mono ?_; rintro e w1 ⟨rfl, d1, rfl⟩) | (go_at_call 64; refine (ca _).mono ?_; rintro e w1 ⟨rfl, rfl⟩) | (go_at_call 75; refine (cf _).mono ?_; rintro e w1 ⟨f, rfl, hf, d2, rfl⟩))
  go_loopw [4, 5] (fun fv q wr => ∃ (i : Nat) (b : Nat), i ≤ n ∧ q = .int .i64 (i : Int) ∧ fv = .float .f64 b ∧ cl .f64 b = lessQ F i ∧ Drew w wr) (fun _ q _ => n - (intOf q).toNat)
  case atStart => exact ⟨0, _, Nat.zero_le _, rfl, rfl, hf, Drew.n _ _⟩
  case round =>
    obtain ⟨i, b, hi, rfl, rfl, hb, d3, rfl⟩ := hrel
    clear h3 h3' hab ci ca cf hf
    by_cases hlt : i < n
    · have hg := ge_set (h6 i hlt)
      have hs : ab .sub .f64 (lessQ F i) quarter64 = lessQ F (i + 1) := rfl
      go_wp2_with (refine wpList_flc rfl rfl rfl rfl rfl hb cl_quarter64 ?_; intro r d hr)
      rw [hs] at hr
      go_roundw
      case rel => exact ⟨i + 1, _, by omega, by go_num, rfl, hr, Drew.n _ _⟩
      case measure => simp [intOf]; omega
    · obtain rfl : i = n := by omega
      have hg := h7
      unfold geB64 at hg
      simp only [Bool.or_eq_false_iff] at hg
      obtain ⟨hg, hg'⟩ := hg
      clear h6 h7
      have cC := fun (y : Nat) (hy : cl .f64 y = ab .sub .f64 quarter64 (lessQ F i)) W => sineA hy h8 W
      have cS := fun W => sineA hb h9 W
      generalize hC0 : ab .sub .f64 quarter64 (lessQ F i) = C0 at *
      generalize lessQ F i = G at *
      generalize sineX C0 = C at *
      generalize sineX G = S at *
      clear h8 h9 hlt hi
      have hc : i = 0 ∨ i = 1 ∨ i = 2 ∨ i = 3 := by omega
      clear hn
      rcases hc with rfl | rfl | rfl | rfl
      all_goals
        simp only [turnQ] at f1 f2 ⊢
        go_wp2_with (refine wpList_flc rfl rfl rfl rfl rfl cl_quarter64 hb ?_; intro r d hr)
        rw [hC0] at hr
        refine (cC _ hr _).mono ?_
        rintro e w1 ⟨c, rfl, hcc, d4, rfl⟩
        go_wp2_with fail
        refine (cS _).mono ?_
        rintro e w1 ⟨s, rfl, hss, d5, rfl⟩
        clear hr hb hg hg' cC cS
        go_wp2_with (first | (refine wpList_flc rfl rfl rfl rfl rfl (cl_zero _) (by assumption) ?_; intro r d hr) | (refine wpList_narc rfl rfl Try.underlying31 Try.underlying25 rfl (f1.of (by assumption)) (by assumption) ?_; intro r d hr) | (refine wpList_narc rfl rfl Try.underlying31 Try.underlying25 rfl (f2.of (by assumption)) (by assumption) ?_; intro r d hr))
        go_ret
        exact ⟨_, _, rfl, by assumption, by assumption, Drew.n _ _⟩

set_option maxRecDepth 8000 in
set_option maxHeartbeats 2000000 in
theorem l01Phasor {x : Nat} {X : Option Nat} (hx : cl .f64 x = X) (n : Nat) (h : phOk X n = true) (w : World) : Calls Try.prog 20 #[.float .f64 x] w (RetCD (nar (phX X n).1) (nar (phX X n).2) w) := by
  unfold phOk at h
  simp only [Bool.and_eq_true, Bool.not_eq_true', decide_eq_true_eq, List.all_eq_true, List.mem_range] at h
  obtain ⟨h1, h2, _, h4, h5, hn, h6, h7, h8, h9, h10, h11⟩ := h
  have f1 := fits_of h10
  have f2 := fits_of h11
  have hI := small_int hx h2
  have cI := fun (W : World) => run_convert_float_int (P := Try.prog) (w := W) 31 2 .f64 .i64 x 0 (by rw [Try.underlying31]; rfl) Try.underlying2 hI
  unfold finB at h1
  have h1' : (aord .f64 (ab .sub .f64 X X) (some 0) != some .eq) = false := by rw [bne, h1]; rfl
  unfold geB64 at h4
  unfold ltB64 at h5
  simp only [Bool.or_eq_false_iff] at h4 h5
  obtain ⟨h4, h4'⟩ := h4
  obtain ⟨h5, h5'⟩ := h5
  unfold phX at f1 f2 ⊢
  clear h10 h11 h2 hI
  cases hlt0 : (aord .f64 (ab .sub .f64 X (some 0)) (some 0) == some .lt)
  all_goals
    have hF : fracX X = if (aord .f64 (ab .sub .f64 X (some 0)) (some 0) == some .lt) then ab .add .f64 (ab .sub .f64 X (some 0)) one64 else ab .sub .f64 X (some 0) := rfl
    rw [hlt0] at hF
    simp only [Bool.false_eq_true, if_false, if_true] at hF
    generalize fracX X = F at *
    go_enter Try.func20, Try.ntmps20
    go_wp2_with (first | (refine wpList_flc rfl rfl rfl rfl rfl (by assumption) (by first | exact cl_zero _ | exact cl_one64 | assumption) ?_; intro r d hr))
    rw [← hF] at hr
    go_loopw [3, 4] (fun fv q wr => ∃ (i : Nat) (b : Nat), i ≤ n ∧ q = .int .i64 (i : Int) ∧ fv = .float .f64 b ∧ cl .f64 b = lessQ F i ∧ Drew w wr) (fun _ q _ => n - (intOf q).toNat)
    case atStart => exact ⟨0, _, Nat.zero_le _, rfl, rfl, hr, Drew.n _ _⟩
    case round =>
      obtain ⟨i, b, hi, rfl, rfl, hb, d3, rfl⟩ := hrel
      clear h1 h1' h4 h4' h5 h5' hlt0 cI hr hF hx
      by_cases hlt : i < n
      · have hg := ge_set (h6 i hlt)
        have hs : ab .sub .f64 (lessQ F i) quarter64 = lessQ F (i + 1) := rfl
        go_wp2_with (refine wpList_flc rfl rfl rfl rfl rfl hb cl_quarter64 ?_; intro r d hr)
        rw [hs] at hr
        go_roundw
        case rel => exact ⟨i + 1, _, by omega, by go_num, rfl, hr, Drew.n _ _⟩
        case measure => simp [intOf]; omega
      · obtain rfl : i = n := by omega
        have hg := h7
        unfold geB64 at hg
        simp only [Bool.or_eq_false_iff] at hg
        obtain ⟨hg, hg'⟩ := hg
        clear h6 h7
        have cC := fun (y : Nat) (hy : cl .f64 y = ab .sub .f64 quarter64 (lessQ F i)) W => sineW hy h8 W
        have cS := fun W => sineW hb h9 W
        generalize hC0 : ab .sub .f64 quarter64 (lessQ F i) = C0 at *
        generalize lessQ F i = G at *
        generalize sineX C0 = C at *
        generalize sineX G = S at *
        clear h8 h9 hlt hi
        have hc : i = 0 ∨ i = 1 ∨ i = 2 ∨ i = 3 := by omega
        clear hn
        rcases hc with rfl | rfl | rfl | rfl
        all_goals
          simp only [turnQ] at f1 f2 ⊢
          go_wp2_with (refine wpList_flc rfl rfl rfl rfl rfl cl_quarter64 hb ?_; intro r d hr)
          rw [hC0] at hr
          refine (cC _ hr _).mono ?_
          rintro e w1 ⟨c, rfl, hcc, d4, rfl⟩
          go_wp2_with fail
          refine (cS _).mono ?_
          rintro e w1 ⟨s, rfl, hss, d5, rfl⟩
          clear hr hb hg hg' cC cS
          go_wp2_with (first | (refine wpList_flc rfl rfl rfl rfl rfl (cl_zero _) (by assumption) ?_; intro r d hr) | (go_at_call 57; refine (l01Narrow f1 (by assumption) _).mono ?_; rintro e w1 ⟨p, rfl, hp, d6, rfl⟩) | (go_at_call 57; refine (l01Narrow f2 (by assumption) _).mono ?_; rintro e w1 ⟨p, rfl, hp, d6, rfl⟩))
          go_ret
          exact ⟨_, _, rfl, by assumption, by assumption, Drew.n _ _⟩

theorem specPhasor {x : Nat} {X : Option Nat} (hx : cl .f64 x = X) (n : Nat) (h : phOk X n = true) (w : World) : Calls Try.prog 8 #[.float .f64 x] w (RetCD (nar (phX X n).1) (nar (phX X n).2) w) := by
  have c := fun W => l01Phasor hx n h W
  generalize nar (phX X n).1 = A at *
  generalize nar (phX X n).2 = B at *
  clear hx h
  go_enter Try.func8, Try.ntmps8
  go_wp2_with (go_at_call 20; refine (c _).mono ?_; rintro e w1 ⟨p, q, rfl, hp, hq, d6, rfl⟩)
  go_ret
  exact ⟨_, _, rfl, hp, hq, Drew.n _ _⟩
end Go.Proofs.Yticoikchcmmpfaa
