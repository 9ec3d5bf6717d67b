/-
  The contracts of the small functions on floats: finite, lists of finite numbers, copies, comparisons.
-/
import Derived.Test.YtikdagkopalojaaProg
import Derived.Test.YtikdagkopalojaaMem
import Derived.Test.YtikdagkopalojaaQS
namespace Go.Proofs.Ytikdagkopalojaa
open Go.RowKit
attribute [local go_sem] order_cl cl_zero cl_one cl_two aord_none

theorem fin64 (x : Nat) (w : World) : Calls Try.prog 74 #[.float .f64 x] w (RetD (.bool (finB .f64 (cl .f64 x))) w) := by
  go_enter Try.func74, Try.ntmps74
  go_wp2_with (refine wpList_fl rfl rfl rfl rfl rfl ?_; intro r d hr)
  go_ret
  exact ⟨rfl, Drew.n _ _⟩

theorem fin64_wid {x r : Nat} (h : cl .f64 r = wid (cl .f32 x)) (w : World) : Calls Try.prog 74 #[.float .f64 r] w (RetD (.bool (isNum .f32 (cl .f32 x))) w) :=
  (fin64 r w).mono fun e w' he => by rw [h, finB_wid h] at he; exact he

theorem isFin (x : Nat) (w : World) : Calls Try.prog 56 #[.float .f32 x] w (RetD (.bool (isNum .f32 (cl .f32 x))) w) := by
  go_enter Try.func56, Try.ntmps56
  go_wp2_with (first | (go_at_call 74; refine (fin64_wid (by assumption) _).mono ?_; rintro e w' ⟨rfl, d, rfl⟩) | (refine wpList_wid rfl rfl Try.underlying37 Try.underlying42 rfl ?_; intro r d hr))
  go_ret
  exact ⟨rfl, Drew.n _ _⟩

theorem l01Finite (x : Nat) (w : World) : Calls Try.prog 54 #[.float .f32 x] w (RetD (.bool (isNum .f32 (cl .f32 x))) w) := by
  go_enter Try.func54, Try.ntmps54
  go_wp2_with (refine wpList_fl rfl rfl rfl rfl rfl ?_; intro r d hr)
  go_ret
  exact ⟨by rw [← finB_eq]; rfl, Drew.n _ _⟩

theorem l02Finite (a : Option Addr) (len cap : Nat) (zs : List Nat) (w : World) (h : FlS w a len zs) : Calls Try.prog 65 #[.slice a len cap] w (RetD (.bool (finAll zs)) w) := by
  have hm := h.max
  go_enter Try.func65, Try.ntmps65
  go_wp2
  go_loopw [3] (fun i wr => ∃ k : Nat, k ≤ len ∧ i = .int .i64 k ∧ Hid (finAll (zs.take k) = true) ∧ Drew w wr) (fun i _ => len - (intOf i).toNat)
  case atStart => exact ⟨0, Nat.zero_le _, rfl, by simp [Hid, finAll], Drew.refl _⟩
  case round =>
    obtain ⟨k, hk, rfl, hf, d, rfl⟩ := hrel
    by_cases hlt : k < len
    · obtain ⟨b, off, z, rfl, hb, hck, hzz⟩ := h.get hlt
      cases hz : isNum .f32 (cl .f32 z)
      · go_wp2_with (go_at_call 54; refine (l01Finite _ _).mono ?_; rintro e w' ⟨rfl, d, rfl⟩)
        go_ret
        exact ⟨by rw [finAll_no (by rw [h.len]; exact hlt) hzz hz]; rfl, Drew.n _ _⟩
      · go_wp2_with (go_at_call 54; refine (l01Finite _ _).mono ?_; rintro e w' ⟨rfl, d, rfl⟩)
        go_roundw
        case rel => exact ⟨k + 1, by omega, by go_num, finAll_step (by rw [h.len]; exact hlt) hf hzz hz, Drew.n _ _⟩
        case measure => simp [intOf]; omega
    · go_wp2
      go_ret
      exact ⟨by rw [finAll_full (by rw [h.len]; omega) hf]; rfl, Drew.n _ _⟩

theorem areFinite (a : Option Addr) (len cap : Nat) (zs : List Nat) (w : World) (h : FlS w a len zs) : Calls Try.prog 51 #[.slice a len cap] w (RetD (.bool (finAll zs)) w) := by
  have hm := h.max
  go_enter Try.func51, Try.ntmps51
  go_wp2
  go_loopw [7] (fun i wr => ∃ k : Nat, k ≤ len ∧ i = .int .i64 k ∧ Hid (finAll (zs.take k) = true) ∧ Drew w wr) (fun i _ => len - (intOf i).toNat)
  case atStart => exact ⟨0, Nat.zero_le _, rfl, by simp [Hid, finAll], Drew.refl _⟩
  case round =>
    obtain ⟨k, hk, rfl, hf, d, rfl⟩ := hrel
    by_cases hlt : k < len
    · obtain ⟨b, off, z, rfl, hb, hck, hzz⟩ := h.get hlt
      cases hz : isNum .f32 (cl .f32 z)
      · go_wp2_with (go_at_call 56; refine (isFin _ _).mono ?_; rintro e w' ⟨rfl, d, rfl⟩)
        go_ret
        exact ⟨by rw [finAll_no (by rw [h.len]; exact hlt) hzz hz]; rfl, Drew.n _ _⟩
      · go_wp2_with (go_at_call 56; refine (isFin _ _).mono ?_; rintro e w' ⟨rfl, d, rfl⟩)
        go_roundw
        case rel => exact ⟨k + 1, by omega, by go_num, finAll_step (by rw [h.len]; exact hlt) hf hzz hz, Drew.n _ _⟩
        case measure => simp [intOf]; omega
    · go_wp2
      go_ret
      exact ⟨by rw [finAll_full (by rw [h.len]; omega) hf]; rfl, Drew.n _ _⟩

theorem sameFloat (x y : Nat) (h : cl .f64 x = cl .f64 y) (w : World) : Calls Try.prog 23 #[.float .f64 x, .float .f64 y] w (RetD (.bool true) w) := by
  cases hx : cl .f64 x with
  | none =>
    have hy : cl .f64 y = none := by rw [← h, hx]
    clear h
    go_enter Try.func23, Try.ntmps23
    go_wp2
    go_ret
    exact ⟨rfl, Drew.refl _⟩
  | some x' =>
    obtain rfl := cl_some hx
    rw [hx] at h
    obtain rfl := cl_some h.symm
    clear h
    have hs := aord_self hx
    by_cases hz : aord .f64 (some x') (some 0) = some .eq
    all_goals
      go_enter Try.func23, Try.ntmps23
      go_wp2_with (refine wpList_fl rfl rfl rfl rfl rfl ?_; intro r d hr)
      go_ret
      exact ⟨by simp, (by first | exact Drew.n _ _ | exact Drew.refl _)⟩

/-- A new slice with these floats. -/
def NewFl (zs : List Nat) (w : World) (e : Ending) (w' : World) : Prop :=
  ∃ g, e = .returned (.slice (some ⟨g, 0, none⟩) zs.length zs.length) ∧ w.heap.size ≤ g ∧ Own 37 w' g (fls zs) ∧ Below w.heap.size w w'

theorem infoF : (Try.prog.info? 37).map (fun i => (i.zero, i.size, i.bytes)) = some (some (.float .f32 0), 1, 4) := by kernel_rfl

theorem toFloat32S (a : Option Addr) (len cap : Nat) (zs : List Nat) (w : World) (h : FlS w a len zs) : Calls Try.prog 38 #[.slice a len cap] w (NewFl zs w) := by
  have hm := h.max
  obtain ⟨i0, hi, hz0, hz1, hz2⟩ := info_parts infoF
  go_enter Try.func38, Try.ntmps38
  go_wp2_with (at_make; refine wpList_make_full _ rfl (.tmp 6) (.tmp 6) 36 rfl w.heap.size 37 i0 (.float .f32 0) 1 Try.underlying36 hi hz0 hz1 .i64 .i64 _ _ len rfl rfl rfl rfl (by rw [hz2]; omega) (by unfold maxLen; omega) (Nat.le_refl _) ?_; intro w1 hown hgrow)
  have ho : Own 37 w1 w.heap.size (fls (zs.take 0 ++ List.replicate (len - 0) 0)) := by
    have := Own.of_row hown
    rw [fls_made] at this
    simpa using this
  have hb1 : Below w.heap.size w w1 := (Below.refl _ _).grown hgrow (Nat.le_refl _) (by simp)
  clear hown hgrow hi hz0 hz1 hz2
  go_loopw [4] (fun i wr => ∃ k : Nat, k ≤ len ∧ i = .int .i64 k ∧ Own 37 wr w.heap.size (fls (zs.take k ++ List.replicate (len - k) 0)) ∧ Below w.heap.size w wr) (fun i _ => len - (intOf i).toNat)
  case atStart => exact ⟨0, Nat.zero_le _, rfl, ho, hb1⟩
  case round =>
    obtain ⟨k, hk, rfl, ho', hb⟩ := hrel
    clear ho hb1
    by_cases hlt : k < len
    · obtain ⟨b, off, z, rfl, hbb, hck, hzz⟩ := h.get hlt
      have hck2 : wr.cell? ⟨b, off + k, none⟩ = some (.float .f32 z) := (hb.cell (by exact hbb)).trans hck
      have hd : wr.cell? ⟨w.heap.size, k, none⟩ = some (.float .f32 0) := ho'.at (fls_mid h.len hlt)
      have hf := ho'.free k
      go_wp2
      go_roundw
      case rel =>
        refine ⟨k + 1, by omega, by go_num, ?_, hb.setCell (by simp) _⟩
        rw [← fls_set hlt (by rw [h.len]; exact hlt) hzz.out]
        exact ho'.set _ _
      case measure => simp [intOf]; omega
    · go_wp2
      go_ret
      obtain rfl : k = len := by omega
      refine ⟨_, by rw [h.len]; rfl, Nat.le_refl _, ?_, hb⟩
      have := h.len
      rw [List.take_of_length_le (by omega)] at ho'
      simpa using ho'

/-- The same classes. -/
def Same (xs ys : List Nat) : Prop := xs.map (cl .f32) = ys.map (cl .f32)
theorem Same.len {xs ys : List Nat} (h : Same xs ys) : xs.length = ys.length := by simpa using congrArg List.length h
theorem Same.get {xs ys : List Nat} (h : Same xs ys) (k : Nat) : cl .f32 (xs.getD k 0) = cl .f32 (ys.getD k 0) := by
  have := congrArg (fun l => l.getD k (cl .f32 0)) h
  simpa [List.getD_eq_getElem?_getD, List.getElem?_map, Option.getD_map] using this
theorem Same.refl (xs : List Nat) : Same xs xs := Eq.refl (xs.map (cl .f32))

theorem eqFloat32S (a a' : Option Addr) (len cap cap' : Nat) (zs ys : List Nat) (w : World) (h : FlS w a len zs) (h' : FlS w a' len ys) (hs : Same zs ys) : Calls Try.prog 22 #[.slice a len cap, .slice a' len cap'] w (RetD (.bool true) w) := by
  have hm := h.max
  go_enter Try.func22, Try.ntmps22
  go_wp2
  go_loopw [5] (fun i wr => ∃ k : Nat, k ≤ len ∧ i = .int .i64 k ∧ Drew w wr) (fun i _ => len - (intOf i).toNat)
  case atStart => exact ⟨0, Nat.zero_le _, rfl, Drew.refl _⟩
  case round =>
    obtain ⟨k, hk, rfl, d, rfl⟩ := hrel
    by_cases hlt : k < len
    · obtain ⟨b, off, z, rfl, hbb, hck, hzz⟩ := h.get hlt
      obtain ⟨b', off', z', rfl, hbb', hck', hzz'⟩ := h'.get hlt
      have hcl : Hid (cl .f32 z = cl .f32 z') := by have := hs.get k; rw [hzz.out, hzz'.out] at this; exact this
      go_wp2
      refine QS.wp_region (.bool true) (by kernel_rfl) (by kernel_rfl) ?_
      iterate 4 (refine QS.det (fun K hK => ?_); go_simp; refine hK _ ?_; clear hK K)
      refine QS.wide rfl rfl Try.underlying37 Try.underlying42 rfl ?_
      intro r1 hr1
      iterate 4 (refine QS.det (fun K hK => ?_); go_simp; refine hK _ ?_; clear hK K)
      refine QS.wide rfl rfl Try.underlying37 Try.underlying42 rfl ?_
      intro r2 hr2
      refine QS.call (f := 23) (args := #[.float .f64 r1, .float .f64 r2]) rfl (fun n => ?_) (fun n => sameFloat _ _ (by rw [hr1, hr2, hcl.out]) _) ?_
      · go_simp
      refine QS.det (fun K hK => ?_); go_simp; refine hK _ ?_; clear hK K
      refine QS.nil ?_
      intro nq
      go_wp2
      go_roundw
      case rel => exact ⟨k + 1, by omega, by go_num, Drew.n _ _⟩
      case measure => simp [intOf]; omega
    · go_wp2
      go_ret
      exact ⟨rfl, Drew.n _ _⟩

theorem inI (n lo hi : Int) (w : World) : Calls Try.prog 42 #[.int .i64 n, .int .i64 lo, .int .i64 hi] w (fun e w' => e = .returned (.bool (decide (lo ≤ n ∧ n ≤ hi))) ∧ w = w') := by
  by_cases h1 : lo ≤ n <;> by_cases h2 : n ≤ hi
  all_goals
    go_enter Try.func42, Try.ntmps42
    go_wp2
    go_ret
    exact ⟨by simp [*], rfl⟩
theorem inS (n lo hi : Int) (w : World) : Calls Try.prog 53 #[.int .i64 n, .int .i64 lo, .int .i64 hi] w (fun e w' => e = .returned (.bool (decide (lo ≤ n ∧ n ≤ hi))) ∧ w = w') := by
  by_cases h1 : lo ≤ n <;> by_cases h2 : n ≤ hi
  all_goals
    go_enter Try.func53, Try.ntmps53
    go_wp2
    go_ret
    exact ⟨by simp [*], rfl⟩
end Go.Proofs.Ytikdagkopalojaa
