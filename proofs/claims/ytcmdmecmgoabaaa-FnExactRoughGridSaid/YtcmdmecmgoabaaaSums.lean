/-
  SharesAbove and MassAbove: what the program's and the reference's functions compute.
-/
import Derived.Test.YtcmdmecmgoabaaaGrid
namespace Go.Proofs.Ytcmdmecmgoabaaa
open Go.RowKit
attribute [local go_sem] order_cl cl_zero cl_one cl_two aord_none

/-- A call that hands back a float and a bool, and makes no more than new memory. -/
def RetBF (X : Option Nat) (b : Bool) (w : World) (e : Ending) (w' : World) : Prop := ∃ r c, e = .returned (.tuple #[.float .f32 r, .bool c]) ∧ c = b ∧ cl .f32 r = X ∧ Below w.heap.size w w'

theorem l02Number (x : Nat) (w : World) : Calls Try.prog 48 #[.float .f32 x] w (RetFB (numIf (cl .f32 x) true) (isNum .f32 (cl .f32 x)) w) := by
  cases hx : isNum .f32 (cl .f32 x)
  all_goals
    go_enter Try.func48, Try.ntmps48
    go_wp2_with (go_at_call 63; refine (l01Finite _ _).mono ?_; rintro e w' ⟨rfl, d, rfl⟩)
    go_ret2
    exact ⟨_, _, rfl, by simp, by simp [numIf, hx, cl_zero], Drew.n _ _⟩
theorem finiteC (x : Nat) (b : Bool) (w : World) : Calls Try.prog 50 #[.float .f32 x, .bool b] w (RetFB (numIf (cl .f32 x) b) (b && isNum .f32 (cl .f32 x)) w) := by
  cases b <;> cases hx : isNum .f32 (cl .f32 x)
  all_goals
    go_enter Try.func50, Try.ntmps50
    go_wp2_with (go_at_call 64; refine (isFin _ _).mono ?_; rintro e w' ⟨rfl, d, rfl⟩)
    go_ret2
    exact ⟨_, _, rfl, by simp, by simp [numIf, hx, cl_zero], (by first | exact Drew.n _ _ | exact Drew.refl _)⟩

/-- X where b holds, else +0. -/
def ifB (b : Bool) (X : Option Nat) : Option Nat := if b then X else some 0

/-- How many are at least L. -/
def cntGe (L : Option Nat) (zs : List Nat) : Nat := (zs.filter fun z => geB (cl .f32 z) L).length
theorem cntGe_le (L : Option Nat) (zs : List Nat) : cntGe L zs ≤ zs.length := List.length_filter_le _ _
theorem cntGe_step {L : Option Nat} {zs : List Nat} {k z : Nat} (hk : k < zs.length) (hz : Hid (zs.getD k 0 = z)) : cntGe L (zs.take (k + 1)) = cntGe L (zs.take k) + (if geB (cl .f32 z) L then 1 else 0) := by
  unfold cntGe
  rw [List.take_succ_eq_append_getElem hk, List.filter_append, List.length_append, ← hz.out, getD_at hk]
  cases h : geB (cl .f32 zs[k]) L <;> simp [h]

def nearF (n : Int) : Option Nat := cl .f32 (floatOfInt .f32 n)
def shareF (L : Option Nat) (zs : List Nat) : Option Nat := ab .quo .f32 (nearF (cntGe L zs)) (nearF zs.length)

def aboveB (wide high : Int) (zs : List Nat) (L : Option Nat) : Bool := validB wide high zs && isNum .f32 L

theorem specSharesAbove (wide high : Int) (a : Option Addr) (len cap : Nat) (zs : List Nat) (l : Nat) (w : World) (h : FlS w a len zs) :
    Calls Try.prog 24 #[GV wide high a len cap, .float .f32 l] w (RetBF (ifB (aboveB wide high zs (cl .f32 l)) (shareF (cl .f32 l) zs)) (aboveB wide high zs (cl .f32 l)) w) := by
  have hm := h.max
  have hb : ∀ o, Below w.heap.size w (w.alloc o) := fun o => (Below.refl _ _).alloc (Nat.le_refl _) _
  unfold aboveB GV
  cases hv : validB wide high zs <;> cases hn : isNum .f32 (cl .f32 l)
  case true.true =>
    go_enter Try.func24, Try.ntmps24
    go_wp2_with (first | (go_at_call 54; refine (l06Is _ _ _ _ _ _ _ _ (at_new _ _ _ _ _ _ _) (h.below (hb _))).mono ?_; rw [hv]; rintro e w' ⟨rfl, d, rfl⟩) | (go_at_call 63; refine (l01Finite _ _).mono ?_; rw [hn]; rintro e w' ⟨rfl, d, rfl⟩))
    go_loopw [6, 7] (fun n i wr => ∃ k : Nat, k ≤ len ∧ i = .int .i64 k ∧ n = .int .i64 (cntGe (cl .f32 l) (zs.take k)) ∧ Drew (w.alloc (.cells #[.int .i64 wide, .int .i64 high, .slice a len cap] 33)) wr) (fun _ i _ => len - (intOf i).toNat)
    case atStart => exact ⟨0, Nat.zero_le _, rfl, rfl, Drew.n _ _⟩
    case round =>
      obtain ⟨k, hk, rfl, rfl, d, rfl⟩ := hrel
      by_cases hlt : k < len
      · obtain ⟨b, off, z, rfl, hbb, hck, hzz⟩ := h.get hlt
        have hstep := Lib.hid (cntGe_step (L := cl .f32 l) (by rw [h.len]; exact hlt) hzz)
        have hc := cntGe_le (cl .f32 l) (zs.take k)
        have hc2 : (zs.take k).length ≤ k := List.length_take_le _ _
        have hck2 : (w.alloc (.cells #[.int .i64 wide, .int .i64 high, .slice (some ⟨b, off, none⟩) len cap] 33)).cell? ⟨b, off + k, none⟩ = some (.float .f32 z) := ((hb _).cell (by exact hbb)).trans hck
        generalize cntGe (cl .f32 l) (zs.take k) = c at *
        cases hg : geB (cl .f32 z) (cl .f32 l)
        all_goals
          have hg' : (aord .f32 (cl .f32 z) (cl .f32 l) == some .gt || aord .f32 (cl .f32 z) (cl .f32 l) == some .eq) = _ := hg
          clear hck
          go_wp2
          go_roundw
          case rel => exact ⟨k + 1, by omega, by go_num, by rw [hstep.out, hg]; go_num, Drew.n _ _⟩
          case measure => simp [intOf]; omega
      · obtain rfl : k = len := by omega
        have hfull : Hid (zs.take k = zs) := List.take_of_length_le (by rw [h.len]; omega)
        go_wp2_with (refine wpList_fl rfl rfl rfl rfl rfl ?_; intro r d hr)
        go_ret2
        refine ⟨_, _, rfl, rfl, ?_, below_drewN (hb _) _⟩
        rw [hr, hfull.out]
        simp only [ifB, Bool.and_self, if_true, shareF, nearF, h.len]
  all_goals
    go_enter Try.func24, Try.ntmps24
    go_wp2_with (first | (go_at_call 54; refine (l06Is _ _ _ _ _ _ _ _ (at_new _ _ _ _ _ _ _) (h.below (hb _))).mono ?_; rw [hv]; rintro e w' ⟨rfl, d, rfl⟩) | (go_at_call 63; refine (l01Finite _ _).mono ?_; rw [hn]; rintro e w' ⟨rfl, d, rfl⟩))
    go_ret2
    exact ⟨_, _, rfl, rfl, cl_zero _, below_drewN (hb _) _⟩

theorem implSharesAbove (wide high : Int) (a : Option Addr) (len cap : Nat) (zs : List Nat) (l : Nat) (w : World) (h : FlS w a len zs) :
    Calls Try.prog 25 #[GV wide high a len cap, .float .f32 l] w (RetBF (ifB (aboveB wide high zs (cl .f32 l)) (shareF (cl .f32 l) zs)) (aboveB wide high zs (cl .f32 l)) w) := by
  have hm := h.max
  have hb : ∀ o, Below w.heap.size w (w.alloc o) := fun o => (Below.refl _ _).alloc (Nat.le_refl _) _
  unfold aboveB GV
  cases hv : validB wide high zs <;> cases hn : isNum .f32 (cl .f32 l)
  case true.true =>
    go_enter Try.func25, Try.ntmps25
    go_wp2_with fail
    refine (implValidGrid _ _ _ _ _ _ _ (h.below (hb _))).mono ?_
    rw [hv]
    rintro e w1 ⟨rfl, hb1⟩
    have hA := (Lies.new (wide := wide) (high := high) (cap := cap) 33 h).next hb1
    have hB := (hb (.cells #[.int .i64 wide, .int .i64 high, .slice a len cap] 33)).trans (hb1.mono (by simp))
    obtain ⟨c0, c1, c2⟩ := hA.at'
    have hF := hA.fl
    clear hb1 hA
    go_wp2_with (go_at_call 64; refine (isFin _ _).mono ?_; rw [hn]; rintro e w' ⟨rfl, d, rfl⟩)
    go_loopw [6, 20] (fun n i wr => ∃ k : Nat, k ≤ len ∧ i = .int .i64 k ∧ n = .int .i64 (cntGe (cl .f32 l) (zs.take k)) ∧ Drew w1 wr) (fun _ i _ => len - (intOf i).toNat)
    case atStart => exact ⟨0, Nat.zero_le _, rfl, rfl, Drew.n _ _⟩
    case round =>
      obtain ⟨k, hk, rfl, rfl, d, rfl⟩ := hrel
      by_cases hlt : k < len
      · obtain ⟨b, off, z, rfl, hbb, hck, hzz⟩ := hF.get hlt
        have hstep := Lib.hid (cntGe_step (L := cl .f32 l) (by rw [h.len]; exact hlt) hzz)
        have hc := cntGe_le (cl .f32 l) (zs.take k)
        have hc2 : (zs.take k).length ≤ k := List.length_take_le _ _
        generalize cntGe (cl .f32 l) (zs.take k) = c at *
        cases hg : geB (cl .f32 z) (cl .f32 l)
        all_goals
          have hg' : (aord .f32 (cl .f32 z) (cl .f32 l) == some .gt || aord .f32 (cl .f32 z) (cl .f32 l) == some .eq) = _ := hg
          go_wp2
          go_roundw
          case rel => exact ⟨k + 1, by omega, by go_num, by rw [hstep.out, hg]; go_num, Drew.n _ _⟩
          case measure => simp [intOf]; omega
      · obtain rfl : k = len := by omega
        have hfull : Hid (zs.take k = zs) := List.take_of_length_le (by rw [h.len]; omega)
        go_wp2_with (refine wpList_fl rfl rfl rfl rfl rfl ?_; intro r d hr)
        go_ret2
        refine ⟨_, _, rfl, rfl, ?_, below_drewN hB _⟩
        rw [hr, hfull.out]
        simp only [ifB, Bool.and_self, if_true, shareF, nearF, h.len]
  all_goals
    go_enter Try.func25, Try.ntmps25
    go_wp2_with fail
    refine (implValidGrid _ _ _ _ _ _ _ (h.below (hb _))).mono ?_
    rw [hv]
    rintro e w1 ⟨rfl, hb1⟩
    have hB := (hb (.cells #[.int .i64 wide, .int .i64 high, .slice a len cap] 33)).trans (hb1.mono (by simp))
    go_wp2_with (go_at_call 64; refine (isFin _ _).mono ?_; rw [hn]; rintro e w' ⟨rfl, d, rfl⟩)
    go_ret2
    exact ⟨_, _, rfl, rfl, cl_zero _, (by first | exact below_drewN hB _ | exact hB)⟩

/-- The sum of what is above L. -/
def massF (L : Option Nat) (zs : List Nat) : Option Nat := zs.foldl (fun s z => if gtB (cl .f32 z) L then ab .add .f32 s (ab .sub .f32 (cl .f32 z) L) else s) (some 0)
theorem massF_step {L : Option Nat} {zs : List Nat} {k z : Nat} (hk : k < zs.length) (hz : Hid (zs.getD k 0 = z)) : massF L (zs.take (k + 1)) = if gtB (cl .f32 z) L then ab .add .f32 (massF L (zs.take k)) (ab .sub .f32 (cl .f32 z) L) else massF L (zs.take k) := by
  unfold massF
  rw [List.take_succ_eq_append_getElem hk, List.foldl_append, ← hz.out, getD_at hk]
  rfl

theorem specMassAbove (wide high : Int) (a : Option Addr) (len cap : Nat) (zs : List Nat) (l : Nat) (w : World) (h : FlS w a len zs) :
    Calls Try.prog 30 #[GV wide high a len cap, .float .f32 l] w (RetBF (numIf (massF (cl .f32 l) zs) (aboveB wide high zs (cl .f32 l))) (aboveB wide high zs (cl .f32 l) && isNum .f32 (massF (cl .f32 l) zs)) w) := by
  have hm := h.max
  have hb : ∀ o, Below w.heap.size w (w.alloc o) := fun o => (Below.refl _ _).alloc (Nat.le_refl _) _
  unfold aboveB GV
  cases hv : validB wide high zs <;> cases hn : isNum .f32 (cl .f32 l)
  case true.true =>
    go_enter Try.func30, Try.ntmps30
    go_wp2_with (first | (go_at_call 54; refine (l06Is _ _ _ _ _ _ _ _ (at_new _ _ _ _ _ _ _) (h.below (hb _))).mono ?_; rw [hv]; rintro e w' ⟨rfl, d, rfl⟩) | (go_at_call 63; refine (l01Finite _ _).mono ?_; rw [hn]; rintro e w' ⟨rfl, d, rfl⟩))
    go_loopw [6, 7] (fun n i wr => ∃ k : Nat, k ≤ len ∧ i = .int .i64 k ∧ (∃ r, n = .float .f32 r ∧ Hid (cl .f32 r = massF (cl .f32 l) (zs.take k))) ∧ Drew (w.alloc (.cells #[.int .i64 wide, .int .i64 high, .slice a len cap] 33)) wr) (fun _ i _ => len - (intOf i).toNat)
    case atStart => exact ⟨0, Nat.zero_le _, rfl, ⟨_, rfl, cl_zero _⟩, Drew.n _ _⟩
    case round =>
      obtain ⟨k, hk, rfl, ⟨s, rfl, hs⟩, d, rfl⟩ := hrel
      by_cases hlt : k < len
      · obtain ⟨b, off, z, rfl, hbb, hck, hzz⟩ := h.get hlt
        have hstep := Lib.hid (massF_step (L := cl .f32 l) (by rw [h.len]; exact hlt) hzz)
        have hck2 : (w.alloc (.cells #[.int .i64 wide, .int .i64 high, .slice (some ⟨b, off, none⟩) len cap] 33)).cell? ⟨b, off + k, none⟩ = some (.float .f32 z) := ((hb _).cell (by exact hbb)).trans hck
        cases hg : gtB (cl .f32 z) (cl .f32 l)
        all_goals
          have hg' : (aord .f32 (cl .f32 z) (cl .f32 l) == some .gt) = _ := hg
          clear hck
          go_wp2_with (refine wpList_fl rfl rfl rfl rfl rfl ?_; intro r d hr)
          go_roundw
          case rel => exact ⟨k + 1, by omega, by go_num, ⟨_, rfl, by unfold Hid; rw [hstep.out, hg]; simp [*, hs.out]⟩, Drew.n _ _⟩
          case measure => simp [intOf]; omega
      · obtain rfl : k = len := by omega
        have hfull : Hid (zs.take k = zs) := List.take_of_length_le (by rw [h.len]; omega)
        rw [hfull.out] at hs
        go_wp2_with (go_at_call 48; refine (l02Number _ _).mono ?_; rintro e w' ⟨r, c, rfl, rfl, hr, d, rfl⟩)
        go_ret2
        exact ⟨_, _, rfl, by rw [hs.out]; rfl, by rw [hr, hs.out]; rfl, below_drewN (hb _) _⟩
  all_goals
    go_enter Try.func30, Try.ntmps30
    go_wp2_with (first | (go_at_call 54; refine (l06Is _ _ _ _ _ _ _ _ (at_new _ _ _ _ _ _ _) (h.below (hb _))).mono ?_; rw [hv]; rintro e w' ⟨rfl, d, rfl⟩) | (go_at_call 63; refine (l01Finite _ _).mono ?_; rw [hn]; rintro e w' ⟨rfl, d, rfl⟩))
    go_ret2
    exact ⟨_, _, rfl, rfl, cl_zero _, below_drewN (hb _) _⟩

theorem implMassAbove (wide high : Int) (a : Option Addr) (len cap : Nat) (zs : List Nat) (l : Nat) (w : World) (h : FlS w a len zs) :
    Calls Try.prog 31 #[GV wide high a len cap, .float .f32 l] w (RetBF (numIf (massF (cl .f32 l) zs) (aboveB wide high zs (cl .f32 l))) (aboveB wide high zs (cl .f32 l) && isNum .f32 (massF (cl .f32 l) zs)) w) := by
  have hm := h.max
  have hb : ∀ o, Below w.heap.size w (w.alloc o) := fun o => (Below.refl _ _).alloc (Nat.le_refl _) _
  unfold aboveB GV
  cases hv : validB wide high zs <;> cases hn : isNum .f32 (cl .f32 l)
  case true.true =>
    go_enter Try.func31, Try.ntmps31
    go_wp2_with fail
    refine (implValidGrid _ _ _ _ _ _ _ (h.below (hb _))).mono ?_
    rw [hv]
    rintro e w1 ⟨rfl, hb1⟩
    have hA := (Lies.new (wide := wide) (high := high) (cap := cap) 33 h).next hb1
    have hB := (hb (.cells #[.int .i64 wide, .int .i64 high, .slice a len cap] 33)).trans (hb1.mono (by simp))
    obtain ⟨c0, c1, c2⟩ := hA.at'
    have hF := hA.fl
    clear hb1 hA
    go_wp2_with (go_at_call 64; refine (isFin _ _).mono ?_; rw [hn]; rintro e w' ⟨rfl, d, rfl⟩)
    go_loopw [6, 20] (fun n i wr => ∃ k : Nat, k ≤ len ∧ i = .int .i64 k ∧ (∃ r, n = .float .f32 r ∧ Hid (cl .f32 r = massF (cl .f32 l) (zs.take k))) ∧ Drew w1 wr) (fun _ i _ => len - (intOf i).toNat)
    case atStart => exact ⟨0, Nat.zero_le _, rfl, ⟨_, rfl, cl_zero _⟩, Drew.n _ _⟩
    case round =>
      obtain ⟨k, hk, rfl, ⟨s, rfl, hs⟩, d, rfl⟩ := hrel
      by_cases hlt : k < len
      · obtain ⟨b, off, z, rfl, hbb, hck, hzz⟩ := hF.get hlt
        have hstep := Lib.hid (massF_step (L := cl .f32 l) (by rw [h.len]; exact hlt) hzz)
        cases hg : gtB (cl .f32 z) (cl .f32 l)
        all_goals
          have hg' : (aord .f32 (cl .f32 z) (cl .f32 l) == some .gt) = _ := hg
          go_wp2_with (refine wpList_fl rfl rfl rfl rfl rfl ?_; intro r d hr)
          go_roundw
          case rel => exact ⟨k + 1, by omega, by go_num, ⟨_, rfl, by unfold Hid; rw [hstep.out, hg]; simp [*, hs.out]⟩, Drew.n _ _⟩
          case measure => simp [intOf]; omega
      · obtain rfl : k = len := by omega
        have hfull : Hid (zs.take k = zs) := List.take_of_length_le (by rw [h.len]; omega)
        rw [hfull.out] at hs
        go_wp2_with (go_at_call 50; refine (finiteC _ _ _).mono ?_; rintro e w' ⟨r, c, rfl, rfl, hr, d, rfl⟩)
        go_ret2
        exact ⟨_, _, rfl, by rw [hs.out]; rfl, by rw [hr, hs.out]; rfl, below_drewN hB _⟩
  all_goals
    go_enter Try.func31, Try.ntmps31
    go_wp2_with fail
    refine (implValidGrid _ _ _ _ _ _ _ (h.below (hb _))).mono ?_
    rw [hv]
    rintro e w1 ⟨rfl, hb1⟩
    have hB := (hb (.cells #[.int .i64 wide, .int .i64 high, .slice a len cap] 33)).trans (hb1.mono (by simp))
    go_wp2_with (go_at_call 64; refine (isFin _ _).mono ?_; rw [hn]; rintro e w' ⟨rfl, d, rfl⟩)
    go_ret2
    exact ⟨_, _, rfl, rfl, cl_zero _, (by first | exact below_drewN hB _ | exact hB)⟩
end Go.Proofs.Ytcmdmecmgoabaaa
