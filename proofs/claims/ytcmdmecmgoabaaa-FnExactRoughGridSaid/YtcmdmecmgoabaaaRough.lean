/-
  RoughGrid: what the program's and the reference's functions compute.
-/
import Derived.Test.YtcmdmecmgoabaaaSums
import Derived.Test.YtcmdmecmgoabaaaRootC
namespace Go.Proofs.Ytcmdmecmgoabaaa
open Go.RowKit
attribute [local go_sem] order_cl cl_zero cl_one cl_two aord_none

def sumF (zs : List Nat) : Option Nat := zs.foldl (fun s z => ab .add .f32 s (cl .f32 z)) (some 0)
theorem sumF_step {zs : List Nat} {k z : Nat} (hk : k < zs.length) (hz : Hid (zs.getD k 0 = z)) : sumF (zs.take (k + 1)) = ab .add .f32 (sumF (zs.take k)) (cl .f32 z) := by
  unfold sumF
  rw [List.take_succ_eq_append_getElem hk, List.foldl_append, ← hz.out, getD_at hk]
  rfl
def sqF (M : Option Nat) (zs : List Nat) : Option Nat := zs.foldl (fun s z => ab .add .f32 s (ab .mul .f32 (ab .sub .f32 (cl .f32 z) M) (ab .sub .f32 (cl .f32 z) M))) (some 0)
theorem sqF_step {M : Option Nat} {zs : List Nat} {k z : Nat} (hk : k < zs.length) (hz : Hid (zs.getD k 0 = z)) : sqF M (zs.take (k + 1)) = ab .add .f32 (sqF M (zs.take k)) (ab .mul .f32 (ab .sub .f32 (cl .f32 z) M) (ab .sub .f32 (cl .f32 z) M)) := by
  unfold sqF
  rw [List.take_succ_eq_append_getElem hk, List.foldl_append, ← hz.out, getD_at hk]
  rfl
def meanF (zs : List Nat) : Option Nat := ab .quo .f32 (sumF zs) (nearF zs.length)
def roughF (zs : List Nat) : Option Nat := rootF (ab .quo .f32 (sqF (meanF zs) zs) (nearF zs.length))

theorem implSum (a : Option Addr) (len cap : Nat) (zs : List Nat) (w : World) (h : FlS w a len zs) : Calls Try.prog 84 #[.slice a len cap] w (RetF (sumF zs) w) := by
  have hm := h.max
  go_enter Try.func84, Try.ntmps84
  go_wp2
  go_loopw [3, 8] (fun s i wr => ∃ k : Nat, k ≤ len ∧ i = .int .i64 k ∧ (∃ r, s = .float .f32 r ∧ Hid (cl .f32 r = sumF (zs.take k))) ∧ Drew w wr) (fun _ i _ => len - (intOf i).toNat)
  case atStart => exact ⟨0, Nat.zero_le _, rfl, ⟨_, rfl, cl_zero _⟩, Drew.refl _⟩
  case round =>
    obtain ⟨k, hk, rfl, ⟨s, rfl, hs⟩, d, rfl⟩ := hrel
    by_cases hlt : k < len
    · obtain ⟨b, off, z, rfl, hb, hck, hzz⟩ := h.get hlt
      have hstep := Lib.hid (sumF_step (by rw [h.len]; exact hlt) hzz)
      go_wp2_with (refine wpList_fl rfl rfl rfl rfl rfl ?_; intro r d hr)
      go_roundw
      case rel => exact ⟨k + 1, by omega, by go_num, ⟨_, rfl, by unfold Hid; rw [hstep.out, hr, hs.out]⟩, Drew.n _ _⟩
      case measure => simp [intOf]; omega
    · have hfull : Hid (zs.take k = zs) := List.take_of_length_le (by rw [h.len]; omega)
      rw [hfull.out] at hs
      go_wp2
      go_ret
      exact ⟨_, rfl, hs.out, Drew.n _ _⟩

theorem specRoughGrid (wide high : Int) (a : Option Addr) (len cap : Nat) (zs : List Nat) (w : World) (h : FlS w a len zs) :
    Calls Try.prog 42 #[GV wide high a len cap] w (RetBF (numIf (roughF zs) (validB wide high zs)) (validB wide high zs && isNum .f32 (roughF zs)) w) := by
  have hm := h.max
  have hb : ∀ o, Below w.heap.size w (w.alloc o) := fun o => (Below.refl _ _).alloc (Nat.le_refl _) _
  unfold GV
  cases hv : validB wide high zs
  case true =>
    go_enter Try.func42, Try.ntmps42
    go_wp2_with (go_at_call 54; refine (l06Is _ _ _ _ _ _ _ _ (at_new _ _ _ _ _ _ _) (h.below (hb _))).mono ?_; rw [hv]; rintro e w' ⟨rfl, d, rfl⟩)
    go_loopw [5, 6] (fun s i wr => ∃ k : Nat, k ≤ len ∧ i = .int .i64 k ∧ (∃ r, s = .float .f32 r ∧ Hid (cl .f32 r = sumF (zs.take k))) ∧ Drew (w.alloc (.cells #[.int .i64 wide, .int .i64 high, .slice a len cap] 33)) wr) (fun _ i _ => len - (intOf i).toNat)
    case atStart => exact ⟨0, Nat.zero_le _, rfl, ⟨_, rfl, cl_zero _⟩, Drew.n _ _⟩
    case round =>
      obtain ⟨k, hk, rfl, ⟨s, rfl, hs⟩, d, rfl⟩ := hrel
      by_cases hlt : k < len
      · obtain ⟨b, off, z, rfl, hbb, hck, hzz⟩ := h.get hlt
        have hstep := Lib.hid (sumF_step (by rw [h.len]; exact hlt) hzz)
        have hck2 : (w.alloc (.cells #[.int .i64 wide, .int .i64 high, .slice (some ⟨b, off, none⟩) len cap] 33)).cell? ⟨b, off + k, none⟩ = some (.float .f32 z) := ((hb _).cell (by exact hbb)).trans hck
        clear hck
        go_wp2_with (refine wpList_fl rfl rfl rfl rfl rfl ?_; intro r d hr)
        go_roundw
        case rel => exact ⟨k + 1, by omega, by go_num, ⟨_, rfl, by unfold Hid; rw [hstep.out, hr, hs.out]⟩, Drew.n _ _⟩
        case measure => simp [intOf]; omega
      · obtain rfl : k = len := by omega
        have hfull : Hid (zs.take k = zs) := List.take_of_length_le (by rw [h.len]; omega)
        rw [hfull.out] at hs
        go_wp2_with (refine wpList_fl rfl rfl rfl rfl rfl ?_; intro m d hmm)
        have HM : Hid (cl .f32 m = meanF zs) := by unfold Hid; rw [hmm, hs.out]; simp only [meanF, nearF, h.len]
        clear hmm hs
        go_loopw [8, 9] (fun s i wr => ∃ k' : Nat, k' ≤ k ∧ i = .int .i64 k' ∧ (∃ r, s = .float .f32 r ∧ Hid (cl .f32 r = sqF (cl .f32 m) (zs.take k'))) ∧ Drew (w.alloc (.cells #[.int .i64 wide, .int .i64 high, .slice a k cap] 33)) wr) (fun _ i _ => k - (intOf i).toNat)
        case atStart => exact ⟨0, Nat.zero_le _, rfl, ⟨_, rfl, cl_zero _⟩, Drew.n _ _⟩
        case round =>
          obtain ⟨k', hk', rfl, ⟨s, rfl, hs⟩, d, rfl⟩ := hrel
          by_cases hlt' : k' < k
          · obtain ⟨b, off, z, rfl, hbb, hck, hzz⟩ := h.get hlt'
            have hstep := Lib.hid (sqF_step (M := cl .f32 m) (by rw [h.len]; exact hlt') hzz)
            have hck2 : (w.alloc (.cells #[.int .i64 wide, .int .i64 high, .slice (some ⟨b, off, none⟩) k cap] 33)).cell? ⟨b, off + k', none⟩ = some (.float .f32 z) := ((hb _).cell (by exact hbb)).trans hck
            clear hck
            go_wp2_with (refine wpList_fl rfl rfl rfl rfl rfl ?_; intro r d hr)
            go_roundw
            case rel => exact ⟨k' + 1, by omega, by go_num, ⟨_, rfl, by unfold Hid; rw [hstep.out]; simp [*, hs.out]⟩, Drew.n _ _⟩
            case measure => simp [intOf]; omega
          · obtain rfl : k' = k := by omega
            rw [hfull.out] at hs
            go_wp2_with (first | (refine wpList_fl rfl rfl rfl rfl rfl ?_; intro r d hr) | (go_at_call 83; refine (l01Sqrt _ _).mono ?_; rintro e w' ⟨q, rfl, hq, d, rfl⟩) | (go_at_call 48; refine (l02Number _ _).mono ?_; rintro e w' ⟨u, c, rfl, rfl, hu, d, rfl⟩))
            have e1 : rootF (ab .quo .f32 (cl .f32 s) (cl .f32 (floatOfInt .f32 (k' : Int)))) = roughF zs := by rw [hs.out, HM.out]; simp only [roughF, nearF, h.len]
            go_ret2
            exact ⟨_, _, rfl, by rw [e1]; rfl, by first | rw [hu, e1] | rw [hu, hq, hr, e1], below_drewN (hb _) _⟩
  case false =>
    go_enter Try.func42, Try.ntmps42
    go_wp2_with (go_at_call 54; refine (l06Is _ _ _ _ _ _ _ _ (at_new _ _ _ _ _ _ _) (h.below (hb _))).mono ?_; rw [hv]; rintro e w' ⟨rfl, d, rfl⟩)
    go_ret2
    exact ⟨_, _, rfl, rfl, cl_zero _, below_drewN (hb _) _⟩

theorem implRoughGrid (wide high : Int) (a : Option Addr) (len cap : Nat) (zs : List Nat) (w : World) (h : FlS w a len zs) :
    Calls Try.prog 43 #[GV wide high a len cap] w (RetBF (numIf (roughF zs) (validB wide high zs)) (validB wide high zs && isNum .f32 (roughF zs)) w) := by
  have hm := h.max
  have hb : ∀ o, Below w.heap.size w (w.alloc o) := fun o => (Below.refl _ _).alloc (Nat.le_refl _) _
  unfold GV
  cases hv : validB wide high zs
  all_goals
    go_enter Try.func43, Try.ntmps43
    go_wp2_with fail
    refine (implValidGrid _ _ _ _ _ _ _ (h.below (hb _))).mono ?_
    rw [hv]
    rintro e w1 ⟨rfl, hb1⟩
    have hA := (Lies.new (wide := wide) (high := high) (cap := cap) 33 h).next hb1
    have hB := (hb (.cells #[.int .i64 wide, .int .i64 high, .slice a len cap] 33)).trans (hb1.mono (by simp))
    obtain ⟨c0, c1, c2⟩ := hA.at'
    have hF := hA.fl
    clear hb1 hA
  · go_wp2
    go_ret2
    exact ⟨_, _, rfl, rfl, cl_zero _, hB⟩
  · go_wp2_with (first | (refine wpList_fl rfl rfl rfl rfl rfl ?_; intro m d hmm) | (go_at_call 84; refine (implSum _ _ _ _ _ hF).mono ?_; rintro e w' ⟨s, rfl, hs, d, rfl⟩))
    have HM : Hid (cl .f32 m = meanF zs) := by unfold Hid; rw [hmm, hs]; simp only [meanF, nearF, h.len]
    clear hmm hs
    go_loopw [6, 25] (fun s i wr => ∃ k : Nat, k ≤ len ∧ i = .int .i64 k ∧ (∃ r, s = .float .f32 r ∧ Hid (cl .f32 r = sqF (cl .f32 m) (zs.take k))) ∧ Drew w1 wr) (fun _ i _ => len - (intOf i).toNat)
    case atStart => exact ⟨0, Nat.zero_le _, rfl, ⟨_, rfl, cl_zero _⟩, Drew.n _ _⟩
    case round =>
      obtain ⟨k, hk, rfl, ⟨s, rfl, hs⟩, d, rfl⟩ := hrel
      by_cases hlt : k < len
      · obtain ⟨b, off, z, rfl, hbb, hck, hzz⟩ := hF.get hlt
        have hstep := Lib.hid (sqF_step (M := cl .f32 m) (by rw [h.len]; exact hlt) hzz)
        go_wp2_with (refine wpList_fl rfl rfl rfl rfl rfl ?_; intro r d hr)
        go_roundw
        case rel => exact ⟨k + 1, by omega, by go_num, ⟨_, rfl, by unfold Hid; rw [hstep.out]; simp [*, hs.out]⟩, Drew.n _ _⟩
        case measure => simp [intOf]; omega
      · obtain rfl : k = len := by omega
        have hfull : Hid (zs.take k = zs) := List.take_of_length_le (by rw [h.len]; omega)
        rw [hfull.out] at hs
        go_wp2_with (first | (refine wpList_fl rfl rfl rfl rfl rfl ?_; intro r d hr) | (go_at_call 85; refine (rootNumber _ _).mono ?_; rintro e w' ⟨q, rfl, hq, d, rfl⟩) | (go_at_call 50; refine (finiteC _ _ _).mono ?_; rintro e w' ⟨u, c, rfl, rfl, hu, d, rfl⟩))
        have e1 : rootF (ab .quo .f32 (cl .f32 s) (cl .f32 (floatOfInt .f32 (k : Int)))) = roughF zs := by rw [hs.out, HM.out]; simp only [roughF, nearF, h.len]
        go_ret2
        exact ⟨_, _, rfl, by rw [e1]; rfl, by first | rw [hu, e1] | rw [hu, hq, hr, e1], below_drewN hB _⟩
end Go.Proofs.Ytcmdmecmgoabaaa
