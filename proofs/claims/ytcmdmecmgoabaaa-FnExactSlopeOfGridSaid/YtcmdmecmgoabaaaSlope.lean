/-
  The slope along a side: told twice.
-/
import Derived.Test.YtcmdmecmgoabaaaGrid
import Derived.Test.YtcmdmecmgoabaaaCplx
import Derived.Deep.RegionHeld3
namespace Go.Proofs.Ytcmdmecmgoabaaa
open Go.RowKit
attribute [local go_sem] order_cl cl_zero cl_one cl_two aord_none

/-- The class of the height at place k. -/
def hC (zs : List Nat) (k : Nat) : Option Nat := cl .f32 (zs.getD k 0)
def partF (zs : List Nat) (i step : Nat) (at' many : Int) : Option Nat :=
  if at' = 0 then ab .sub .f32 (hC zs (i + step)) (hC zs i)
  else if at' = many - 1 then ab .sub .f32 (hC zs i) (hC zs (i - step))
  else ab .quo .f32 (ab .sub .f32 (hC zs (i + step)) (hC zs (i - step))) (cl .f32 1073741824)

theorem up_to {i step n : Nat} (h : i + step < n) (hn : n ≤ 256) : ∃ t : Nat, Hid (t = i + step) ∧ t < n ∧ IntKind.i64.wrap ((i : Int) + (step : Int)) = (t : Int) :=
  ⟨i + step, rfl, h, by rw [show ((i : Int) + (step : Int)) = ((i + step : Nat) : Int) by simp]; exact IntWalk.i64_in _ (by omega)⟩
theorem down_to {i step n : Nat} (h : step ≤ i) (hi : i < n) (hn : n ≤ 256) : ∃ t : Nat, Hid (t = i - step) ∧ t < n ∧ IntKind.i64.wrap ((i : Int) - (step : Int)) = (t : Int) :=
  ⟨i - step, rfl, by omega, by rw [show ((i : Int) - (step : Int)) = ((i - step : Nat) : Int) by omega]; exact IntWalk.i64_in _ (by omega)⟩

set_option maxRecDepth 8000 in
set_option maxHeartbeats 2000000 in
theorem l06Part (p : Nat) (wide high : Int) (a : Option Addr) (len cap i step : Nat) (at' many : Int) (zs : List Nat) (w : World) (hp : At w p wide high a len cap) (h : FlS w a len zs) (hn : len ≤ 256) (hi : i < len) (hma : 2 ≤ many ∧ many ≤ 16)
    (h0 : at' ≠ 0 → step ≤ i) (h1 : at' ≠ many - 1 → i + step < len) :
    Calls Try.prog 94 #[.pointer (some ⟨p, 0, none⟩), .int .i64 (i : Int), .int .i64 at', .int .i64 many, .int .i64 (step : Int)] w (RetF (partF zs i step at' many) w) := by
  obtain ⟨c0, c1, c2⟩ := hp
  have hm := h.max
  obtain ⟨b, off, z, rfl, hbb, hck, hzz⟩ := h.get hi
  have HZ : Hid (hC zs i = cl .f32 z) := Lib.hid (by unfold hC; rw [hzz.out])
  clear hzz
  unfold partF
  by_cases e0 : at' = 0
  · rw [if_pos e0]
    obtain ⟨t, ht, htl, hw⟩ := up_to (h1 (by omega)) hn
    obtain ⟨b1, off1, z1, e, _, hc1, hz1⟩ := h.get htl
    simp at e
    obtain ⟨rfl, rfl⟩ := e
    have HT : Hid (hC zs (i + step) = cl .f32 z1) := Lib.hid (by unfold hC; rw [← ht.out, hz1.out])
    clear hz1 h0 h1
    go_enter Try.func94, Try.ntmps94
    go_wp2
    refine QS.wp_region (.bool true) (by kernel_rfl) (by kernel_rfl) ?_
    iterate 16 (refine QS.det (fun K hK => ?_); go_simp; refine hK _ ?_; clear hK K)
    refine QS.fl rfl rfl rfl rfl rfl ?_
    intro r1 hr1
    refine QS.det (fun K hK => ?_); go_simp; refine hK _ ?_; clear hK K
    refine QS.nil ?_
    intro nq
    have HR := Lib.hid hr1
    clear hr1
    go_wp2
    go_ret
    exact ⟨_, rfl, by rw [HR.out, HT.out, HZ.out], Drew.n _ _⟩
  · rw [if_neg e0]
    obtain ⟨s, hs, hsl, hws⟩ := down_to (h0 e0) hi hn
    obtain ⟨b2, off2, z2, e, _, hc2, hz2⟩ := h.get hsl
    simp at e
    obtain ⟨rfl, rfl⟩ := e
    have HS : Hid (hC zs (i - step) = cl .f32 z2) := Lib.hid (by unfold hC; rw [← hs.out, hz2.out])
    clear hz2
    by_cases e1 : at' = many - 1
    · rw [if_pos e1]
      clear h0 h1
      go_enter Try.func94, Try.ntmps94
      go_wp2
      refine QS.wp_region (.bool true) (by kernel_rfl) (by kernel_rfl) ?_
      iterate 16 (refine QS.det (fun K hK => ?_); go_simp; refine hK _ ?_; clear hK K)
      refine QS.fl rfl rfl rfl rfl rfl ?_
      intro r1 hr1
      refine QS.det (fun K hK => ?_); go_simp; refine hK _ ?_; clear hK K
      refine QS.nil ?_
      intro nq
      have HR := Lib.hid hr1
      clear hr1
      go_wp2
      go_ret
      exact ⟨_, rfl, by rw [HR.out, HS.out, HZ.out], Drew.n _ _⟩
    · rw [if_neg e1]
      obtain ⟨t, ht, htl, hw⟩ := up_to (h1 e1) hn
      obtain ⟨b1, off1, z1, e, _, hc1, hz1⟩ := h.get htl
      simp at e
      obtain ⟨rfl, rfl⟩ := e
      have HT : Hid (hC zs (i + step) = cl .f32 z1) := Lib.hid (by unfold hC; rw [← ht.out, hz1.out])
      clear hz1 h0 h1
      go_enter Try.func94, Try.ntmps94
      go_wp2
      refine QS.wp_region (.bool true) (by kernel_rfl) (by kernel_rfl) ?_
      iterate 18 (refine QS.det (fun K hK => ?_); go_simp; refine hK _ ?_; clear hK K)
      refine QS.fl rfl rfl rfl rfl rfl ?_
      intro r1 hr1
      refine QS.fl rfl rfl rfl rfl rfl ?_
      intro r2 hr2
      refine QS.det (fun K hK => ?_); go_simp; refine hK _ ?_; clear hK K
      refine QS.nil ?_
      intro nq
      have HR : Hid (cl .f32 r2 = ab .quo .f32 (ab .sub .f32 (cl .f32 z1) (cl .f32 z2)) (cl .f32 1073741824)) := Lib.hid (by rw [hr2, hr1])
      clear hr1 hr2
      go_wp2
      go_ret
      exact ⟨_, rfl, by rw [HR.out, HS.out, HT.out], Drew.n _ _⟩

/-- A call that hands back a float of a class, and makes no more than new memory. -/
def RetX (X : Option Nat) (w : World) (e : Ending) (w' : World) : Prop := ∃ r, e = .returned (.float .f32 r) ∧ cl .f32 r = X ∧ Below w.heap.size w w'

set_option maxRecDepth 8000 in
set_option maxHeartbeats 2000000 in
theorem along (wide high : Int) (a : Option Addr) (len cap i step : Nat) (at' many : Int) (zs : List Nat) (w : World) (h : FlS w a len zs) (hn : len ≤ 256) (hi : i < len) (hst : 1 ≤ step ∧ step ≤ 16) (hat : 0 ≤ at' ∧ at' ≤ many - 1) (hma : 2 ≤ many ∧ many ≤ 16)
    (h0 : at' ≠ 0 → step ≤ i) (h1 : at' ≠ many - 1 → i + step < len) :
    Calls Try.prog 96 #[GV wide high a len cap, .int .i64 (i : Int), .int .i64 at', .int .i64 many, .int .i64 (step : Int)] w (RetX (partF zs i step at' many) w) := by
  have hm := h.max
  have hb : ∀ o, Below w.heap.size w (w.alloc o) := fun o => (Below.refl _ _).alloc (Nat.le_refl _) _
  obtain ⟨b, off, z, rfl, hbb, hck, hzz⟩ := h.get hi
  have HZ : Hid (hC zs i = cl .f32 z) := Lib.hid (by unfold hC; rw [hzz.out])
  have nb : b ≠ w.heap.size := by omega
  have nb' : w.heap.size ≠ b := by omega
  clear hzz
  unfold partF GV
  by_cases e0 : at' = 0
  · rw [if_pos e0]
    have e1 : at' ≠ many - 1 := by omega
    obtain ⟨t, ht, htl, hw⟩ := up_to (h1 (by omega)) hn
    obtain ⟨b1, off1, z1, e, _, hc1, hz1⟩ := h.get htl
    simp at e
    obtain ⟨rfl, rfl⟩ := e
    have HT : Hid (hC zs (i + step) = cl .f32 z1) := Lib.hid (by unfold hC; rw [← ht.out, hz1.out])
    clear hz1 h0 h1
    go_enter Try.func96, Try.ntmps96
    go_wp2
    refine QS.wp_region (.bool true) (by kernel_rfl) (by kernel_rfl) ?_
    iterate 10 (refine QS.det (fun K hK => ?_); go_simp; refine hK _ ?_; clear hK K)
    refine QS.fl rfl rfl rfl rfl rfl ?_
    intro r1 hr1
    refine QS.det (fun K hK => ?_); go_simp; refine hK _ ?_; clear hK K
    refine QS.nil ?_
    intro nq
    have HR := Lib.hid hr1
    clear hr1
    go_wp2
    go_ret
    exact ⟨_, rfl, by rw [HR.out, HT.out, HZ.out], below_drewN (hb _) _⟩
  · rw [if_neg e0]
    obtain ⟨s, hs, hsl, hws⟩ := down_to (h0 e0) hi hn
    obtain ⟨b2, off2, z2, e, _, hc2, hz2⟩ := h.get hsl
    simp at e
    obtain ⟨rfl, rfl⟩ := e
    have HS : Hid (hC zs (i - step) = cl .f32 z2) := Lib.hid (by unfold hC; rw [← hs.out, hz2.out])
    have nsi : s ≠ i := by have := hs.out; omega
    clear hz2
    by_cases e1 : at' = many - 1
    · rw [if_pos e1]
      clear h0 h1
      go_enter Try.func96, Try.ntmps96
      go_wp2
      refine QS.wp_region (.bool true) (by kernel_rfl) (by kernel_rfl) ?_
      iterate 10 (refine QS.det (fun K hK => ?_); go_simp; refine hK _ ?_; clear hK K)
      refine QS.fl rfl rfl rfl rfl rfl ?_
      intro r1 hr1
      refine QS.det (fun K hK => ?_); go_simp; refine hK _ ?_; clear hK K
      refine QS.nil ?_
      intro nq
      have HR := Lib.hid hr1
      clear hr1
      go_wp2
      go_ret
      exact ⟨_, rfl, by rw [HR.out, HS.out, HZ.out], below_drewN (hb _) _⟩
    · rw [if_neg e1]
      obtain ⟨t, ht, htl, hw⟩ := up_to (h1 e1) hn
      obtain ⟨b1, off1, z1, e, _, hc1, hz1⟩ := h.get htl
      simp at e
      obtain ⟨rfl, rfl⟩ := e
      have HT : Hid (hC zs (i + step) = cl .f32 z1) := Lib.hid (by unfold hC; rw [← ht.out, hz1.out])
      have nti : t ≠ i := by have := ht.out; omega
      have b1 : ((s : Int) == (i : Int)) = false := by simp; omega
      have b2 : ((t : Int) == (i : Int)) = false := by simp; omega
      have c1 : (s : Int) ≠ (i : Int) := by omega
      have c2 : (t : Int) ≠ (i : Int) := by omega
      clear hz1 h0 h1
      go_enter Try.func96, Try.ntmps96
      go_wp2
      refine QS.wp_region (.bool true) (by kernel_rfl) (by kernel_rfl) ?_
      iterate 10 (refine QS.det (fun K hK => ?_); go_simp; refine hK _ ?_; clear hK K)
      refine QS.fl rfl rfl rfl rfl rfl ?_
      intro r1 hr1
      refine QS.det (fun K hK => ?_); go_simp; refine hK _ ?_; clear hK K
      refine QS.nil ?_
      intro nq
      have HR := Lib.hid hr1
      clear hr1
      go_wp2_with (refine wpList_fl rfl rfl rfl rfl rfl ?_; intro r2 d hr2)
      go_ret
      exact ⟨_, rfl, by rw [hr2, HR.out, HS.out, HT.out], below_drewN (hb _) _⟩
end Go.Proofs.Ytcmdmecmgoabaaa
