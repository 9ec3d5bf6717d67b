/-
  Predicates over whole numbers, handed over as function values.
-/
import Derived.Test.YtcmdmecmgoabaaaGrid
import Derived.Test.YtcmdmecmgoabaaaOwnF
import Derived.Shelf.Abstract
namespace Go.Proofs.Ytcmdmecmgoabaaa
open Go.RowKit Go.Shelf

/-- What is asked of a predicate over some numbers: it says p, and makes no more than new memory. -/
def PredI (g : Nat) (lb : Array Value) (D : Int → Prop) (p : Int → Bool) (w : World) : Prop :=
  ∀ (W : World) (x : Int), D x → Below w.heap.size w W → Calls Try.prog g (#[.int .i64 x] ++ lb) W (RetB (.bool (p x)) W)
/-- It can be called. -/
def GoesI (g : Nat) : Prop := ∀ args w, (callFunc g args).run Try.prog w = .ok (.enter g args) w

/-- i is the place of the first element that meets p, or -1. -/
def IdxI (p : Int → Bool) (rs : List Int) (i : Int) : Prop :=
  (i = -1 ∧ ∀ j, j < rs.length → p (rs.getD j 0) = false) ∨ (∃ k : Nat, i = k ∧ k < rs.length ∧ p (rs.getD k 0) = true)

theorem indexFuncI (g : Nat) (lb : Array Value) (D : Int → Prop) (p : Int → Bool) (eg : GoesI g) (a : Option Addr) (len cap : Nat) (rs : List Int) (w : World) (h : InS w a len rs) (hp : PredI g lb D p w) (hD : ∀ k, k < len → D (rs.getD k 0)) :
    Calls Try.prog 104 #[.slice a len cap, .func (.func g) #[] lb] w (fun e w' => ∃ i, e = .returned (.int .i64 i) ∧ IdxI p rs i ∧ Below w.heap.size w w') := by
  have hm := h.2.1
  have hl := Lib.hid h.1
  unfold GoesI at eg
  go_enter Try.func104, Try.ntmps104
  go_wp2
  go_loopw [5, 8] (fun _ i wr => ∃ k : Nat, k ≤ len ∧ i = .int .i64 k ∧ Below w.heap.size w wr ∧ Hid (∀ j, j < k → p (rs.getD j 0) = false)) (fun _ i _ => len - (intOf i).toNat)
  case atStart => exact ⟨0, Nat.zero_le _, rfl, Below.refl _ _, fun j hj => absurd hj (Nat.not_lt_zero _)⟩
  case round =>
    obtain ⟨k, hk, rfl, hb, hall⟩ := hrel
    by_cases hlt : k < len
    · obtain ⟨b, off, r, rfl, hbb, hck, hzz⟩ := (h.below hb).get hlt
      have hcall := hp wr r (by have := hD k hlt; rw [hzz.out] at this; exact this) hb
      have hpr : Hid (p (rs.getD k 0) = p r) := by have := hzz.out; rw [this]; exact rfl
      generalize p r = q at hcall hpr
      cases q with
      | true =>
        go_wp2_with (go_at_fn g; refine hcall.mono ?_; rintro e w' ⟨rfl, hb'⟩)
        go_ret
        exact ⟨_, rfl, .inr ⟨k, rfl, by rw [hl.out]; exact hlt, hpr.out⟩, hb.trans (hb'.mono hb.size)⟩
      | false =>
        go_wp2_with (go_at_fn g; refine hcall.mono ?_; rintro e w' ⟨rfl, hb'⟩)
        go_roundw
        case rel =>
          refine ⟨k + 1, by omega, by go_num, hb.trans (hb'.mono hb.size), ?_⟩
          show ∀ j, j < k + 1 → _
          intro j hj
          by_cases e : j = k
          · rw [e]; exact hpr.out
          · exact hall.out j (by omega)
        case measure => simp [intOf]; omega
    · go_wp2
      go_ret
      refine ⟨_, rfl, .inl ⟨rfl, ?_⟩, hb⟩
      have := hall.out
      intro j hj
      exact this j (by rw [hl.out] at hj; omega)

theorem IdxI.any {p : Int → Bool} {rs : List Int} {i : Int} (h : IdxI p rs i) : decide (0 ≤ i) = rs.any p := by
  rcases h with ⟨rfl, h⟩ | ⟨k, rfl, hk, hp⟩
  · symm
    show rs.any p = false
    rw [List.any_eq_false]
    intro r hr
    obtain ⟨j, hj, rfl⟩ := List.getElem_of_mem hr
    have := h j hj
    rw [getD_at hj] at this
    simp [this]
  · have : rs.any p = true := by
      rw [List.any_eq_true]
      refine ⟨_, List.getElem_mem hk, ?_⟩
      rw [getD_at hk] at hp
      exact hp
    rw [this]
    simp

theorem containsFuncI (g : Nat) (lb : Array Value) (D : Int → Prop) (p : Int → Bool) (eg : GoesI g) (a : Option Addr) (len cap : Nat) (rs : List Int) (w : World) (h : InS w a len rs) (hp : PredI g lb D p w) (hD : ∀ k, k < len → D (rs.getD k 0)) :
    Calls Try.prog 97 #[.slice a len cap, .func (.func g) #[] lb] w (RetB (.bool (rs.any p)) w) := by
  have hcon := indexFuncI g lb D p eg a len cap rs w h hp hD
  go_enter Try.func97, Try.ntmps97
  go_wp2_with (go_at_call 104; refine hcon.mono ?_; rintro e w' ⟨i, rfl, hi, hb⟩)
  go_ret
  exact ⟨by rw [hi.any]; rfl, hb⟩

/-- The closure of areAll: the other way round. -/
theorem notAllI (g : Nat) (lb : Array Value) (D : Int → Prop) (p : Int → Bool) (eg : GoesI g) (B : Nat) (w : World) (hB : B < w.heap.size) (hc : w.cell? ⟨B, 0, none⟩ = some (.func (.func g) #[] lb)) (hp : PredI g lb D p w) :
    PredI 98 #[.pointer (some ⟨B, 0, none⟩)] D (fun r => !p r) w := fun W r hr hb => by
  have hcW : W.cell? ⟨B, 0, none⟩ = some (.func (.func g) #[] lb) := (hb.cell (p := ⟨B, 0, none⟩) hB).trans hc
  have hcall := hp W r hr hb
  unfold GoesI at eg
  show Calls Try.prog 98 #[.int .i64 r, .pointer (some ⟨B, 0, none⟩)] W _
  go_enter Try.func98, Try.ntmps98
  go_wp2_with (go_at_fn g; refine hcall.mono ?_; rintro e w' ⟨rfl, hb'⟩)
  go_ret
  exact ⟨rfl, hb'⟩

theorem PredI.alloc {g : Nat} {lb : Array Value} {D : Int → Prop} {p : Int → Bool} {w : World} (h : PredI g lb D p w) (o : Obj) : PredI g lb D p (w.alloc o) :=
  fun W r hr hb => h W r hr (((Below.refl _ _).alloc (Nat.le_refl _) o).trans (hb.mono (by simp)))

theorem areAllI (g : Nat) (lb : Array Value) (D : Int → Prop) (p : Int → Bool) (eg : GoesI g) (a : Option Addr) (len cap : Nat) (rs : List Int) (w : World) (h : InS w a len rs) (hp : PredI g lb D p w) (hD : ∀ k, k < len → D (rs.getD k 0)) :
    Calls Try.prog 80 #[.slice a len cap, .func (.func g) #[] lb] w (RetB (.bool (rs.all p)) w) := by
  have hcon := fun E => containsFuncI 98 #[.pointer (some ⟨w.heap.size, 0, none⟩)] D (fun r => !p r) (enters_of Try.func98 (by kernel_rfl) rfl) a len cap rs (w.alloc (.cells #[.func (.func g) #[] lb] E)) (h.below ((Below.refl _ _).alloc (Nat.le_refl _) _))
    (notAllI g lb D p eg w.heap.size _ (by simp) (by simp) (hp.alloc _)) hD
  go_enter Try.func80, Try.ntmps80
  go_wp2_with (go_at_call 97; refine (hcon _).mono ?_; rintro e w' ⟨rfl, hb'⟩)
  go_ret
  refine ⟨?_, ((Below.refl _ _).alloc (Nat.le_refl _) _).trans (hb'.mono (by simp))⟩
  have : (!rs.any fun r => !p r) = rs.all p := by simp [List.all_eq_not_any_not]
  rw [this]
  rfl
end Go.Proofs.Ytcmdmecmgoabaaa
