/-
  What makes legs such, told twice.
-/
import Derived.Test.YtikdagkopalojaaLegs
namespace Go.Proofs.Ytikdagkopalojaa
open Go.RowKit Go.Shelf
attribute [local go_sem] order_cl cl_zero cl_one cl_two aord_none

def aboveB (X : Option Nat) : Bool := isNum .f32 X && gtB X (some 0)
def Leg.ok (r : Leg) : Bool := isNum .f32 (cl .f32 r.x) && aboveB (cl .f32 r.y)
def legsB (rs : List Leg) : Bool := decide (1 ≤ rs.length ∧ rs.length ≤ 32) && rs.all Leg.ok

theorem l02Above (z : Nat) (w : World) : Calls Try.prog 71 #[.float .f32 z] w (RetD (.bool (aboveB (cl .f32 z))) w) := by
  have call := l01Finite z w
  unfold aboveB
  cases hz : isNum .f32 (cl .f32 z)
  all_goals
    rw [hz] at call
    go_enter Try.func71, Try.ntmps71
    go_wp2_with (go_at_call 54; refine call.mono ?_; rintro e w' ⟨rfl, d, rfl⟩)
    go_ret
    exact ⟨by first | rfl | (simp [gtB]; rfl), Drew.n _ _⟩

def AllToL (p : Leg → Bool) (rs : List Leg) (k : Nat) : Prop := (rs.take k).all p = true
theorem AllToL.step {p : Leg → Bool} {rs : List Leg} {k : Nat} (hk : k < rs.length) (h : AllToL p rs k) {r : Leg} (hz : Hid (rs.getD k default = r)) (h2 : p r = true) : AllToL p rs (k + 1) := by
  unfold AllToL at *
  rw [List.take_succ_eq_append_getElem hk, List.all_append, h]
  rw [← hz.out, getD_at hk] at h2
  simp [h2]
theorem AllToL.no {p : Leg → Bool} {rs : List Leg} {k : Nat} (hk : k < rs.length) {r : Leg} (hz : Hid (rs.getD k default = r)) (h2 : p r = false) : rs.all p = false := by
  rw [← hz.out, getD_at hk] at h2
  rw [List.all_eq_false]
  exact ⟨_, List.getElem_mem hk, by simp [h2]⟩
theorem AllToL.full {p : Leg → Bool} {rs : List Leg} {k : Nat} (hk : rs.length ≤ k) (h : AllToL p rs k) : rs.all p = true := by
  unfold AllToL at h
  rw [List.take_of_length_le hk] at h
  exact h

theorem l05Legs (a : Option Addr) (len cap : Nat) (rs : List Leg) (w : World) (h : LeS w a len rs) :
    Calls Try.prog 46 #[.slice a len cap] w (RetD (.bool (legsB rs)) w) := by
  have hm := h.max
  have hl := Lib.hid h.size
  unfold legsB
  rw [hl.out]
  by_cases h1 : 1 ≤ len
  · by_cases h2 : len ≤ 32
    · have hd : decide (1 ≤ len ∧ len ≤ 32) = true := decide_eq_true ⟨h1, h2⟩
      rw [hd]
      go_enter Try.func46, Try.ntmps46
      go_wp2
      go_loopw [3, 14] (fun _ i wr => ∃ k : Nat, k ≤ len ∧ i = .int .i64 k ∧ Drew w wr ∧ Hid (AllToL Leg.ok rs k)) (fun _ i _ => len - (intOf i).toNat)
      case atStart => exact ⟨0, Nat.zero_le _, rfl, Drew.refl _, by show AllToL _ _ _; simp [AllToL]⟩
      case round =>
        obtain ⟨k, hk, rfl, ⟨d, rfl⟩, hall⟩ := hrel
        by_cases hlt : k < len
        · obtain ⟨b, off, r, rfl, hbb, ⟨c0, c1⟩, hzz⟩ := h.get hlt
          have cx := l01Finite r.x
          have cy := l02Above r.y
          have hok : Hid (Leg.ok r = (isNum .f32 (cl .f32 r.x) && aboveB (cl .f32 r.y))) := Lib.hid rfl
          generalize isNum .f32 (cl .f32 r.x) = b1 at *
          generalize aboveB (cl .f32 r.y) = b2 at *
          cases b1 <;> cases b2
          all_goals
            go_wp2_with (first | (go_at_call 54; refine (cx _).mono ?_; rintro e w' ⟨rfl, d, rfl⟩) | (go_at_call 71; refine (cy _).mono ?_; rintro e w' ⟨rfl, d, rfl⟩))
            first
              | (go_ret
                 refine ⟨?_, Drew.n _ _⟩
                 rw [AllToL.no (by rw [h.size]; exact hlt) hzz hok.out]
                 simp)
              | (go_roundw
                 case rel => exact ⟨k + 1, by omega, by go_num, Drew.n _ _, AllToL.step (by rw [h.size]; exact hlt) hall.out hzz hok.out⟩
                 case measure => simp [intOf]; omega)
        · go_wp2
          go_ret
          refine ⟨?_, Drew.n _ _⟩
          rw [AllToL.full (by rw [h.size]; omega) hall.out]
          simp
    · have hd : decide (1 ≤ len ∧ len ≤ 32) = false := decide_eq_false (fun h => h2 h.2)
      rw [hd]
      go_enter Try.func46, Try.ntmps46
      go_wp2
      go_ret
      exact ⟨rfl, Drew.n _ 0⟩
  · have hd : decide (1 ≤ len ∧ len ≤ 32) = false := decide_eq_false (fun h => h1 h.1)
    rw [hd]
    go_enter Try.func46, Try.ntmps46
    go_wp2
    go_ret
    exact ⟨rfl, Drew.n _ 0⟩

theorem specAreLegs (a : Option Addr) (len cap : Nat) (rs : List Leg) (w : World) (h : LeS w a len rs) :
    Calls Try.prog 16 #[.slice a len cap] w (RetD (.bool (legsB rs)) w) := by
  have call := l05Legs a len cap rs w h
  go_enter Try.func16, Try.ntmps16
  go_wp2_with (go_at_call 46; refine call.mono ?_; rintro e w' ⟨rfl, d, rfl⟩)
  go_ret
  exact ⟨rfl, Drew.n _ _⟩

/-- The closure of AreLegs. -/
theorem legOk (r : Leg) (W : World) : Calls Try.prog 50 #[LV r] W (RetL (.bool r.ok) W) := by
  have hf : ∀ (E : TypeId), FlS ((W.alloc (.cells #[.float .f32 r.x, .float .f32 r.y] 67)).alloc (.cells #[.float .f32 r.x, .float .f32 r.y] E)) (some ⟨W.heap.size + 1, 0, none⟩) 2 [r.x, r.y] := fun E => by
    refine ⟨rfl, by omega, .inr ⟨W.heap.size + 1, 0, rfl, by simp, fun i hi => ?_⟩⟩
    have ho : Own E ((W.alloc (.cells #[.float .f32 r.x, .float .f32 r.y] 67)).alloc (.cells #[.float .f32 r.x, .float .f32 r.y] E)) (W.heap.size + 1) [.float .f32 r.x, .float .f32 r.y] := by
      have := Own.new (W.alloc (.cells #[.float .f32 r.x, .float .f32 r.y] 67)) [.float .f32 r.x, .float .f32 r.y] E
      simpa using this
    have hi' : i = 0 ∨ i = 1 := by omega
    rcases hi' with rfl | rfl
    · exact ho.at rfl
    · exact ho.at rfl
  have ca := fun cap E => areFinite (some ⟨W.heap.size + 1, 0, none⟩) 2 cap [r.x, r.y] _ (hf E)
  have e1 : finAll [r.x, r.y] = (isNum .f32 (cl .f32 r.x) && isNum .f32 (cl .f32 r.y)) := by simp [finAll]
  rw [e1] at ca
  have e2 : r.ok = (isNum .f32 (cl .f32 r.x) && isNum .f32 (cl .f32 r.y) && gtB (cl .f32 r.y) (some 0)) := by unfold Leg.ok aboveB; rw [Bool.and_assoc]
  rw [e2]
  unfold LV
  clear hf e1 e2
  generalize (isNum .f32 (cl .f32 r.x) && isNum .f32 (cl .f32 r.y)) = b at *
  cases b
  all_goals
    go_enter Try.func50, Try.ntmps50
    go_wp2_with (go_at_call 51; refine (ca _ _).mono ?_; rintro e w' ⟨rfl, d, rfl⟩)
    go_ret
    exact ⟨by first | rfl | (simp [gtB]; rfl) | simp [gtB], below_drewN (((Below.refl _ _).alloc (Nat.le_refl _) _).alloc (by simp) _) _⟩
/-- What is asked of a predicate: it says p, and makes no more than new memory. -/
def PredL (g : Nat) (lb : Array Value) (p : Leg → Bool) (w : World) : Prop :=
  ∀ (W : World) (r : Leg), Below w.heap.size w W → Calls Try.prog g (#[LV r] ++ lb) W (RetL (.bool (p r)) W)
/-- It can be called. -/
def GoesL (g : Nat) : Prop := ∀ args w, (callFunc g args).run Try.prog w = .ok (.enter g args) w

/-- i is the place of the first element that meets p, or -1. -/
def IdxOfL (p : Leg → Bool) (rs : List Leg) (i : Int) : Prop :=
  (i = -1 ∧ ∀ j, j < rs.length → p (rs.getD j default) = false) ∨ (∃ k : Nat, i = k ∧ k < rs.length ∧ p (rs.getD k default) = true ∧ ∀ j, j < k → p (rs.getD j default) = false)

def RetIdxL (p : Leg → Bool) (rs : List Leg) (w : World) (e : Ending) (w' : World) : Prop := ∃ i, e = .returned (.int .i64 i) ∧ IdxOfL p rs i ∧ Below w.heap.size w w'

theorem indexFuncL (g : Nat) (lb : Array Value) (p : Leg → Bool) (eg : GoesL g) (a : Option Addr) (len cap : Nat) (rs : List Leg) (w : World) (h : LeS w a len rs) (hp : PredL g lb p w) :
    Calls Try.prog 78 #[.slice a len cap, .func (.func g) #[] lb] w (RetIdxL p rs w) := by
  have hm := h.max
  have hl := Lib.hid h.size
  unfold GoesL at eg
  go_enter Try.func78, Try.ntmps78
  go_wp2
  go_loopw [5, 8] (fun _ i wr => ∃ k : Nat, k ≤ len ∧ i = .int .i64 k ∧ Below w.heap.size w wr ∧ Hid (∀ j, j < k → p (rs.getD j default) = false)) (fun _ i _ => len - (intOf i).toNat)
  case atStart => exact ⟨0, Nat.zero_le _, rfl, Below.refl _ _, fun j hj => absurd hj (Nat.not_lt_zero _)⟩
  case round =>
    obtain ⟨k, hk, rfl, hb, hall⟩ := hrel
    by_cases hlt : k < len
    · obtain ⟨b, off, r, rfl, hbb, hck, hzz⟩ := h.get hlt
      obtain ⟨c0, c1⟩ := hck.below hb hbb
      have hcall := hp wr r hb
      unfold LV at hcall
      clear hck
      have hpr : Hid (p (rs.getD k default) = p r) := by have := hzz.out; rw [this]; exact rfl
      generalize p r = q at hcall hpr
      cases q with
      | true =>
        go_wp2_with (go_at_fn g; refine hcall.mono ?_; rintro e w' ⟨rfl, hb'⟩)
        go_ret
        exact ⟨_, rfl, .inr ⟨k, rfl, by rw [h.size]; exact hlt, hpr.out, hall.out⟩, hb.trans (hb'.mono hb.size)⟩
      | false =>
        go_wp2_with (go_at_fn g; refine hcall.mono ?_; rintro e w' ⟨rfl, hb'⟩)
        go_roundw
        case rel =>
          refine ⟨k + 1, by omega, by go_num, hb.trans (hb'.mono hb.size), ?_⟩
          show ∀ j, j < k + 1 → _
          intro j hj
          by_cases e : j = k
          · rw [e]; exact hpr.out
          · exact hall.out j (by omega)
        case measure => simp [intOf]; omega
    · go_wp2
      go_ret
      refine ⟨_, rfl, .inl ⟨rfl, ?_⟩, hb⟩
      have := hall.out
      intro j hj
      exact this j (by rw [h.size] at hj; omega)

theorem IdxOfL.any {p : Leg → Bool} {rs : List Leg} {i : Int} (h : IdxOfL p rs i) : decide (0 ≤ i) = rs.any p := by
  rcases h with ⟨rfl, h⟩ | ⟨k, rfl, hk, hp, _⟩
  · symm
    show rs.any p = false
    rw [List.any_eq_false]
    intro r hr
    obtain ⟨j, hj, rfl⟩ := List.getElem_of_mem hr
    have := h j hj
    rw [getD_at hj] at this
    simp [this]
  · have : rs.any p = true := by
      rw [List.any_eq_true]
      refine ⟨_, List.getElem_mem hk, ?_⟩
      rw [getD_at hk] at hp
      exact hp
    rw [this]
    simp

theorem containsFuncL (g : Nat) (lb : Array Value) (p : Leg → Bool) (eg : GoesL g) (a : Option Addr) (len cap : Nat) (rs : List Leg) (w : World) (h : LeS w a len rs) (hp : PredL g lb p w) :
    Calls Try.prog 72 #[.slice a len cap, .func (.func g) #[] lb] w (RetL (.bool (rs.any p)) w) := by
  have hcon := indexFuncL g lb p eg a len cap rs w h hp
  go_enter Try.func72, Try.ntmps72
  go_wp2_with (go_at_call 78; refine hcon.mono ?_; rintro e w' ⟨i, rfl, hi, hb⟩)
  go_ret
  exact ⟨by rw [hi.any]; rfl, hb⟩

/-- The closure of areAll: the other way round. -/
theorem notAllL (g : Nat) (lb : Array Value) (p : Leg → Bool) (eg : GoesL g) (B : Nat) (w : World) (hB : B < w.heap.size) (hc : w.cell? ⟨B, 0, none⟩ = some (.func (.func g) #[] lb)) (hp : PredL g lb p w) :
    PredL 73 #[.pointer (some ⟨B, 0, none⟩)] (fun r => !p r) w := fun W r hb => by
  have hcW : W.cell? ⟨B, 0, none⟩ = some (.func (.func g) #[] lb) := (hb.cell (p := ⟨B, 0, none⟩) hB).trans hc
  have hBW : B < W.heap.size := Nat.lt_of_lt_of_le hB hb.size
  have hne : B ≠ W.heap.size := by omega
  have hcall := fun o => hp (W.alloc o) r (hb.alloc hb.size _)
  unfold LV at *
  unfold GoesL at eg
  show Calls Try.prog 73 #[.agg #[.float .f32 r.x, .float .f32 r.y], .pointer (some ⟨B, 0, none⟩)] W _
  go_enter Try.func73, Try.ntmps73
  go_wp2_with (go_at_fn g; refine (hcall _).mono ?_; rintro e w' ⟨rfl, hb'⟩)
  go_ret
  exact ⟨rfl, ((Below.refl _ _).alloc (Nat.le_refl _) _).trans (hb'.mono (by simp))⟩

theorem PredL.alloc {g : Nat} {lb : Array Value} {p : Leg → Bool} {w : World} (h : PredL g lb p w) (o : Obj) : PredL g lb p (w.alloc o) :=
  fun W r hb => h W r (((Below.refl _ _).alloc (Nat.le_refl _) o).trans (hb.mono (by simp)))

theorem areAllL (g : Nat) (lb : Array Value) (p : Leg → Bool) (eg : GoesL g) (a : Option Addr) (len cap : Nat) (rs : List Leg) (w : World) (h : LeS w a len rs) (hp : PredL g lb p w) :
    Calls Try.prog 49 #[.slice a len cap, .func (.func g) #[] lb] w (RetL (.bool (rs.all p)) w) := by
  have hcon := fun E => containsFuncL 73 #[.pointer (some ⟨w.heap.size, 0, none⟩)] (fun r => !p r) (enters_of Try.func73 (by kernel_rfl) rfl) a len cap rs (w.alloc (.cells #[.func (.func g) #[] lb] E)) (h.below ((Below.refl _ _).alloc (Nat.le_refl _) _))
    (notAllL g lb p eg w.heap.size _ (by simp) (by simp) (hp.alloc _))
  go_enter Try.func49, Try.ntmps49
  go_wp2_with (go_at_call 72; refine (hcon _).mono ?_; rintro e w' ⟨rfl, hb'⟩)
  go_ret
  refine ⟨?_, ((Below.refl _ _).alloc (Nat.le_refl _) _).trans (hb'.mono (by simp))⟩
  have : (!rs.any fun r => !p r) = rs.all p := by simp [List.all_eq_not_any_not]
  rw [this]
  rfl


theorem lengthL (a : Option Addr) (len cap : Nat) (w : World) : Calls Try.prog 48 #[.slice a len cap] w (fun e w' => e = .returned (.int .i64 len) ∧ w = w') := by
  go_enter Try.func48, Try.ntmps48
  go_wp2
  go_ret
  exact ⟨rfl, rfl⟩

theorem implAreLegs (a : Option Addr) (len cap : Nat) (rs : List Leg) (w : World) (h : LeS w a len rs) :
    Calls Try.prog 18 #[.slice a len cap] w (RetL (.bool (legsB rs)) w) := by
  have hm := h.max
  have hl := Lib.hid h.size
  have cs := inI len 1 32
  have call := areAllL 50 #[] Leg.ok (enters_of Try.func50 (by kernel_rfl) rfl) a len cap rs w h (fun W r _ => legOk r W)
  unfold legsB
  rw [hl.out]
  by_cases h1 : 1 ≤ len ∧ len ≤ 32
  · have hd : decide (1 ≤ len ∧ len ≤ 32) = true := decide_eq_true h1
    have hd' : decide ((1 : Int) ≤ len ∧ (len : Int) ≤ 32) = true := decide_eq_true (by omega)
    rw [hd]
    rw [hd'] at cs
    go_enter Try.func18, Try.ntmps18
    go_wp2_with (first | (go_at_call 48; refine (lengthL _ _ _ _).mono ?_; rintro e w' ⟨rfl, rfl⟩) | (go_at_call 42; refine (cs _).mono ?_; rintro e w' ⟨rfl, rfl⟩) | (go_at_call 49; refine call.mono ?_; rintro e w' ⟨rfl, hb'⟩))
    go_ret
    exact ⟨by simp, hb'⟩
  · have hd : decide (1 ≤ len ∧ len ≤ 32) = false := decide_eq_false h1
    have hd' : decide ((1 : Int) ≤ len ∧ (len : Int) ≤ 32) = false := decide_eq_false (by omega)
    rw [hd]
    rw [hd'] at cs
    go_enter Try.func18, Try.ntmps18
    go_wp2_with (first | (go_at_call 48; refine (lengthL _ _ _ _).mono ?_; rintro e w' ⟨rfl, rfl⟩) | (go_at_call 42; refine (cs _).mono ?_; rintro e w' ⟨rfl, rfl⟩))
    go_ret
    exact ⟨rfl, Below.refl _ _⟩
end Go.Proofs.Ytikdagkopalojaa
