/-
  Predicates over rises, handed over as function values.
-/
import Derived.Test.YtikdagkopalojaaRises3
namespace Go.Proofs.Ytikdagkopalojaa
open Go.RowKit Go.Shelf

/-- What is asked of a predicate: it says p, and makes no more than new memory. -/
def PredR (g : Nat) (lb : Array Value) (p : Rise → Bool) (w : World) : Prop :=
  ∀ (W : World) (r : Rise), Below w.heap.size w W → Calls Try.prog g (#[RV r] ++ lb) W (RetB (.bool (p r)) W)
/-- It can be called. -/
def Goes (g : Nat) : Prop := ∀ args w, (callFunc g args).run Try.prog w = .ok (.enter g args) w

/-- i is the place of the first element that meets p, or -1. -/
def IdxOf (p : Rise → Bool) (rs : List Rise) (i : Int) : Prop :=
  (i = -1 ∧ ∀ j, j < rs.length → p (rs.getD j default) = false) ∨ (∃ k : Nat, i = k ∧ k < rs.length ∧ p (rs.getD k default) = true ∧ ∀ j, j < k → p (rs.getD j default) = false)

def RetIdx (p : Rise → Bool) (rs : List Rise) (w : World) (e : Ending) (w' : World) : Prop := ∃ i, e = .returned (.int .i64 i) ∧ IdxOf p rs i ∧ Below w.heap.size w w'

theorem indexFunc (g : Nat) (lb : Array Value) (p : Rise → Bool) (eg : Goes g) (a : Option Addr) (len cap : Nat) (rs : List Rise) (w : World) (h : RiS w a len rs) (hp : PredR g lb p w) :
    Calls Try.prog 59 #[.slice a len cap, .func (.func g) #[] lb] w (RetIdx p rs w) := by
  have hm := h.max
  have hl := Lib.hid h.size
  unfold Goes at eg
  go_enter Try.func59, Try.ntmps59
  go_wp2
  go_loopw [5, 8] (fun _ i wr => ∃ k : Nat, k ≤ len ∧ i = .int .i64 k ∧ Below w.heap.size w wr ∧ Hid (∀ j, j < k → p (rs.getD j default) = false)) (fun _ i _ => len - (intOf i).toNat)
  case atStart => exact ⟨0, Nat.zero_le _, rfl, Below.refl _ _, fun j hj => absurd hj (Nat.not_lt_zero _)⟩
  case round =>
    obtain ⟨k, hk, rfl, hb, hall⟩ := hrel
    by_cases hlt : k < len
    · obtain ⟨b, off, r, rfl, hbb, hck, hzz⟩ := h.get hlt
      obtain ⟨c0, c1, c2, c3⟩ := hck.below hb hbb
      have hcall := hp wr r hb
      unfold RV at hcall
      clear hck
      have hpr : Hid (p (rs.getD k default) = p r) := by have := hzz.out; rw [this]; exact rfl
      generalize p r = q at hcall hpr
      cases q with
      | true =>
        go_wp2_with (go_at_fn g; refine hcall.mono ?_; rintro e w' ⟨rfl, hb'⟩)
        go_ret
        exact ⟨_, rfl, .inr ⟨k, rfl, by rw [h.size]; exact hlt, hpr.out, hall.out⟩, hb.trans (hb'.mono hb.size)⟩
      | false =>
        go_wp2_with (go_at_fn g; refine hcall.mono ?_; rintro e w' ⟨rfl, hb'⟩)
        go_roundw
        case rel =>
          refine ⟨k + 1, by omega, by go_num, hb.trans (hb'.mono hb.size), ?_⟩
          show ∀ j, j < k + 1 → _
          intro j hj
          by_cases e : j = k
          · rw [e]; exact hpr.out
          · exact hall.out j (by omega)
        case measure => simp [intOf]; omega
    · go_wp2
      go_ret
      refine ⟨_, rfl, .inl ⟨rfl, ?_⟩, hb⟩
      have := hall.out
      intro j hj
      exact this j (by rw [h.size] at hj; omega)

theorem IdxOf.any {p : Rise → Bool} {rs : List Rise} {i : Int} (h : IdxOf p rs i) : decide (0 ≤ i) = rs.any p := by
  rcases h with ⟨rfl, h⟩ | ⟨k, rfl, hk, hp, _⟩
  · symm
    show rs.any p = false
    rw [List.any_eq_false]
    intro r hr
    obtain ⟨j, hj, rfl⟩ := List.getElem_of_mem hr
    have := h j hj
    rw [getD_at hj] at this
    simp [this]
  · have : rs.any p = true := by
      rw [List.any_eq_true]
      refine ⟨_, List.getElem_mem hk, ?_⟩
      rw [getD_at hk] at hp
      exact hp
    rw [this]
    simp

theorem containsFunc (g : Nat) (lb : Array Value) (p : Rise → Bool) (eg : Goes g) (a : Option Addr) (len cap : Nat) (rs : List Rise) (w : World) (h : RiS w a len rs) (hp : PredR g lb p w) :
    Calls Try.prog 69 #[.slice a len cap, .func (.func g) #[] lb] w (RetB (.bool (rs.any p)) w) := by
  have hcon := indexFunc g lb p eg a len cap rs w h hp
  go_enter Try.func69, Try.ntmps69
  go_wp2_with (go_at_call 59; refine hcon.mono ?_; rintro e w' ⟨i, rfl, hi, hb⟩)
  go_ret
  exact ⟨by rw [hi.any]; rfl, hb⟩

/-- The closure of areAll: the other way round. -/
theorem notAll (g : Nat) (lb : Array Value) (p : Rise → Bool) (eg : Goes g) (B : Nat) (w : World) (hB : B < w.heap.size) (hc : w.cell? ⟨B, 0, none⟩ = some (.func (.func g) #[] lb)) (hp : PredR g lb p w) :
    PredR 70 #[.pointer (some ⟨B, 0, none⟩)] (fun r => !p r) w := fun W r hb => by
  have hcW : W.cell? ⟨B, 0, none⟩ = some (.func (.func g) #[] lb) := (hb.cell (p := ⟨B, 0, none⟩) hB).trans hc
  have hBW : B < W.heap.size := Nat.lt_of_lt_of_le hB hb.size
  have hne : B ≠ W.heap.size := by omega
  have hcall := fun o => hp (W.alloc o) r (hb.alloc hb.size _)
  unfold RV at *
  unfold Goes at eg
  show Calls Try.prog 70 #[.agg #[.int .i64 r.f, .int .i64 r.t, .int .i64 r.s, .int .i64 r.l], .pointer (some ⟨B, 0, none⟩)] W _
  go_enter Try.func70, Try.ntmps70
  go_wp2_with (go_at_fn g; refine (hcall _).mono ?_; rintro e w' ⟨rfl, hb'⟩)
  go_ret
  exact ⟨rfl, ((Below.refl _ _).alloc (Nat.le_refl _) _).trans (hb'.mono (by simp))⟩

theorem PredR.alloc {g : Nat} {lb : Array Value} {p : Rise → Bool} {w : World} (h : PredR g lb p w) (o : Obj) : PredR g lb p (w.alloc o) :=
  fun W r hb => h W r (((Below.refl _ _).alloc (Nat.le_refl _) o).trans (hb.mono (by simp)))

theorem areAll (g : Nat) (lb : Array Value) (p : Rise → Bool) (eg : Goes g) (a : Option Addr) (len cap : Nat) (rs : List Rise) (w : World) (h : RiS w a len rs) (hp : PredR g lb p w) :
    Calls Try.prog 43 #[.slice a len cap, .func (.func g) #[] lb] w (RetB (.bool (rs.all p)) w) := by
  have hcon := fun E => containsFunc 70 #[.pointer (some ⟨w.heap.size, 0, none⟩)] (fun r => !p r) (enters_of Try.func70 (by kernel_rfl) rfl) a len cap rs (w.alloc (.cells #[.func (.func g) #[] lb] E)) (h.below ((Below.refl _ _).alloc (Nat.le_refl _) _))
    (notAll g lb p eg w.heap.size _ (by simp) (by simp) (hp.alloc _))
  go_enter Try.func43, Try.ntmps43
  go_wp2_with (go_at_call 69; refine (hcon _).mono ?_; rintro e w' ⟨rfl, hb'⟩)
  go_ret
  refine ⟨?_, ((Below.refl _ _).alloc (Nat.le_refl _) _).trans (hb'.mono (by simp))⟩
  have : (!rs.any fun r => !p r) = rs.all p := by simp [List.all_eq_not_any_not]
  rw [this]
  rfl

set_option maxHeartbeats 2000000 in
/-- The closure of AreRises. -/
theorem riseOk (n : Int) (B : Nat) (w : World) (hn : 1 ≤ n ∧ n ≤ 32) (hB : B < w.heap.size) (hc : w.cell? ⟨B, 0, none⟩ = some (.int .i64 n)) :
    PredR 44 #[.pointer (some ⟨B, 0, none⟩)] (Rise.ok n) w := fun W r hb => by
  have hcW : W.cell? ⟨B, 0, none⟩ = some (.int .i64 n) := (hb.cell (p := ⟨B, 0, none⟩) hB).trans hc
  have hBW : B < W.heap.size := Nat.lt_of_lt_of_le hB hb.size
  have hne : B ≠ W.heap.size := by omega
  have hw : IntKind.i64.wrap (n - 1) = n - 1 := IntWalk.i64_in _ (by omega)
  have cf := inIB r.f 0 (n - 1)
  have ct := inIB r.t 0 (n - 1)
  have cs := inIB r.s (-10000000) 10000000
  have cl := inIB r.l 1 10000000
  have hok : Rise.ok n r = (inB r.f 0 (n - 1) && inB r.t 0 (n - 1) && (r.f != r.t) && inB r.s (-10000000) 10000000 && inB r.l 1 10000000) := by
    unfold Rise.ok Rise.plain
    generalize inB r.f 0 (n - 1) = b1
    generalize inB r.t 0 (n - 1) = b2
    generalize inB r.s (-10000000) 10000000 = b3
    generalize inB r.l 1 10000000 = b4
    generalize (r.f != r.t) = b5
    cases b1 <;> cases b2 <;> cases b3 <;> cases b4 <;> cases b5 <;> rfl
  rw [hok]
  unfold RV
  show Calls Try.prog 44 #[.agg #[.int .i64 r.f, .int .i64 r.t, .int .i64 r.s, .int .i64 r.l], .pointer (some ⟨B, 0, none⟩)] W _
  generalize inB r.f 0 (n - 1) = b1 at *
  generalize inB r.t 0 (n - 1) = b2 at *
  generalize inB r.s (-10000000) 10000000 = b3 at *
  generalize inB r.l 1 10000000 = b4 at *
  have arms : b1 = false ∨ (b1 = true ∧ b2 = false) ∨ (b1 = true ∧ b2 = true ∧ r.f = r.t) ∨ (b1 = true ∧ b2 = true ∧ r.f ≠ r.t ∧ b3 = false) ∨ (b1 = true ∧ b2 = true ∧ r.f ≠ r.t ∧ b3 = true) := by
    cases b1 <;> cases b2 <;> cases b3 <;> simp <;> exact Classical.em _
  rcases arms with rfl | ⟨rfl, rfl⟩ | ⟨rfl, rfl, e⟩ | ⟨rfl, rfl, e, rfl⟩ | ⟨rfl, rfl, e, rfl⟩
  all_goals
    go_enter Try.func44, Try.ntmps44
    go_wp2_with (go_at_call 42; (first | (with_reducible refine (cf _).mono ?_) | (with_reducible refine (ct _).mono ?_) | (with_reducible refine (cs _).mono ?_) | (with_reducible refine (cl _).mono ?_)); rintro e w' ⟨rfl, rfl⟩)
    go_ret
    exact ⟨by simp [*], (Below.refl _ _).alloc (Nat.le_refl _) _⟩

theorem implAreRises (a : Option Addr) (len cap : Nat) (n : Int) (rs : List Rise) (w : World) (h : RiS w a len rs) :
    Calls Try.prog 13 #[.slice a len cap, .int .i64 n] w (RetB (.bool (risesB rs n)) w) := by
  have hm := h.max
  have hl := Lib.hid h.size
  have cs := inIB n 1 32
  unfold risesB
  cases hb : inB n 1 32 with
  | false =>
    rw [hb] at cs
    by_cases hlen : len ≤ 32
    all_goals
      go_enter Try.func13, Try.ntmps13
      go_wp2_with (go_at_call 42; refine (cs _).mono ?_; rintro e w' ⟨rfl, rfl⟩)
      go_ret
      exact ⟨rfl, (Below.refl _ _).alloc (Nat.le_refl _) _⟩
  | true =>
    have hn : 1 ≤ n ∧ n ≤ 32 := of_decide_eq_true hb
    rw [hb] at cs
    by_cases hlen : len ≤ 32
    · have call := fun E => areAll 44 #[.pointer (some ⟨w.heap.size, 0, none⟩)] (Rise.ok n) (enters_of Try.func44 (by kernel_rfl) rfl) a len cap rs (w.alloc (.cells #[.int .i64 n] E)) (h.below ((Below.refl _ _).alloc (Nat.le_refl _) _))
        (riseOk n w.heap.size _ hn (by simp) (by simp))
      go_enter Try.func13, Try.ntmps13
      go_wp2_with (first | (go_at_call 42; refine (cs _).mono ?_; rintro e w' ⟨rfl, rfl⟩) | (go_at_call 43; refine (call _).mono ?_; rintro e w' ⟨rfl, hb'⟩))
      go_ret
      exact ⟨by simp [hl.out, hlen], ((Below.refl _ _).alloc (Nat.le_refl _) _).trans (hb'.mono (by simp))⟩
    · go_enter Try.func13, Try.ntmps13
      go_wp2_with (go_at_call 42; refine (cs _).mono ?_; rintro e w' ⟨rfl, rfl⟩)
      go_ret
      exact ⟨by simp [hl.out, hlen], (Below.refl _ _).alloc (Nat.le_refl _) _⟩

theorem specAreRises (a : Option Addr) (len cap : Nat) (n : Int) (rs : List Rise) (w : World) (h : RiS w a len rs) :
    Calls Try.prog 11 #[.slice a len cap, .int .i64 n] w (RetD (.bool (risesB rs n)) w) := by
  have call := l05Rises a len cap n rs w h
  go_enter Try.func11, Try.ntmps11
  go_wp2_with (go_at_call 40; refine call.mono ?_; rintro e w' ⟨rfl, d, rfl⟩)
  go_ret
  exact ⟨rfl, Drew.n _ _⟩
end Go.Proofs.Ytikdagkopalojaa
