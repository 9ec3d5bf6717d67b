/-
  How heights spread along rises: the program's words.
-/
import Derived.Test.YtikdagkopalojaaHeights2
namespace Go.Proofs.Ytikdagkopalojaa
open Go.RowKit Go.Shelf

/-- What is asked of a predicate over some rises: it says p, and makes no more than new memory. -/
def PredD (g : Nat) (lb : Array Value) (D : Rise → Prop) (p : Rise → Bool) (w : World) : Prop :=
  ∀ (W : World) (r : Rise), D r → Below w.heap.size w W → Calls Try.prog g (#[RV r] ++ lb) W (fun e w' => e = .returned (.bool (p r)) ∧ Below W.heap.size W w')

theorem indexFuncD (g : Nat) (lb : Array Value) (D : Rise → Prop) (p : Rise → Bool) (eg : Goes g) (a : Option Addr) (len cap : Nat) (rs : List Rise) (w : World) (h : RiS w a len rs) (hp : PredD g lb D p w) (hD : ∀ k, k < len → D (rs.getD k default)) :
    Calls Try.prog 59 #[.slice a len cap, .func (.func g) #[] lb] w (RetIdx p rs w) := by
  have hm := h.max
  have hl := Lib.hid h.size
  unfold Goes at eg
  go_enter Try.func59, Try.ntmps59
  go_wp2
  go_loopw [5, 8] (fun _ i wr => ∃ k : Nat, k ≤ len ∧ i = .int .i64 k ∧ Below w.heap.size w wr ∧ Hid (∀ j, j < k → p (rs.getD j default) = false)) (fun _ i _ => len - (intOf i).toNat)
  case atStart => exact ⟨0, Nat.zero_le _, rfl, Below.refl _ _, fun j hj => absurd hj (Nat.not_lt_zero _)⟩
  case round =>
    obtain ⟨k, hk, rfl, hb, hall⟩ := hrel
    by_cases hlt : k < len
    · obtain ⟨b, off, r, rfl, hbb, hck, hzz⟩ := h.get hlt
      obtain ⟨c0, c1, c2, c3⟩ := hck.below hb hbb
      have hcall := hp wr r (by have := hD k hlt; rw [hzz.out] at this; exact this) hb
      unfold RV at hcall
      clear hck
      have hpr : Hid (p (rs.getD k default) = p r) := by have := hzz.out; rw [this]; exact rfl
      generalize p r = q at hcall hpr
      cases q with
      | true =>
        go_wp2_with (go_at_fn g; refine hcall.mono ?_; rintro e w' ⟨rfl, hb'⟩)
        go_ret
        exact ⟨_, rfl, .inr ⟨k, rfl, by rw [h.size]; exact hlt, hpr.out, hall.out⟩, hb.trans (hb'.mono hb.size)⟩
      | false =>
        go_wp2_with (go_at_fn g; refine hcall.mono ?_; rintro e w' ⟨rfl, hb'⟩)
        go_roundw
        case rel =>
          refine ⟨k + 1, by omega, by go_num, hb.trans (hb'.mono hb.size), ?_⟩
          show ∀ j, j < k + 1 → _
          intro j hj
          by_cases e : j = k
          · rw [e]; exact hpr.out
          · exact hall.out j (by omega)
        case measure => simp [intOf]; omega
    · go_wp2
      go_ret
      refine ⟨_, rfl, .inl ⟨rfl, ?_⟩, hb⟩
      have := hall.out
      intro j hj
      exact this j (by rw [h.size] at hj; omega)


/-- The closure of RiseHeights. -/
theorem toldApart (n : Nat) (ts : List Bool) (c g gc gt : Nat) (w : World) (hl : ts.length = n) (hc : gc < w.heap.size) (ht : gt < w.heap.size) (hcell : w.cell? ⟨gc, 0, none⟩ = some (.slice (some ⟨gt, 0, none⟩) n c)) (ho : Own 4 w gt (bools ts)) :
    PredD 60 #[.pointer (some ⟨gc, 0, none⟩)] (fun r => inR n r.f ∧ inR n r.t) (pdB ts) w := fun W r ⟨⟨ef0, ef1⟩, et0, et1⟩ hb => by
  have hcW : W.cell? ⟨gc, 0, none⟩ = some (.slice (some ⟨gt, 0, none⟩) n c) := (hb.cell (p := ⟨gc, 0, none⟩) hc).trans hcell
  have hcl : gc < W.heap.size := Nat.lt_of_lt_of_le hc hb.size
  have htl : gt < W.heap.size := Nat.lt_of_lt_of_le ht hb.size
  have h1 : gc ≠ W.heap.size := by omega
  have h2 : gt ≠ W.heap.size := by omega
  have hoW : Own 4 W gt (bools ts) := ho.below hb
  obtain ⟨f, t, s, l⟩ := r
  obtain ⟨x, rfl⟩ : ∃ x : Nat, f = x := ⟨f.toNat, by simp only at ef0; omega⟩
  obtain ⟨y, rfl⟩ : ∃ y : Nat, t = y := ⟨t.toNat, by simp only at et0; omega⟩
  simp only at ef0 ef1 et0 et1
  have tx : W.cell? ⟨gt, x, none⟩ = some (.bool (ts.getD x false)) := hoW.at (bools_get (by omega))
  have ty : W.cell? ⟨gt, y, none⟩ = some (.bool (ts.getD y false)) := hoW.at (bools_get (by omega))
  rw [pd_cast]
  generalize ts.getD x false = bx at *
  generalize ts.getD y false = bz at *
  unfold RV
  show Calls Try.prog 60 #[.agg #[.int .i64 x, .int .i64 y, .int .i64 s, .int .i64 l], .pointer (some ⟨gc, 0, none⟩)] W _
  go_enter Try.func60, Try.ntmps60
  go_wp2
  go_quiet (fail)
  go_wp2
  go_ret
  exact ⟨rfl, below_drewN ((Below.refl _ _).alloc (Nat.le_refl _) _) _⟩

theorem indexB (g c n : Nat) (ts : List Bool) (w : World) (hl : ts.length = n) (hn : n ≤ 1048576) (ho : Own 4 w g (bools ts)) :
    Calls Try.prog 75 #[.slice (some ⟨g, 0, none⟩) n c, .bool false] w (fun e w' => ∃ i : Int, e = .returned (.int .i64 i) ∧ (decide (0 ≤ i) = !ts.all id) ∧ w = w') := by
  go_enter Try.func75, Try.ntmps75
  go_wp2
  go_loopw [5, 8] (fun _ i wr => ∃ k : Nat, k ≤ n ∧ i = .int .i64 k ∧ w = wr ∧ Hid ((ts.take k).all id = true)) (fun _ i _ => n - (intOf i).toNat)
  case atStart => exact ⟨0, Nat.zero_le _, rfl, rfl, by show _ = _; simp⟩
  case round =>
    obtain ⟨j, hj, rfl, rfl, htold⟩ := hrel
    by_cases hjm : j < n
    · have hjl : j < ts.length := by omega
      have tj : w.cell? ⟨g, j, none⟩ = some (.bool (ts.getD j false)) := ho.at (bools_get hjl)
      have htake : Hid ((ts.take (j + 1)).all id = ((ts.take j).all id && ts.getD j false)) := by
        refine Lib.hid ?_
        rw [List.take_succ_eq_append_getElem hjl, List.all_append, getD_at hjl]
        simp
      have hall' : Hid (ts.getD j false = false → ts.all id = false) := by
        refine Lib.hid fun h => ?_
        rw [getD_at hjl] at h
        rw [List.all_eq_false]
        exact ⟨_, List.getElem_mem hjl, by simp [h]⟩
      cases hbj : ts.getD j false
      all_goals
        rw [hbj] at tj
        go_wp2
      · go_ret
        exact ⟨_, rfl, by rw [hall'.out hbj]; simp, rfl⟩
      · go_roundw
        case rel => exact ⟨j + 1, by omega, by go_num, trivial, Lib.hid (by rw [htake.out, htold.out, hbj]; rfl)⟩
        case measure => simp [intOf]; omega
    · have hall' : ts.all id = true := by
        have := htold.out
        rw [List.take_of_length_le (by omega)] at this
        exact this
      go_wp2
      go_ret
      exact ⟨_, rfl, by rw [hall']; simp, rfl⟩

theorem containsB (g c n : Nat) (ts : List Bool) (w : World) (hl : ts.length = n) (hn : n ≤ 1048576) (ho : Own 4 w g (bools ts)) :
    Calls Try.prog 61 #[.slice (some ⟨g, 0, none⟩) n c, .bool false] w (fun e w' => e = .returned (.bool (!ts.all id)) ∧ w = w') := by
  have call := indexB g c n ts w hl hn ho
  go_enter Try.func61, Try.ntmps61
  go_wp2_with (go_at_call 75; refine call.mono ?_; rintro e w' ⟨i, rfl, hi, rfl⟩)
  go_ret
  exact ⟨by rw [← hi]; rfl, rfl⟩
end Go.Proofs.Ytikdagkopalojaa
