/-
  A region that draws its order: what waits for a load may turn what it reads.
-/
import Derived.OrdersHeld
import Derived.Deep.RegionWith
import Derived.Test.YtpebibhnaopbnaaGrow
namespace Go.Proofs.Ytpebibhnaopbnaa
open Go.RowKit

section
variable {P : Program} {md : Region.Mode} {ops : Array Oper} {Q : Exit → Act → World → Prop} {S : World → Prop} {s : Nat}

/-- Whatever comes up next; and S holds till operation s has come up. -/
def anyTill (P : Program) (md : Region.Mode) (ops : Array Oper) (Q : Exit → Act → World → Prop) (S : World → Prop) (s : Nat) : Nat → Array Bool → Act → World → Prop
  | 0, l, a, w => Region.ready md ops l = [] ∧ Q .normal a w
  | f + 1, l, a, w => (Region.ready md ops l = [] → Q .normal a w) ∧
    ∀ j ∈ Region.ready md ops l, wpOp P ops Q j (fun a' w' => ((l.setIfInBounds j true).getD s true = false → S w') ∧ anyTill P md ops Q S s f (l.setIfInBounds j true) a' w') a w

theorem anyTill.any : ∀ (f : Nat) (l : Array Bool) (a : Act) (w : World), anyTill P md ops Q S s f l a w → wpAny P md ops Q f l a w
  | 0, _, _, _, h => h
  | f + 1, _, _, _, h => ⟨h.1, fun j hj => wpOp_mono (fun a' w' h' => anyTill.any f _ a' w' h'.2) (h.2 j hj)⟩

/-- An operation for which s waits, and that yields v in each world that meets S, may be taken first. -/
theorem anyTill.first {i : Nat} {oi : Oper} {v : Value} (hi : ops[i]? = some oi) (hsel : ∀ (j : Nat) (o : Oper) cs b, ops[j]? = some o → o.op ≠ .select cs b)
    (hQ : ∀ c a w, Q (.panic c) (a.put oi.dst v) w → Q (.panic c) a w) (hw : ∀ o, ops[s]? = some o → ∃ e ∈ o.after, Region.binds md e = true ∧ e.on = i) :
    ∀ (f : Nat) (l : Array Bool) (a : Act) (w : World),
      (∀ j oj, ops[j]? = some oj → j ≠ i → l.getD j true = false → (∀ e ∈ oj.after, Region.binds md e = true → e.on ≠ i) → oi.apart ops oj = true) →
      i ∈ Region.ready md ops l → YieldsIf P ops S oi v a → S w → l.getD s true = false → s ≠ i →
      anyTill P md ops Q S s f (l.setIfInBounds i true) (a.put oi.dst v) w → anyTill P md ops Q S s (f + 1) l a w := by
  intro f
  induction f with
  | zero =>
    intro l a w _ hr hy hS hs hsi H
    refine ⟨fun h => (by rw [h] at hr; cases hr), fun j hj => ?_⟩
    by_cases hji : j = i
    · subst hji; exact hy.wpOp hi hS ⟨fun _ => hS, H⟩
    · have := ready_mono hj hji
      rw [H.1] at this
      cases this
  | succ f ih =>
    intro l a w hfree hr hy hS hs hsi H
    refine ⟨fun h => (by rw [h] at hr; cases hr), fun j hj => ?_⟩
    by_cases hji : j = i
    · subst hji; exact hy.wpOp hi hS ⟨fun _ => hS, H⟩
    · obtain ⟨hjun, oj, hoj, hall⟩ := mem_ready.1 hj
      have hnot : ∀ e ∈ oj.after, Region.binds md e = true → e.on ≠ i := fun e he hb heq => by
        have h1 := hall e he hb
        have h0 := (mem_ready.1 hr).1
        rw [heq] at h1
        rcases Nat.lt_or_ge i l.size with h' | h'
        · simp [h'] at h0 h1; rw [h0] at h1; cases h1
        · simp [Array.getElem?_eq_none h'] at h1
      have hjs : j ≠ s := fun e => by
        subst e
        obtain ⟨e, he, hb, ho⟩ := hw oj hoj
        exact hnot e he hb ho
      have hs' : (l.setIfInBounds j true).getD s true = false := by rw [getD_set_ne true hjs]; exact hs
      have h2 := wpOp_putIf hoj (hfree j oj hoj hji hjun hnot) (fun cs b => hsel i oi cs b hi) (fun cs b => hsel j oj cs b hoj) hQ hy (H.2 j (ready_mono hj hji))
      refine wpOp_mono (fun a' w' h3 => ?_) h2
      have hS' : S w' := h3.2.1 (by rw [Array.setIfInBounds_comm _ _ (Ne.symm hji), getD_set_ne true (Ne.symm hsi)]; exact hs')
      refine ⟨fun _ => hS', ih (l.setIfInBounds j true) a' w' (fun k ok hk hki hun hno => ?_) (ready_mono hr (Ne.symm hji)) h3.1 hS' hs' hsi ?_⟩
      · refine hfree k ok hk hki ?_ hno
        by_cases hjk : j = k
        · subst hjk; exact hjun
        · rw [getD_set_ne true hjk] at hun; exact hun
      · rw [Array.setIfInBounds_comm _ _ hji]
        exact h3.2.2

/-- What yields v in whatever world may be taken first. -/
theorem anyTill.first0 {i : Nat} {oi : Oper} {v : Value} (hi : ops[i]? = some oi) (hsel : ∀ (j : Nat) (o : Oper) cs b, ops[j]? = some o → o.op ≠ .select cs b)
    (hQ : ∀ c a w, Q (.panic c) (a.put oi.dst v) w → Q (.panic c) a w) (hsi : s ≠ i) :
    ∀ (f : Nat) (l : Array Bool) (a : Act) (w : World),
      (∀ j oj, ops[j]? = some oj → j ≠ i → l.getD j true = false → (∀ e ∈ oj.after, Region.binds md e = true → e.on ≠ i) → oi.apart ops oj = true) →
      i ∈ Region.ready md ops l → YieldsIf P ops (fun _ => True) oi v a → (l.getD s true = false → S w) →
      anyTill P md ops Q S s f (l.setIfInBounds i true) (a.put oi.dst v) w → anyTill P md ops Q S s (f + 1) l a w := by
  intro f
  induction f with
  | zero =>
    intro l a w _ hr hy hS H
    refine ⟨fun h => (by rw [h] at hr; cases hr), fun j hj => ?_⟩
    by_cases hji : j = i
    · subst hji; exact hy.wpOp hi trivial ⟨fun h0 => hS (by rw [getD_set_ne true (Ne.symm hsi)] at h0; exact h0), H⟩
    · have := ready_mono hj hji
      rw [H.1] at this
      cases this
  | succ f ih =>
    intro l a w hfree hr hy hS H
    refine ⟨fun h => (by rw [h] at hr; cases hr), fun j hj => ?_⟩
    by_cases hji : j = i
    · subst hji; exact hy.wpOp hi trivial ⟨fun h0 => hS (by rw [getD_set_ne true (Ne.symm hsi)] at h0; exact h0), H⟩
    · obtain ⟨hjun, oj, hoj, hall⟩ := mem_ready.1 hj
      have hnot : ∀ e ∈ oj.after, Region.binds md e = true → e.on ≠ i := fun e he hb heq => by
        have h1 := hall e he hb
        have h0 := (mem_ready.1 hr).1
        rw [heq] at h1
        rcases Nat.lt_or_ge i l.size with h' | h'
        · simp [h'] at h0 h1; rw [h0] at h1; cases h1
        · simp [Array.getElem?_eq_none h'] at h1
      have h2 := wpOp_putIf hoj (hfree j oj hoj hji hjun hnot) (fun cs b => hsel i oi cs b hi) (fun cs b => hsel j oj cs b hoj) hQ hy (H.2 j (ready_mono hj hji))
      refine wpOp_mono (fun a' w' h3 => ?_) h2
      have hS' : (l.setIfInBounds j true).getD s true = false → S w' := fun h0 => h3.2.1 (by rw [Array.setIfInBounds_comm _ _ (Ne.symm hji), getD_set_ne true (Ne.symm hsi)]; exact h0)
      refine ⟨hS', ih (l.setIfInBounds j true) a' w' (fun k ok hk hki hun hno => ?_) (ready_mono hr (Ne.symm hji)) h3.1 hS' ?_⟩
      · refine hfree k ok hk hki ?_ hno
        by_cases hjk : j = k
        · subst hjk; exact hjun
        · rw [getD_set_ne true hjk] at hun; exact hun
      · rw [Array.setIfInBounds_comm _ _ hji]
        exact h3.2.2
theorem anyTill.take0 {i : Nat} {oi : Oper} {v : Value} {f : Nat} {l : Array Bool} {a : Act} {w : World} (hi : ops[i]? = some oi)
    (hs : Region.noSelect ops = true) (hf : Region.free md ops l i = true) (hr : (Region.ready md ops l).contains i = true)
    (hw : (s != i) = true)
    (hQ : ∀ c a w, Q (.panic c) (a.put oi.dst v) w → Q (.panic c) a w) (hS : l.getD s true = false → S w) (h1 : Region.wanted oi (yielded ops a.tmps) = true) (hy : ∀ w, (execOp a.eval oi).run P w = .ok (.value v) w)
    (h : anyTill P md ops Q S s f (l.setIfInBounds i true) (a.put oi.dst v) w) : anyTill P md ops Q S s (f + 1) l a w :=
  anyTill.first0 hi (Region.noSelect_spec hs) hQ (by simpa using hw) f l a w (Region.free_spec hi hf) (by simpa using hr) (.inl ⟨h1, fun w _ => hy w⟩) hS h

/-- Does s wait for i? -/
def waits (md : Region.Mode) (ops : Array Oper) (s i : Nat) : Bool := match ops[s]? with
  | none => false
  | some o => o.after.toList.any fun e => Region.binds md e && e.on == i
theorem anyTill.take {i : Nat} {oi : Oper} {v : Value} {f : Nat} {l : Array Bool} {a : Act} {w : World} (hi : ops[i]? = some oi)
    (hs : Region.noSelect ops = true) (hf : Region.free md ops l i = true) (hr : (Region.ready md ops l).contains i = true)
    (hw : (waits md ops s i && !(l.getD s true) && s != i) = true)
    (hQ : ∀ c a w, Q (.panic c) (a.put oi.dst v) w → Q (.panic c) a w) (hS : S w) (h1 : Region.wanted oi (yielded ops a.tmps) = true) (hy : ∀ w, S w → (execOp a.eval oi).run P w = .ok (.value v) w)
    (h : anyTill P md ops Q S s f (l.setIfInBounds i true) (a.put oi.dst v) w) : anyTill P md ops Q S s (f + 1) l a w := by
  simp only [Bool.and_eq_true, bne_iff_ne, ne_eq, Bool.not_eq_true'] at hw
  refine anyTill.first hi (Region.noSelect_spec hs) hQ (fun o ho => ?_) f l a w (Region.free_spec hi hf) (by simpa using hr) (.inl ⟨h1, hy⟩) hS hw.1.2 hw.2 h
  have h2 := hw.1.1
  unfold waits at h2
  rw [ho] at h2
  simp only [List.any_eq_true, Array.mem_toList_iff, Bool.and_eq_true, beq_iff_eq] at h2
  obtain ⟨e, he, hb, ho⟩ := h2
  exact ⟨e, he, hb, ho⟩

/-- What comes up next, one by one; K is what follows, S shown. -/
def ReadyTill (P : Program) (md : Region.Mode) (ops : Array Oper) (Q : Exit → Act → World → Prop) (S : World → Prop) (s : Nat) (f : Nat) (l : Array Bool) (a : Act) (w : World) (rs : List Nat) : Prop :=
  ∀ j ∈ rs, wpOp P ops Q j (fun a' w' => ((l.setIfInBounds j true).getD s true = false → S w') ∧ anyTill P md ops Q S s f (l.setIfInBounds j true) a' w') a w
theorem ReadyTill.nil {f : Nat} {l : Array Bool} {a : Act} {w : World} : ReadyTill P md ops Q S s f l a w [] := fun _ h => by cases h
theorem ReadyTill.cons {f : Nat} {l : Array Bool} {a : Act} {w : World} {i : Nat} {o : Oper} {rs : List Nat} (ho : ops[i]? = some o)
    (h : ∀ K' : Act → World → Prop, (∀ a w, ((l.setIfInBounds i true).getD s true = false → S w) → anyTill P md ops Q S s f (l.setIfInBounds i true) a w → K' a w) → if Region.wanted o (yielded ops a.tmps) = true then Oper.wp P o a w K' Q else K' (a.put o.dst undef) w)
    (hs : ReadyTill P md ops Q S s f l a w rs) : ReadyTill P md ops Q S s f l a w (i :: rs) := fun j hj => by
  rcases List.mem_cons.1 hj with rfl | hj
  · exact wpOp_step ho (fun K' hK => h K' (fun a w hS hW => hK a w ⟨hS, hW⟩))
  · exact hs j hj
theorem anyTill.ready {rs : List Nat} {f : Nat} {l : Array Bool} {a : Act} {w : World} (hr : Region.ready md ops l = rs) (hne : rs ≠ [])
    (h : ReadyTill P md ops Q S s f l a w rs) : anyTill P md ops Q S s (f + 1) l a w := ⟨fun h0 => absurd (hr ▸ h0) hne, hr ▸ h⟩
theorem anyTill.done {l : Array Bool} {a : Act} {w : World} (hr : Region.ready md ops l = []) (h : Q .normal a w) : ∀ f, anyTill P md ops Q S s f l a w
  | 0 => ⟨hr, h⟩
  | _ + 1 => ⟨fun _ => h, by rw [hr]; simp⟩
/-- Once s has come up S is asked no more. -/
theorem anyTill.of_any : ∀ (f : Nat) (l : Array Bool) (a : Act) (w : World), l.getD s true = true → wpAny P md ops Q f l a w → anyTill P md ops Q S s f l a w
  | 0, _, _, _, _, h => h
  | f + 1, l, _, _, hs, h => ⟨h.1, fun j hj => wpOp_mono (fun a' w' h' => by
      have h2 : (l.setIfInBounds j true).getD s true = true := by
        by_cases e : j = s
        · subst e
          by_cases hlt : j < l.size
          · simp [hlt]
          · simp [Array.getElem?_eq_none (show (l.setIfInBounds j true).size ≤ j by simp; omega)]
        · rw [getD_set_ne true e]; exact hs
      exact ⟨fun h0 => (by rw [h2] at h0; cases h0), anyTill.of_any f _ a' w' h2 h'⟩) (h.2 j hj)⟩
/-- The beginning. -/
theorem region_till (S : World → Prop) (s : Nat) {id : Nat} {a : Act} {w : World} (hm : P.follows .mixedOrders = true)
    (h : anyTill P .any ops Q S s ops.size (Array.replicate ops.size false) a w.drew) : (Code.region id ops true).wp P Q a w :=
  wp_region_any hm (anyTill.any _ _ _ _ h)
end
end Go.Proofs.Ytpebibhnaopbnaa
