/-
  A region that draws its order, whose operations only read, but may draw what they yield (a NaN's bits): one walk in the order of the text, each value any of a set; a call hands back the one value 'cv'.
-/
import Derived.Test.YtikdagkopalojaaFlo
import Derived.Deep.Quiet
namespace Go.Proofs.Ytikdagkopalojaa.QS
open Go

section
variable {P : Program} {ops : Array Oper} {C : World → Prop} {cv : Value}

/-- What an operation yields lies in V, whatever world of the class it is carried out in. -/
def YieldsUpon (P : Program) (C : World → Prop) (cv : Value) (V : Value → Prop) : Result Next → Prop
  | .ok (.value u) w' => C w' ∧ V u
  | .ok .skip w' => C w' ∧ V undef
  | .ok (.enter f args) w' => C w' ∧ Calls P f args w' (fun e w'' => e = .returned cv ∧ C w'') ∧ V cv
  | _ => False

def SAt (P : Program) (C : World → Prop) (cv : Value) (o : Oper) (a : Act) (V : Value → Prop) : Prop := ∀ w, C w → YieldsUpon P C cv V ((execOp a.eval o).run P w)

/-- One operation, then what follows, whatever it yields. -/
def One (P : Program) (C : World → Prop) (cv : Value) (o : Oper) (a : Act) (next : Act → Prop) : Prop := ∃ V, SAt P C cv o a V ∧ ∀ v, V v → next (a.put o.dst v)

/-- The walk in the order of the text. -/
def wpQS (P : Program) (ops : Array Oper) (C : World → Prop) (cv : Value) (Q : Act → Prop) : List Oper → Act → Prop
  | [], a => Q a
  | o :: rest, a => if Region.wanted o (yielded ops a.tmps) then One P C cv o a (wpQS P ops C cv Q rest) else wpQS P ops C cv Q rest (a.put o.dst undef)

/-- Operation number i comes up. -/
def Up (P : Program) (ops : Array Oper) (C : World → Prop) (cv : Value) (i : Nat) (K : Act → Prop) (a : Act) : Prop :=
  match ops[i]? with
  | none => K a
  | some o => if Region.wanted o (yielded ops a.tmps) then One P C cv o a K else K (a.put o.dst undef)

theorem One.mono {o : Oper} {a : Act} {K K' : Act → Prop} (h : ∀ a, K a → K' a) (hh : One P C cv o a K) : One P C cv o a K' := by
  obtain ⟨V, h1, h2⟩ := hh
  exact ⟨V, h1, fun v hv => h _ (h2 v hv)⟩

theorem Up.mono {i : Nat} {a : Act} {K K' : Act → Prop} (h : ∀ a, K a → K' a) (hh : Up P ops C cv i K a) : Up P ops C cv i K' a := by
  unfold Up at *
  cases ho : ops[i]? with
  | none => simp only [ho] at hh ⊢; exact h _ hh
  | some o =>
    simp only [ho] at hh ⊢
    by_cases hw : Region.wanted o (yielded ops a.tmps) = true
    · rw [if_pos hw] at hh ⊢; exact One.mono h hh
    · rw [if_neg hw] at hh ⊢; exact h _ hh

/-- Whatever order is picked from here on. -/
def Any (P : Program) (md : Region.Mode) (ops : Array Oper) (C : World → Prop) (cv : Value) (Q : Act → Prop) : Nat → Array Bool → Act → Prop
  | 0, listed, a => Region.ready md ops listed = [] ∧ Q a
  | fuel + 1, listed, a =>
    (Region.ready md ops listed = [] → Q a) ∧
    ∀ i ∈ Region.ready md ops listed, Up P ops C cv i (Any P md ops C cv Q fuel (listed.setIfInBounds i true)) a

theorem One.wp {o : Oper} {a : Act} {K : Act → Prop} {K' : Act → World → Prop} {Q' : Exit → Act → World → Prop} {w : World} (hw : C w) (h : ∀ a w', C w' → K a → K' a w') (hh : One P C cv o a K) : o.wp P a w K' Q' := by
  obtain ⟨V, h1, h2⟩ := hh
  have h3 := h1 w hw
  unfold Oper.wp
  generalize (execOp a.eval o).run P w = r at *
  cases r with
  | ok n w' =>
    cases n <;> simp only [YieldsUpon] at h3 <;> simp only [Oper.upon]
    case value u => exact h _ _ h3.1 (h2 _ h3.2)
    case skip => exact h _ _ h3.1 (h2 _ h3.2)
    case enter f args =>
      exact h3.2.1.mono fun e w'' ⟨he, hw''⟩ => by subst he; exact h _ _ hw'' (h2 _ h3.2.2)
  | halt x w' => exact h3.elim

theorem Up.wp {i : Nat} {a : Act} {K : Act → Prop} {K' : Act → World → Prop} {Q' : Exit → Act → World → Prop} {w : World} (hC : C w) (h : ∀ a w', C w' → K a → K' a w') (hh : Up P ops C cv i K a) : wpOp P ops Q' i K' a w := by
  unfold Up at hh
  unfold wpOp
  cases ho : ops[i]? with
  | none => simp only [ho] at hh ⊢; exact h _ _ hC hh
  | some o =>
    simp only [ho] at hh ⊢
    by_cases hw : Region.wanted o (yielded ops a.tmps) = true
    · rw [if_pos hw] at hh ⊢; exact .inl (One.wp hC h hh)
    · rw [if_neg hw] at hh ⊢; exact h _ _ hC hh

theorem Any.wp {md : Region.Mode} {Q : Act → Prop} {Q' : Exit → Act → World → Prop} (hQ : ∀ a w, C w → Q a → Q' .normal a w) : ∀ (fuel : Nat) (listed : Array Bool) (a : Act) (w : World), C w →
    Any P md ops C cv Q fuel listed a → wpAny P md ops Q' fuel listed a w
  | 0, _, _, _, hw, h => ⟨h.1, hQ _ _ hw h.2⟩
  | fuel + 1, _, _, _, hw, h => ⟨fun h0 => hQ _ _ hw (h.1 h0), fun i hi => Up.wp hw (fun a' w' hw' => Any.wp hQ fuel _ a' w' hw') (h.2 i hi)⟩

/-- In state a, operation o leaves a value of V. -/
def Leaves (P : Program) (ops : Array Oper) (C : World → Prop) (cv : Value) (o : Oper) (V : Value → Prop) (a : Act) : Prop :=
  (Region.wanted o (yielded ops a.tmps) = true ∧ SAt P C cv o a V) ∨ (Region.wanted o (yielded ops a.tmps) = false ∧ V undef)

theorem Leaves.up {i : Nat} {o : Oper} {V : Value → Prop} {a : Act} (hi : ops[i]? = some o) (hy : Leaves P ops C cv o V a) {K : Act → Prop} (h : ∀ v, V v → K (a.put o.dst v)) : Up P ops C cv i K a := by
  unfold Up
  simp only [hi]
  rcases hy with ⟨hw, hv⟩ | ⟨hw, hv⟩
  · rw [if_pos hw]; exact ⟨V, hv, h⟩
  · rw [if_neg (by rw [hw]; exact Bool.false_ne_true)]; exact h _ hv

theorem Leaves.same {o : Oper} {V : Value → Prop} {a a' : Act} (hy : Leaves P ops C cv o V a) (he : execOp a'.eval o = execOp a.eval o)
    (hw : Region.wanted o (yielded ops a'.tmps) = Region.wanted o (yielded ops a.tmps)) : Leaves P ops C cv o V a' := by
  unfold Leaves SAt at *
  rw [he, hw]
  exact hy

theorem leaves_of_up {i : Nat} {o : Oper} {a : Act} {K : Act → Prop} (hi : ops[i]? = some o) (h : Up P ops C cv i K a) : ∃ V, Leaves P ops C cv o V a ∧ ∀ v, V v → K (a.put o.dst v) := by
  unfold Up at h
  simp only [hi] at h
  by_cases hw : Region.wanted o (yielded ops a.tmps) = true
  · rw [if_pos hw] at h
    obtain ⟨V, h1, h2⟩ := h
    exact ⟨V, .inl ⟨hw, h1⟩, h2⟩
  · rw [if_neg hw] at h
    exact ⟨(· = undef), .inr ⟨by simpa using hw, rfl⟩, fun v hv => by subst hv; exact h⟩

theorem Leaves.some {o : Oper} {V : Value → Prop} {a : Act} {w : World} (hC : C w) (hy : Leaves P ops C cv o V a) : ∃ v, V v := by
  rcases hy with ⟨_, hs⟩ | ⟨_, hu⟩
  · have h8 := hs w hC
    generalize (execOp a.eval o).run P w = r at h8
    cases r with
    | ok n w' =>
      cases n <;> simp only [YieldsUpon] at h8
      case value u => exact ⟨_, h8.2⟩
      case skip => exact ⟨_, h8.2⟩
      case enter f args => exact ⟨_, h8.2.2⟩
    | halt x w' => exact h8.elim
  · exact ⟨_, hu⟩

/-- Sets met together. -/
theorem sat_all {o : Oper} {a : Act} {V : Value → Prop} {U : (v : Value) → V v → Value → Prop} {v0 : Value} (h0 : V v0) (h : ∀ v hv, SAt P C cv o a (U v hv)) : SAt P C cv o a fun u => ∀ v hv, U v hv u := by
  intro w hw
  have hs := fun v hv => h v hv w hw
  generalize (execOp a.eval o).run P w = r at *
  cases r with
  | ok n w' =>
    cases n <;> simp only [YieldsUpon] at hs ⊢
    case value u => exact ⟨(hs v0 h0).1, fun v hv => (hs v hv).2⟩
    case skip => exact ⟨(hs v0 h0).1, fun v hv => (hs v hv).2⟩
    case enter f args => exact ⟨(hs v0 h0).1, (hs v0 h0).2.1, fun v hv => (hs v hv).2.2⟩
    all_goals exact hs v0 h0
  | halt x w' => exact hs v0 h0

/-- An operation apart from 'oi' may come up ahead of it. -/
theorem up_past {w0 : World} (hC : C w0) {j : Nat} {oi oj : Oper} {V : Value → Prop} (hj : ops[j]? = some oj) (hap : oi.apart ops oj = true)
    (hsi : ∀ cs b, oi.op ≠ .select cs b) (hsj : ∀ cs b, oj.op ≠ .select cs b) {K : Act → Prop} {a : Act}
    (hy : Leaves P ops C cv oi V a) (h : ∀ v, V v → Up P ops C cv j K (a.put oi.dst v)) :
    Up P ops C cv j (fun a' => Leaves P ops C cv oi V a' ∧ ∀ v, V v → K (a'.put oi.dst v)) a := by
  obtain ⟨h1, h2, h3⟩ := Oper.apart_spec hap
  have keep : ∀ u, Leaves P ops C cv oi V (a.put oj.dst u) := fun u =>
    hy.same (execOp_put oi hsi a oj.dst u h3) (wanted_put oi a oj.dst u h3)
  obtain ⟨v0, hv0⟩ := hy.some hC
  unfold Up at *
  simp only [hj] at *
  have h' : ∀ v, V v → if Region.wanted oj (yielded ops a.tmps) then One P C cv oj (a.put oi.dst v) K else K ((a.put oi.dst v).put oj.dst undef) := fun v hv => by
    have := h v hv
    rw [wanted_put oj a oi.dst v h1] at this
    exact this
  by_cases hw : Region.wanted oj (yielded ops a.tmps) = true
  · rw [if_pos hw]
    have h4 : ∀ v, V v → ∃ U, SAt P C cv oj a U ∧ ∀ u, U u → K ((a.put oi.dst v).put oj.dst u) := fun v hv => by
      have h5 := h' v hv
      rw [if_pos hw] at h5
      obtain ⟨U, h6, h7⟩ := h5
      refine ⟨U, ?_, h7⟩
      unfold SAt at *
      rw [execOp_put oj hsj a oi.dst v h1] at h6
      exact h6
    refine ⟨fun u => ∀ v hv, Classical.choose (h4 v hv) u, sat_all hv0 (fun v hv => (Classical.choose_spec (h4 v hv)).1), fun u hu => ⟨keep u, fun v hv => ?_⟩⟩
    rw [← Act.put_comm a v u h2]
    exact (Classical.choose_spec (h4 v hv)).2 u (hu v hv)
  · rw [if_neg hw]
    refine ⟨keep _, fun v hv => ?_⟩
    have h5 := h' v hv
    rw [if_neg hw] at h5
    rw [← Act.put_comm a v undef h2]
    exact h5

theorem any_first {w0 : World} (hC : C w0) {md : Region.Mode} {Q : Act → Prop} {i : Nat} {oi : Oper} {V : Value → Prop} (hi : ops[i]? = some oi) (hsel : ∀ (j : Nat) (o : Oper) cs b, ops[j]? = some o → o.op ≠ .select cs b) :
    ∀ (fuel : Nat) (listed : Array Bool) (a : Act),
      (∀ j oj, ops[j]? = some oj → j ≠ i → listed.getD j true = false → (∀ e ∈ oj.after, Region.binds md e = true → e.on ≠ i) → oi.apart ops oj = true) →
      i ∈ Region.ready md ops listed → Leaves P ops C cv oi V a →
      (∀ v, V v → Any P md ops C cv Q fuel (listed.setIfInBounds i true) (a.put oi.dst v)) → Any P md ops C cv Q (fuel + 1) listed a := by
  intro fuel
  induction fuel with
  | zero =>
    intro listed a _ hr hy H
    refine ⟨fun h => (by rw [h] at hr; cases hr), fun j hj => ?_⟩
    by_cases hji : j = i
    · subst hji; exact hy.up hi H
    · have h0 := ready_mono hj hji
      obtain ⟨v, hv⟩ := hy.some hC
      rw [(H v hv).1] at h0
      cases h0
  | succ fuel ih =>
    intro listed a hfree hr hy H
    refine ⟨fun h => (by rw [h] at hr; cases hr), fun j hj => ?_⟩
    by_cases hji : j = i
    · subst hji; exact hy.up hi H
    obtain ⟨hjun, oj, hoj, hall⟩ := mem_ready.1 hj
    have hnot : ∀ e ∈ oj.after, Region.binds md e = true → e.on ≠ i := fun e he hb heq => by
      have e1 := hall e he hb
      have e0 := (mem_ready.1 hr).1
      rw [heq] at e1
      rcases Nat.lt_or_ge i listed.size with h' | h'
      · simp [h'] at e0 e1; rw [e0] at e1; cases e1
      · simp [Array.getElem?_eq_none h'] at e1
    have h2 := up_past hC hoj (hfree j oj hoj hji hjun hnot) (fun cs b => hsel i oi cs b hi) (fun cs b => hsel j oj cs b hoj) hy (fun v hv => (H v hv).2 j (ready_mono hj hji))
    refine Up.mono (fun a' h3 => ih (listed.setIfInBounds j true) a' (fun k ok hk hki hun hno => hfree k ok hk hki ?_ hno) (ready_mono hr (Ne.symm hji)) h3.1 (fun v hv => ?_)) h2
    · by_cases hjk : j = k
      · subst hjk; exact hjun
      · rw [getD_set_ne true hjk] at hun; exact hun
    · rw [Array.setIfInBounds_comm _ _ hji]
      exact h3.2 v hv

theorem any_lex {w0 : World} (hC : C w0) {md : Region.Mode} {Q : Act → Prop} (hs : Region.noSelect ops = true) : ∀ (l : List Oper) (k : Nat) (listed : Array Bool) (a : Act), (∀ j, l[j]? = ops[k + j]?) →
    Region.lexFrom md ops l.length k listed = true → wpQS P ops C cv Q l a → Any P md ops C cv Q l.length listed a
  | [], _, _, _, _, hB, h => ⟨by simpa [Region.lexFrom] using hB, h⟩
  | o :: l, k, listed, a, hl, hB, h => by
    have h0 : ops[k]? = some o := by simpa using (hl 0).symm
    simp only [List.length_cons, Region.lexFrom, Bool.and_eq_true] at hB
    obtain ⟨⟨hr, hf⟩, hB'⟩ := hB
    have hst : Up P ops C cv k (wpQS P ops C cv Q l) a := by unfold Up; simp only [h0]; exact h
    obtain ⟨V, hy, hK⟩ := leaves_of_up h0 hst
    exact any_first hC h0 (Region.noSelect_spec hs) l.length listed a (Region.free_spec h0 hf) (by simpa using hr) hy
      (fun v hv => any_lex hC hs l (k + 1) _ _ (fun j => by have := hl (j + 1); simpa [Nat.add_assoc, Nat.add_comm 1 j] using this) hB' (hK v hv))

/-- One walk in the order of the text serves every order. -/
theorem wp_region {id : Nat} {Q : Exit → Act → World → Prop} {a : Act} {w : World} {l : List Oper} (cv : Value) (hm : P.follows .mixedOrders = true) (hB : Region.lexB .any l.toArray = true)
    (h : wpQS P l.toArray (fun w' => ∃ n, w' = w.drewN n) cv (fun a' => ∀ n, Q .normal a' (w.drewN n)) l a) : (Code.region id l.toArray true).wp P Q a w := by
  simp only [Region.lexB, Bool.and_eq_true] at hB
  have hC : (fun w' => ∃ n, w' = w.drewN n) ({ w with drawn := w.drawn + 1 } : World) := ⟨1, rfl⟩
  refine wp_region_any hm (Any.wp (C := fun w' => ∃ n, w' = w.drewN n) (cv := cv) (Q := fun a' => ∀ n, Q .normal a' (w.drewN n)) (fun _ w' hw' h => by obtain ⟨n, rfl⟩ := hw'; exact h n) _ _ _ _ hC ?_)
  have := any_lex (cv := cv) (md := .any) (Q := fun a' => ∀ n, Q .normal a' (w.drewN n)) hC hB.1 l 0 (Array.replicate l.toArray.size false) a (by simp) (by simpa using hB.2) h
  simpa using this

/-- What a plain operation yields: the value v, in the world that it got. -/
def DetUpon (w : World) (v : Value) : Result Next → Prop
  | .ok (.value u) w' => w' = w ∧ u = v
  | .ok .skip w' => w' = w ∧ v = undef
  | _ => False
def DetAt (P : Program) (o : Oper) (a : Act) (w : World) (v : Value) : Prop := DetUpon w v ((execOp a.eval o).run P w)
def Det (P : Program) (C : World → Prop) (o : Oper) (a : Act) (next : Act → Prop) : Prop := ∃ v, (∀ w, C w → DetAt P o a w v) ∧ next (a.put o.dst v)
attribute [go_sem] Det DetAt DetUpon

theorem one_det {o : Oper} {a : Act} {next : Act → Prop} (h : Det P C o a next) : One P C cv o a next := by
  obtain ⟨v, h1, h2⟩ := h
  refine ⟨(· = v), fun w hw => ?_, fun u hu => by subst hu; exact h2⟩
  have h3 := h1 w hw
  unfold DetAt at h3
  generalize (execOp a.eval o).run P w = r at *
  cases r with
  | ok n w' =>
    cases n <;> simp only [DetUpon] at h3 <;> simp only [YieldsUpon]
    case value u => obtain ⟨rfl, rfl⟩ := h3; exact ⟨hw, rfl⟩
    case skip => obtain ⟨rfl, rfl⟩ := h3; exact ⟨hw, rfl⟩
  | halt x w' => exact h3.elim

theorem nil {Q : Act → Prop} {a : Act} (h : Q a) : wpQS P ops C cv Q [] a := h

/-- A plain operation, what follows behind a variable. -/
theorem det {Q : Act → Prop} {a : Act} {o : Oper} {rest : List Oper}
    (h : ∀ K : Act → Prop, (∀ a, wpQS P ops C cv Q rest a → K a) → if Region.wanted o (yielded ops a.tmps) then Det P C o a K else K (a.put o.dst undef)) : wpQS P ops C cv Q (o :: rest) a := by
  have h1 := h _ (fun _ h => h)
  unfold wpQS
  split
  · rename_i hw; rw [if_pos hw] at h1; exact one_det h1
  · rename_i hw; rw [if_neg hw] at h1; exact h1

/-- '+', '-', '*', '/' on floats. -/
theorem fl {w : World} {Q : Act → Prop} {a : Act} {o : Oper} {rest : List Oper} (hg : Region.wanted o (yielded ops a.tmps) = true) {op : BinOp} {t t' : TypeId} {x y : Operand} (hop : o.op = Op.binOp op t x y t') {k : FloatKind} {p q : Nat} (hx : a.eval x = .float k p) (hy : a.eval y = .float k q)
    (h5 : isAr op = true) (hK : ∀ r, cl k r = ab op k (cl k p) (cl k q) → wpQS P ops (fun w' => ∃ n, w' = w.drewN n) cv Q rest (a.put o.dst (.float k r))) : wpQS P ops (fun w' => ∃ n, w' = w.drewN n) cv Q (o :: rest) a := by
  unfold wpQS
  rw [if_pos hg]
  refine ⟨fun v => ∃ r, v = .float k r ∧ cl k r = ab op k (cl k p) (cl k q), fun w1 hw1 => ?_, fun v hv => ?_⟩
  · obtain ⟨n, rfl⟩ := hw1
    have h4 : op = .add ∨ op = .sub ∨ op = .mul ∨ op = .quo := by cases op <;> simp_all [isAr]
    obtain ⟨r, d, hrun, hr⟩ := run_fl (P := P) (w.drewN n) op t k p q h4
    have e : (execOp a.eval o).run P (w.drewN n) = .ok (.value (.float k r)) ((w.drewN n).drewN d) := by
      have eg : eqGuard op t x y (.float k p) (.float k q) = pure () := by rcases h4 with rfl | rfl | rfl | rfl <;> rfl
      simp only [execOp, hop, hx, hy, eg]
      simp [hrun, Result.andThen]
    rw [e]
    exact ⟨⟨n + d, by simp⟩, r, rfl, hr⟩
  · obtain ⟨r, rfl, hr⟩ := hv
    exact hK r hr

/-- 'float64(x)' of a float32. -/
theorem wide {w : World} {Q : Act → Prop} {a : Act} {o : Oper} {rest : List Oper} (hg : Region.wanted o (yielded ops a.tmps) = true) {src dst : TypeId} {x : Operand} (hop : o.op = Op.convert src dst x) (hs : P.underlying src = some (.float .f32)) (hd : P.underlying dst = some (.float .f64)) {p : Nat} (hx : a.eval x = .float .f32 p)
    (hK : ∀ r, cl .f64 r = wid (cl .f32 p) → wpQS P ops (fun w' => ∃ n, w' = w.drewN n) cv Q rest (a.put o.dst (.float .f64 r))) : wpQS P ops (fun w' => ∃ n, w' = w.drewN n) cv Q (o :: rest) a := by
  unfold wpQS
  rw [if_pos hg]
  refine ⟨fun v => ∃ r, v = .float .f64 r ∧ cl .f64 r = wid (cl .f32 p), fun w1 hw1 => ?_, fun v hv => ?_⟩
  · obtain ⟨n, rfl⟩ := hw1
    obtain ⟨r, d, hrun, hr⟩ := run_wid (P := P) (w.drewN n) hs hd p
    have e : (execOp a.eval o).run P (w.drewN n) = .ok (.value (.float .f64 r)) ((w.drewN n).drewN d) := by
      simp only [execOp, hop, hx]
      simp [hrun, Result.andThen]
    rw [e]
    exact ⟨⟨n + d, by simp⟩, r, rfl, hr⟩
  · obtain ⟨r, rfl, hr⟩ := hv
    exact hK r hr

/-- A call that hands back 'cv'. -/
theorem call {w : World} {Q : Act → Prop} {a : Act} {o : Oper} {rest : List Oper} (hg : Region.wanted o (yielded ops a.tmps) = true) {f : FuncId} {args : Array Value} (hrun : ∀ n, (execOp a.eval o).run P (w.drewN n) = .ok (.enter f args) (w.drewN n))
    (hc : ∀ n, Calls P f args (w.drewN n) (RetD cv (w.drewN n))) (hK : wpQS P ops (fun w' => ∃ n, w' = w.drewN n) cv Q rest (a.put o.dst cv)) : wpQS P ops (fun w' => ∃ n, w' = w.drewN n) cv Q (o :: rest) a := by
  unfold wpQS
  rw [if_pos hg]
  refine ⟨(· = cv), fun w1 hw1 => ?_, fun v hv => by subst hv; exact hK⟩
  obtain ⟨n, rfl⟩ := hw1
  rw [hrun n]
  refine ⟨⟨n, rfl⟩, (hc n).mono fun e w' he => ?_, rfl⟩
  obtain ⟨rfl, d, rfl⟩ := he
  exact ⟨rfl, n + d, by simp⟩

#print axioms wp_region
end
end Go.Proofs.Ytikdagkopalojaa.QS
