/-
  A grid that is made by a function of its places.
-/
import Derived.Test.YtcmdmecmgoabaaaFlat2
import Derived.Deep.DrawnRows
import Derived.Deep.RegionWith
namespace Go.Proofs.Ytcmdmecmgoabaaa
open Go.RowKit Go.Shelf

/-- An append inside a region that draws its order, held for its law. -/
def AppHold (P : Program) (d : Option Tmp) (os : Array Operand) (ts : Array TypeId) (ty : TypeId) (ps : String) (af : Array Edge) (a : Act) (w : World) (K : Act → World → Prop) (Q : Exit → Act → World → Prop) : Prop :=
  Oper.wp P { dst := d, op := Op.call { callee := Callee.builtin Builtin.append, args := os, argTypes := ts }, type := ty, pos := ps, after := af, guard := none } a w K Q
theorem app_hold {P : Program} {d : Option Tmp} {os : Array Operand} {ts : Array TypeId} {ty : TypeId} {ps : String} {af : Array Edge} {a : Act} {w : World} {K : Act → World → Prop} {Q : Exit → Act → World → Prop} :
    Oper.wp P { dst := d, op := Op.call { callee := Callee.builtin Builtin.append, args := os, argTypes := ts }, type := ty, pos := ps, after := af, guard := none } a w K Q = AppHold P d os ts ty ps af a w K Q := rfl
attribute [local go_sem ↓] app_hold
attribute [local go_sem ↓] Go.wp_at_zero Go.wp_at_succ

/-- What is asked of the function: at each place it says a number of the class F, and makes no more than new memory. -/
def Makes (g : Nat) (lb : Array Value) (n : Nat) (F : Nat → Option Nat) (w : World) : Prop :=
  ∀ (W : World) (i : Nat), i < n → Below w.heap.size w W → Calls Try.prog g (#[.int .i64 (i : Int)] ++ lb) W (fun e w' => ∃ x, e = .returned (.float .f32 x) ∧ cl .f32 x = F i ∧ Below W.heap.size W w')
/-- It can be called. -/
def Goes (g : Nat) : Prop := ∀ args w, (callFunc g args).run Try.prog w = .ok (.enter g args) w

def cls (n : Nat) (F : Nat → Option Nat) : List (Option Nat) := (List.range n).map F
theorem cls_step {k : Nat} {F : Nat → Option Nat} {zs : List Nat} {x : Nat} (h : zs.map (cl .f32) = cls k F) (hx : cl .f32 x = F k) : (zs ++ [x]).map (cl .f32) = cls (k + 1) F := by
  unfold cls at *
  rw [List.range_succ, List.map_append, List.map_append, h]
  simp [hx]

/-- A new grid of numbers of these classes. -/
def MadeG (wide high : Int) (n : Nat) (F : Nat → Option Nat) (w : World) (e : Ending) (w' : World) : Prop :=
  ∃ zs : List Nat, zs.map (cl .f32) = cls n F ∧ NewG wide high zs (validB wide high zs) w e w'

set_option maxRecDepth 8000 in
set_option maxHeartbeats 2000000 in
theorem madeGrid (wide high : Int) (g : Nat) (lb : Array Value) (n : Nat) (F : Nat → Option Nat) (w : World) (hs : sidesB wide high = true) (hn : wide * high = n) (eg : Goes g) (hf : Makes g lb n F w) :
    Calls Try.prog 67 #[.int .i64 wide, .int .i64 high, .func (.func g) #[] lb] w (MadeG wide high n F w) := by
  obtain ⟨hm1, hm2⟩ := sides_mul hs
  have hw : IntKind.i64.wrap (wide * high) = n := by rw [hn]; exact IntWalk.i64_in _ (by omega)
  rw [hn] at hm1 hm2
  obtain ⟨i0, hi, hz0, hz1, hz2⟩ := info_parts infoF
  have gs := grow_start (Below.refl w.heap.size w) wide high
  unfold Goes at eg
  go_enter Try.func67, Try.ntmps67
  go_wp2
  have hG : w.heap.size < w.heap.size + 1 := Nat.lt_succ_self _
  generalize ((w.alloc (.cells #[.int .i64 0, .int .i64 0, .slice none 0 0] 33)).alloc (.cells #[.int .i64 wide, .int .i64 high, .slice none 0 0] 33)) = w0 at *
  generalize hp : w.heap.size + 1 = p at gs ⊢
  clear hG hp
  go_loopw [9, 16] (fun _ i wr => ∃ (k : Nat) (v : Value) (zs : List Nat), k ≤ n ∧ i = .int .i64 (k : Int) ∧ GrowG w wr w.heap.size p wide high k zs v ∧ zs.map (cl .f32) = cls k F) (fun _ i _ => n - (intOf i).toNat)
  case atStart => exact ⟨0, _, _, Nat.zero_le _, rfl, gs, rfl⟩
  case round =>
    obtain ⟨k, v, zs, hk, rfl, hg, hcz⟩ := hrel
    clear gs
    by_cases hlt : k < n
    · have c2 := hg.box.at (k := 2) rfl
      have hB := hg.below.size
      have hpl := hg.box.lt
      have hq1 : p ≠ wr.heap.size := by omega
      have hq2 : wr.heap.size ≠ p := by omega
      have hcall := hf wr.drew k hlt (below_drewN hg.below 1)
      have hD : Below wr.heap.size wr wr.drew := below_drewN (Below.refl _ _) 1
      go_wp2
      go_region_with (first
        | (go_at_fn g; refine hcall.mono ?_; intro e w1 he; obtain ⟨x, he, hx, hb1⟩ := he; subst he; have hg1 := hg.next (hD.trans (hb1.mono (Nat.le_refl _))); have d2 := hg1.box.at (k := 2) rfl; have hrow := hg1.row; have hB1 := hg1.below.size; have hpn : some p ≠ v.ownBlock := fun e => absurd (hg1.far p e.symm) (Nat.lt_irrefl _); have hpl1 := hg1.box.lt; have hq3 : p ≠ w1.heap.size := (by omega); have hq4 : w1.heap.size ≠ p := (by omega))
        | (unfold AppHold; refine wp_append_lies _ (.tmp 20) (.tmp 24) 28 (by rfl) w.heap.size 22 i0 (.float .f32 0) 1 4 Try.underlying28 hi hz0 hz1 hz2 rfl (by decide) v k (fls zs) (by simp [Act.eval]) (hrow.alloc _) ⟨w1.heap.size, 0, none⟩ 1 1 [.float .f32 x] (by simp [Act.eval]) rfl (World.news_of_block (heap_alloc_new _ _)) (by simp [Value.oneCell']) (by omega) (by unfold maxLen; omega) (by omega) (by simp; omega) (w1.heap.size + 1) (by simp) ?_; intro g' cap w2 hown hgrow hat hlt'; have o1 := (hg1.box.alloc _).grown hgrow hpn; have d3 := o1.at (k := 2) rfl; have e3 := o1.free 2))
      all_goals
        go_wp2
        go_roundw
        case rel => exact ⟨k + 1, _, zs ++ [x], by omega, by go_num, hg1.step hgrow hown rfl hat, cls_step hcz hx⟩
        case measure => simp [intOf]; omega
    · obtain rfl : k = n := by omega
      obtain ⟨a, cap, rfl, hM⟩ := hg.form (by omega)
      have c0 := hg.box.at (k := 0) rfl
      have c1 := hg.box.at (k := 1) rfl
      have c2 := hg.box.at (k := 2) rfl
      have call := implValidGrid wide high a k cap zs _ hM.fls
      have hne : ∀ g, a = some ⟨g, 0, none⟩ → g ≠ w.heap.size := fun g e => by
        subst e
        have := hg.far g rfl
        have := hg.rp
        omega
      unfold GV at call
      cases hv : validB wide high zs
      all_goals
        rw [hv] at call
        go_wp2_with (go_at_call 20; refine call.mono ?_; rintro e w2 ⟨rfl, hb2⟩; have hg2 := hg.next hb2; have s0 := hg2.res.at (k := 0) rfl; have s1 := hg2.res.at (k := 1) rfl; have s2 := hg2.res.at (k := 2) rfl; have g0 := hg2.res.free 0; have g1 := hg2.res.free 1; have g2 := hg2.res.free 2; have b0 := hg2.box.at (k := 0) rfl; have b1 := hg2.box.at (k := 1) rfl; have b2 := hg2.box.at (k := 2) rfl)
      · refine bodyPost_ret (v := .tuple #[.agg #[.int .i64 0, .int .i64 0, .slice none 0 0], .bool false]) (by simp [results, Try.results67, go_sem, s0, s1, s2]) rfl ⟨zs, hcz, ?_⟩
        rw [hv]
        exact NewG.no (((hg2.below.setCell (Nat.le_refl _) _).setCell (Nat.le_refl _) _).setCell (Nat.le_refl _) _)
      · refine bodyPost_ret (v := .tuple #[.agg #[.int .i64 wide, .int .i64 high, .slice a k cap], .bool true]) (by simp [results, Try.results67, go_sem, s0, s1, s2]) rfl ⟨zs, hcz, ?_⟩
        rw [hv]
        refine NewG.yes ?_ ?_
        · exact (((hM.below hb2).setFar hne _).setFar hne _).setFar hne _
        · exact ((hg2.below.setCell (Nat.le_refl _) _).setCell (Nat.le_refl _) _).setCell (Nat.le_refl _) _

/-- Numbers of the same classes: they are valid alike, and alike if they are valid. -/
theorem alike {zs ys : List Nat} (h : zs.map (cl .f32) = ys.map (cl .f32)) : zs.length = ys.length ∧ finAll zs = finAll ys ∧ (finAll zs = true → zs = ys) := by
  induction zs generalizing ys with
  | nil =>
    cases ys with
    | nil => exact ⟨rfl, rfl, fun _ => rfl⟩
    | cons => simp at h
  | cons z zs ih =>
    cases ys with
    | nil => simp at h
    | cons y ys =>
      simp only [List.map_cons, List.cons.injEq] at h
      obtain ⟨h1, h2⟩ := h
      obtain ⟨i1, i2, i3⟩ := ih h2
      refine ⟨by simp [i1], ?_, fun hf => ?_⟩
      · unfold finAll at *
        simp only [List.all_cons, h1, i2]
      · have hf' : isNum .f32 (cl .f32 z) = true ∧ finAll zs = true := by unfold finAll at hf ⊢; simpa using hf
        have hz : cl .f32 z ≠ none := fun e => by rw [e] at hf'; simp [isNum] at hf'
        obtain ⟨u, hu⟩ := Option.ne_none_iff_exists'.1 hz
        have e1 := cl_some hu
        rw [h1] at hu
        have e2 := cl_some hu
        rw [i3 hf'.2, ← e1, ← e2]
theorem NewG.alike {wide high : Int} {zs ys : List Nat} {w w' : World} {e : Ending} (h : zs.map (cl .f32) = ys.map (cl .f32)) (hn : NewG wide high zs (validB wide high zs) w e w') : NewG wide high ys (validB wide high ys) w e w' := by
  obtain ⟨h1, h2, h3⟩ := _root_.Go.Proofs.Ytcmdmecmgoabaaa.alike h
  have hv : validB wide high zs = validB wide high ys := by unfold validB; rw [h1, h2]
  cases hb : validB wide high zs
  · rw [hb] at hn hv
    rw [← hv]
    exact hn
  · have : zs = ys := h3 (by unfold validB at hb; simp only [Bool.and_eq_true] at hb; exact hb.2)
    subst this
    exact hn
end Go.Proofs.Ytcmdmecmgoabaaa
