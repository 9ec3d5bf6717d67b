/-
  Predicates over numbers, handed over as function values; free colours, the program's way.
-/
import Derived.Test.YtpebibhnaopbnaaPart
import Derived.Shelf.Abstract
namespace Go.Proofs.Ytpebibhnaopbnaa
open Go.RowKit Go.Shelf

/-- What is asked of a predicate: it says p of each number of the list, and makes no more than new memory. -/
def PredI (g : Nat) (lb : Array Value) (p : Int → Bool) (xs : List Int) (w : World) : Prop :=
  ∀ (W : World) (x : Int), x ∈ xs → Below w.heap.size w W → Calls Try.prog g (#[.int .i64 x] ++ lb) W (RetB (.bool (p x)) W)
/-- It can be called. -/
def Goes (g : Nat) : Prop := ∀ args w, (callFunc g args).run Try.prog w = .ok (.enter g args) w
/-- i is the place of the first element that meets p, or -1. -/
def IdxOf (p : Int → Bool) (xs : List Int) (i : Int) : Prop :=
  (i = -1 ∧ ∀ j, j < xs.length → p (xs.getD j 0) = false) ∨ (∃ k : Nat, i = k ∧ k < xs.length ∧ p (xs.getD k 0) = true ∧ ∀ j, j < k → p (xs.getD j 0) = false)
def RetIdx (p : Int → Bool) (xs : List Int) (w : World) (e : Ending) (w' : World) : Prop := ∃ i, e = .returned (.int .i64 i) ∧ IdxOf p xs i ∧ Below w.heap.size w w'

theorem indexFunc (g : Nat) (lb : Array Value) (p : Int → Bool) (eg : Goes g) (a : Option Addr) (len cap : Nat) (xs : List Int) (w : World) (h : InS w a len xs) (hp : PredI g lb p xs w) :
    Calls Try.prog 24 #[.slice a len cap, .func (.func g) #[] lb] w (RetIdx p xs w) := by
  have hm := h.max
  have hl := Lib.hid h.size
  unfold Goes at eg
  go_enter Try.func24, Try.ntmps24
  go_wp2
  go_loopw [5, 8] (fun _ i wr => ∃ k : Nat, k ≤ len ∧ i = .int .i64 k ∧ Below w.heap.size w wr ∧ Hid (∀ j, j < k → p (xs.getD j 0) = false)) (fun _ i _ => len - (intOf i).toNat)
  case atStart => exact ⟨0, Nat.zero_le _, rfl, Below.refl _ _, fun j hj => absurd hj (Nat.not_lt_zero _)⟩
  case round =>
    obtain ⟨k, hk, rfl, hb, hall⟩ := hrel
    by_cases hlt : k < len
    · obtain ⟨b, off, x, rfl, hbb, hck, hzz⟩ := h.get hlt
      have c0 := (hb.cell (p := ⟨b, off + k, none⟩) hbb).trans hck
      have hcall := hp wr x (by rw [← hzz.out, getD_at (by rw [h.size]; exact hlt)]; exact List.getElem_mem _) hb
      clear hck
      have hpr : Hid (p (xs.getD k 0) = p x) := by have := hzz.out; rw [this]; exact rfl
      generalize p x = q at hcall hpr
      cases q with
      | true =>
        go_wp2_with (go_at_fn g; refine hcall.mono ?_; rintro e w' ⟨rfl, hb'⟩)
        go_ret
        exact ⟨_, rfl, .inr ⟨k, rfl, by rw [h.size]; exact hlt, hpr.out, hall.out⟩, hb.trans (hb'.mono hb.size)⟩
      | false =>
        go_wp2_with (go_at_fn g; refine hcall.mono ?_; rintro e w' ⟨rfl, hb'⟩)
        go_roundw
        case rel =>
          refine ⟨k + 1, by omega, by go_num, hb.trans (hb'.mono hb.size), ?_⟩
          show ∀ j, j < k + 1 → _
          intro j hj
          by_cases e : j = k
          · rw [e]; exact hpr.out
          · exact hall.out j (by omega)
        case measure => simp [intOf]; omega
    · go_wp2
      go_ret
      refine ⟨_, rfl, .inl ⟨rfl, ?_⟩, hb⟩
      have := hall.out
      intro j hj
      exact this j (by rw [h.size] at hj; omega)

theorem IdxOf.any {p : Int → Bool} {xs : List Int} {i : Int} (h : IdxOf p xs i) : decide (0 ≤ i) = xs.any p := by
  rcases h with ⟨rfl, h⟩ | ⟨k, rfl, hk, hp, _⟩
  · symm
    show xs.any p = false
    rw [List.any_eq_false]
    intro r hr
    obtain ⟨j, hj, rfl⟩ := List.getElem_of_mem hr
    have := h j hj
    rw [getD_at hj] at this
    simp [this]
  · have : xs.any p = true := by
      rw [List.any_eq_true]
      refine ⟨_, List.getElem_mem hk, ?_⟩
      rw [getD_at hk] at hp
      exact hp
    rw [this]
    simp

theorem containsFunc (g : Nat) (lb : Array Value) (p : Int → Bool) (eg : Goes g) (a : Option Addr) (len cap : Nat) (xs : List Int) (w : World) (h : InS w a len xs) (hp : PredI g lb p xs w) :
    Calls Try.prog 34 #[.slice a len cap, .func (.func g) #[] lb] w (RetB (.bool (xs.any p)) w) := by
  have hcon := indexFunc g lb p eg a len cap xs w h hp
  go_enter Try.func34, Try.ntmps34
  go_wp2_with (go_at_call 24; refine hcon.mono ?_; rintro e w' ⟨i, rfl, hi, hb⟩)
  go_ret
  exact ⟨by rw [hi.any]; rfl, hb⟩

/-- The closure of isFree: has k this colour? -/
theorem hasColour (n : Nat) (ca : Option Addr) (cc : Nat) (cs : List Int) (col : Int) (B1 B2 : Nat) (xs : List Int) (w : World) (hc : InS w ca n cs) (hx : ∀ x ∈ xs, 0 ≤ x ∧ x < n)
    (h1 : B1 < w.heap.size) (h2 : B2 < w.heap.size) (c1 : w.cell? ⟨B1, 0, none⟩ = some (.slice ca n cc)) (c2 : w.cell? ⟨B2, 0, none⟩ = some (.int .i64 col)) :
    PredI 35 #[.pointer (some ⟨B1, 0, none⟩), .pointer (some ⟨B2, 0, none⟩)] (fun x => decide (G cs x = col)) xs w := fun W x hmem hb => by
  obtain ⟨hx0, hx1⟩ := hx x hmem
  obtain ⟨xn, rfl⟩ : ∃ xn : Nat, x = (xn : Int) := ⟨x.toNat, by omega⟩
  have d1 := (hb.cell (p := ⟨B1, 0, none⟩) h1).trans c1
  have d2 := (hb.cell (p := ⟨B2, 0, none⟩) h2).trans c2
  have hxn : xn < n := by omega
  obtain ⟨b, off, y, rfl, hbb, hck, hzz⟩ := (hc.below hb).get hxn
  have hm := hc.max
  show Calls Try.prog 35 #[.int .i64 (xn : Int), .pointer (some ⟨B1, 0, none⟩), .pointer (some ⟨B2, 0, none⟩)] W (RetB (.bool (decide (G cs (xn : Int) = col))) W)
  rw [G_nat, hzz.out]
  go_enter Try.func35, Try.ntmps35
  go_wp2
  go_quiet (fail)
  go_wp2
  go_ret
  exact ⟨by by_cases e : y = col <;> simp [e], below_drewN (Below.refl _ _) _⟩

theorem isFree (n : Nat) (oa ca : Option Addr) (on oc cc : Nat) (own cs : List Int) (col : Int) (w : World) (ho : InS w oa on own) (hc : InS w ca n cs) (hx : ∀ x ∈ own, 0 ≤ x ∧ x < n) :
    Calls Try.prog 31 #[.slice oa on oc, .slice ca n cc, .int .i64 col] w (RetB (.bool (freeB own cs col)) w) := by
  have hb2 : ∀ o1 o2, Below w.heap.size w ((w.alloc o1).alloc o2) := fun o1 o2 => ((Below.refl _ _).alloc (Nat.le_refl _) _).alloc (by simp) _
  have hcon := fun E1 E2 => containsFunc 35 #[.pointer (some ⟨w.heap.size, 0, none⟩), .pointer (some ⟨w.heap.size + 1, 0, none⟩)] (fun x => decide (G cs x = col)) (enters_of Try.func35 (by kernel_rfl) rfl) oa on oc own ((w.alloc (.cells #[.slice ca n cc] E1)).alloc (.cells #[.int .i64 col] E2)) (ho.below (hb2 _ _))
    (hasColour n ca cc cs col w.heap.size (w.heap.size + 1) own _ (hc.below (hb2 _ _)) hx (by simp; omega) (by simp) ((World.cell?_of_block (w := w.alloc (.cells #[.slice ca n cc] E1)) (Below.heap_alloc _ _ w.heap.size (by simp))).trans (by simp)) (by
      have : (w.alloc (.cells #[.slice ca n cc] E1)).heap.size = w.heap.size + 1 := by simp
      rw [← this]
      simp))
  go_enter Try.func31, Try.ntmps31
  go_wp2_with (go_at_call 34; refine (hcon _ _).mono ?_; rintro e w' ⟨rfl, hb'⟩)
  go_ret
  refine ⟨?_, (hb2 _ _).trans (hb'.mono (by simp; omega))⟩
  have : (!own.any fun x => decide (G cs x = col)) = freeB own cs col := by
    unfold freeB
    rw [List.all_eq_not_any_not]
    congr 2
    funext x
    by_cases e : G cs x = col <;> simp [e]
  rw [this]
  rfl

/-- A new list. -/
def NewC (L : List Int) (w : World) (e : Ending) (w' : World) : Prop :=
  ∃ a cap, e = .returned (.slice a L.length cap) ∧ MineV 2 w.heap.size w' a L.length (ints L) ∧ Below w.heap.size w w'

set_option maxHeartbeats 1000000 in
theorem choices (n M : Nat) (hM : M ≤ 1000) (oa ca : Option Addr) (on oc cc : Nat) (own cs : List Int) (w : World) (ho : InS w oa on own) (hc : InS w ca n cs) (hx : ∀ x ∈ own, 0 ≤ x ∧ x < n) :
    Calls Try.prog 23 #[.slice oa on oc, .slice ca n cc, .int .i64 (M : Int)] w (NewC (chs own cs M) w) := by
  obtain ⟨i0, hi, hz0, hz1, hz2⟩ := info_parts infoI
  go_enter Try.func23, Try.ntmps23
  go_wp2
  go_loopw [7, 8, 10] (fun v _ i wr => ∃ k : Nat, k ≤ M ∧ i = .int .i64 (k : Int) ∧ wr.ownsRow w.heap.size 2 1 v (chs own cs k).length (ints (chs own cs k)) ∧ Below w.heap.size w wr) (fun _ _ i _ => M - (intOf i).toNat)
  case atStart => exact ⟨0, Nat.zero_le _, rfl, World.ownsRow_nil _ _ _ _, Below.refl _ _⟩
  case round =>
    obtain ⟨k, hk, rfl, hrow, hb⟩ := hrel
    by_cases hlt : k < M
    · have hfree := isFree n oa ca on oc cc own cs k wr (ho.below hb) (hc.below hb) hx
      have hlen := chs_len own cs k
      cases hf : freeB own cs k with
      | false =>
        rw [hf] at hfree
        have e : Hid (chs own cs (k + 1) = chs own cs k) := Lib.hid (by rw [chs_succ, hf]; simp)
        go_wp2_with (go_at_call 31; refine hfree.mono ?_; rintro e w' ⟨rfl, hb'⟩)
        go_roundw
        case rel => exact ⟨k + 1, by omega, by go_num, by rw [e.out]; exact hrow.kept (grown_of_below' hb') (by cases u7.ownBlock <;> simp), hb.trans (hb'.mono hb.size)⟩
        case measure => simp [intOf]; omega
      | true =>
        rw [hf] at hfree
        have e : Hid (chs own cs (k + 1) = chs own cs k ++ [(k : Int)]) := Lib.hid (by rw [chs_succ, hf]; simp)
        generalize chs own cs k = us at *
        go_wp2_with (first | (go_at_call 31; refine hfree.mono ?_; rintro e w1 ⟨rfl, hb'⟩; have hrow1 : w1.ownsRow w.heap.size 2 1 u7 us.length (ints us) := hrow.kept (grown_of_below' hb') (by cases u7.ownBlock <;> simp); have hb1 := hb.trans (hb'.mono hb.size); have hB1 := hb1.size) | (at_builtin; refine wpList_append_lies _ rfl (.tmp 17) (.tmp 19) 22 rfl w.heap.size 2 i0 (.int .i64 0) 1 8 Try.underlying22 hi hz0 hz1 hz2 rfl (by decide) u7 us.length (ints us) rfl (hrow1.alloc _) ⟨w1.heap.size, 0, none⟩ 1 1 [.int .i64 (k : Int)] rfl rfl (World.news_of_block (heap_alloc_new _ _)) (ints_one _) (by omega) (by unfold maxLen; omega) (by omega) (by simp; omega) (w1.heap.size + 1) (by simp) ?_; intro q cq w5 hown hgrow hat hlt2))
        go_roundw
        case rel =>
          refine ⟨k + 1, by omega, by go_num, ?_, (hb1.alloc hB1 _).grown hgrow (by simp; omega) fun k hk => (hrow1.lt k hk).1⟩
          rw [e.out, List.length_append, ints_app]
          exact hown
        case measure => simp [intOf]; omega
    · obtain rfl : k = M := by omega
      have hlen := chs_len own cs k
      obtain ⟨ar, cr, rfl, hM⟩ := row_mineI hrow (by omega)
      go_wp2
      go_ret
      exact ⟨ar, cr, rfl, hM, hb⟩
end Go.Proofs.Ytpebibhnaopbnaa
