/-
  The specification's search, and its first list of few colours.
-/
import Derived.Test.YtpebibhnaopbnaaFree
import Derived.Maps.AppendAt
namespace Go.Proofs.Ytpebibhnaopbnaa
open Go.RowKit

/-- A slice that lies elsewhere than in block g. -/
def Away (g : Nat) (a : Option Addr) : Prop := ∀ b off, a = some ⟨b, off, none⟩ → b ≠ g
theorem InS.alt {w w' : World} {a : Option Addr} {len g : Nat} {xs : List Int} (h : InS w a len xs) (hne : Away g a) (hg : w.grownBy w' (some g)) : InS w' a len xs := by
  obtain ⟨h1, h2, h3⟩ := h
  refine ⟨h1, h2, ?_⟩
  rcases h3 with h3 | ⟨b, off, rfl, hlt, hc⟩
  · exact .inl h3
  · exact .inr ⟨b, off, rfl, Nat.lt_of_lt_of_le hlt hg.size, fun i hi => hg.cell (hc i hi) (by have := hne b off rfl; simp; omega)⟩
theorem alt_refl (w : World) (g : Nat) : w.grownBy w (some g) := ⟨rfl, rfl, rfl, Nat.le_refl _, fun _ _ _ => rfl⟩
theorem alt_set {w w' : World} {g : Nat} (h : w.grownBy w' (some g)) (k : Nat) (v : Value) : w.grownBy (w'.setCell ⟨g, k, none⟩ v) (some g) := by
  refine ⟨h.os, h.tape, h.output, by simpa [World.setCell] using h.size, fun j hj hne => ?_⟩
  rw [Below.heap_setCell w' ⟨g, k, none⟩ v j (by simpa using hne)]
  exact h.block j hj hne
theorem alt_below {w w' : World} {g B : Nat} (h : w.grownBy w' (some g)) (hB : B ≤ g) (hs : B ≤ w.heap.size) : Below B w w' :=
  ⟨h.os, h.tape, h.output, h.size, fun k hk => h.block k (by omega) (by simp; omega)⟩
theorem ints_set_at {cs : List Int} {rest : List Value} {k : Nat} (hk : k < cs.length) (v : Int) : (ints cs ++ rest).set k (.int .i64 v) = ints (cs.set k v) ++ rest := by
  rw [List.set_append_left _ _ (by rw [ints_len]; exact hk), ints_set]
theorem ints_at {cs : List Int} {rest : List Value} {k : Nat} (hk : k < cs.length) : (ints cs ++ rest)[k]? = some (.int .i64 (cs.getD k 0)) := by
  rw [List.getElem?_append_left (by rw [ints_len]; exact hk)]
  exact ints_get hk
theorem InS.of_row {E : TypeId} {w : World} {g : Nat} {cs : List Int} {rest : List Value} (h : Own E w g (ints cs ++ rest)) (hm : cs.length ≤ 1048576) : InS w (some ⟨g, 0, none⟩) cs.length cs :=
  ⟨rfl, hm, .inr ⟨g, 0, rfl, h.lt, fun i hi => by rw [Nat.zero_add]; exact h.at (ints_at hi)⟩⟩
theorem set_back {cs : List Int} {t : Nat} {c : Int} (ht : t < cs.length) (h : G cs t = -1) : (cs.set t c).set t (-1) = cs := by
  rw [List.set_set]
  rw [G_nat, getD_at ht] at h
  rw [← h]
  exact List.set_getElem_self ht

/-- What the search leaves. -/
def Filled (ps : List Int) (most d t : Nat) (cs : List Int) (g : Nat) (rest : List Value) (w : World) (e : Ending) (w' : World) : Prop :=
  e = .returned (.bool (first ps most d t cs).isSome) ∧ Own 2 w' g (ints ((first ps most d t cs).getD cs) ++ rest) ∧ w.grownBy w' (some g)

set_option maxHeartbeats 2000000 in
theorem l04Fill (n : Nat) (hn : 1 ≤ n ∧ n ≤ 16) (most : Nat) (hmost : 1 ≤ most ∧ most ≤ 4) (ps : List Int) (hp : pairsB (n : Int) ps = true) (g : Nat) (cc : Nat) (rest : List Value) (pa : Option Addr) (len pc : Nat) (hne : Away g pa) (d : Nat) :
    ∀ (t : Nat) (cs : List Int) (w : World), cs.length = n → t + d = cs.length → Bare t cs → Own 2 w g (ints cs ++ rest) → InS w pa len ps →
    Calls Try.prog 18 #[.slice (some ⟨g, 0, none⟩) n cc, .slice pa len pc, .int .i64 (t : Int), .int .i64 (most : Int)] w (Filled ps most d t cs g rest w) := by
  induction d with
  | zero =>
    intro t cs w hcs hd hb ho h
    have ht : t = n := by omega
    subst ht
    go_enter Try.func18, Try.ntmps18
    go_wp2
    go_ret
    exact ⟨rfl, ho, alt_refl _ _⟩
  | succ d ih =>
    intro t cs w hcs hd hb ho h
    have htn : t < n := by omega
    have hnn : ((t : Int) == (n : Int)) = false := by simp; omega
    have hw1 : IntKind.i64.wrap ((t : Int) + 1) = ((t + 1 : Nat) : Int) := by rw [IntWalk.i64_in _ (by omega)]; simp
    have hc1 := (hb t (by omega)).1 (Nat.le_refl _)
    have hcl : cs.length ≤ 1048576 := by omega
    have hlen := Lib.hid hcs
    go_enter Try.func18, Try.ntmps18
    go_wp2
    go_loopw [9] (fun r wr => ∃ c : Nat, c ≤ most ∧ r = .int .i64 (c : Int) ∧ Own 2 wr g (ints cs ++ rest) ∧ w.grownBy wr (some g) ∧ Hid (∀ c' : Nat, c' < c → freeB (nb ps t) cs c' = true → ¬ Sat ps most (cs.set t c'))) (fun r _ => most - (intOf r).toNat)
    case atStart => exact ⟨0, Nat.zero_le _, rfl, ho, alt_refl _ _, fun c' hc' => absurd hc' (Nat.not_lt_zero _)⟩
    case round =>
      obtain ⟨c, hc, rfl, ho', hg, hno⟩ := hrel
      by_cases hlt : c < most
      · have hfree := l04Free n (some ⟨g, 0, none⟩) pa n cc len pc cs ps t c wr hp (hcs ▸ InS.of_row ho' hcl) hcs (h.alt hne hg)
        have hw2 : IntKind.i64.wrap ((c : Int) + 1) = ((c + 1 : Nat) : Int) := by rw [IntWalk.i64_in _ (by omega)]; simp
        cases hf : freeB (nb ps t) cs c with
        | false =>
          rw [hf] at hfree
          have hno' : Hid (∀ c' : Nat, c' < c + 1 → freeB (nb ps t) cs c' = true → ¬ Sat ps most (cs.set t c')) := by
            refine Lib.hid fun c' h1 h2 => ?_
            by_cases e : c' < c
            · exact hno.out c' e h2
            · obtain rfl : c' = c := by omega
              rw [hf] at h2; cases h2
          clear hno ih hf
          go_wp2_with (go_at_call 28; refine hfree.mono ?_; rintro e w' ⟨rfl, rfl⟩)
          go_roundw
          case rel => exact ⟨c + 1, by omega, by go_num, ho', hg, hno'⟩
          case measure => simp [intOf]; omega
        | true =>
          rw [hf] at hfree
          have hf0 := ho'.free t
          have hset := ho'.set t (.int .i64 (c : Int))
          rw [ints_set_at (by omega)] at hset
          have hgs := alt_set hg t (.int .i64 (c : Int))
          have hcell : wr.cell? ⟨g, t, none⟩ = some (.int .i64 (cs.getD t 0)) := ho'.at (ints_at (by omega))
          have hrec := ih (t + 1) (cs.set t c) _ (by simpa using hcs) (by simp; omega) (hb.step (by omega) (by omega)) hset (h.alt hne hgs)
          have hfs := first_sat (most := most) hp (d := d) (t := t + 1) (cs := cs.set t c) (by simpa using hcs) (by simp; omega) (hb.step (by omega) (by omega))
          have hstep : first ps most (d + 1) t cs = match pick ps most cs t with | none => none | some col => first ps most d (t + 1) (cs.set t col) := rfl
          clear ih ho'
          unfold Filled at hrec
          cases hr : first ps most d (t + 1) (cs.set t c) with
          | none =>
            rw [hr] at hrec hfs
            have hns : ¬ Sat ps most (cs.set t c) := fun hs => by have := hfs.2 hs; simp at this
            have hno' : Hid (∀ c' : Nat, c' < c + 1 → freeB (nb ps t) cs c' = true → ¬ Sat ps most (cs.set t c')) := by
              refine Lib.hid fun c' h1 h2 => ?_
              by_cases e : c' < c
              · exact hno.out c' e h2
              · obtain rfl : c' = c := by omega
                exact hns
            clear hno hf hfs hns hstep hr
            go_wp2_with (first | (go_at_call 28; refine hfree.mono ?_; rintro e w' ⟨rfl, rfl⟩) | (go_at_call 18; refine hrec.mono ?_; rintro e w1 ⟨rfl, ho1, hg1⟩; have f1 := ho1.free t; have c1 := ho1.at (ints_at (k := t) (by simp; omega))))
            go_roundw
            case rel =>
              refine ⟨c + 1, by omega, by go_num, ?_, alt_set (hgs.trans hg1) _ _, hno'⟩
              have := ho1.set t (.int .i64 (-1))
              rw [Option.getD_none, ints_set_at (by simp; omega), set_back (by omega) hc1] at this
              exact this
            case measure => simp [intOf]; omega
          | some cf =>
            rw [hr] at hrec hfs
            have hs : Sat ps most (cs.set t c) := hfs.1 rfl
            have hpk := pick_eq hlt hf hs hno.out
            have hres : first ps most (d + 1) t cs = some cf := by rw [hstep, hpk]; exact hr
            have hres := Lib.hid hres
            clear hno hf hfs hs hstep hr hpk
            go_wp2_with (first | (go_at_call 28; refine hfree.mono ?_; rintro e w' ⟨rfl, rfl⟩) | (go_at_call 18; refine hrec.mono ?_; rintro e w1 ⟨rfl, ho1, hg1⟩))
            go_ret
            unfold Filled
            rw [hres.out]
            exact ⟨rfl, ho1, hgs.trans hg1⟩
      · obtain rfl : c = most := by omega
        have hpk := pick_no hno.out
        have hres : first ps c (d + 1) t cs = none := by simp only [first, hpk]
        have hres := Lib.hid hres
        clear hno hpk ih
        go_wp2
        go_ret
        unfold Filled
        rw [hres.out]
        exact ⟨rfl, ho', hg⟩
end Go.Proofs.Ytpebibhnaopbnaa
