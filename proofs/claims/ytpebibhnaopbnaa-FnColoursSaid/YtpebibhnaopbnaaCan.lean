/-
  Whether all can still be coloured: the program's search.
-/
import Derived.Test.YtpebibhnaopbnaaChoice
namespace Go.Proofs.Ytpebibhnaopbnaa
open Go.RowKit Go.Shelf

open Classical in
noncomputable def satB (ps : List Int) (M : Nat) (cs : List Int) : Bool := decide (Sat ps M cs)
theorem satB_yes {ps : List Int} {M : Nat} {cs : List Int} (h : Sat ps M cs) : satB ps M cs = true := by unfold satB; simp [h]
theorem satB_no {ps : List Int} {M : Nat} {cs : List Int} (h : ¬ Sat ps M cs) : satB ps M cs = false := by unfold satB; simp [h]

theorem InS.alt' {w w' : World} {a : Option Addr} {len g : Nat} {xs : List Int} (h : InS w a len xs) (hne : len ≠ 0 → Away g a) (hg : w.grownBy w' (some g)) : InS w' a len xs := by
  by_cases h0 : len = 0
  · obtain ⟨h1, h2, _⟩ := h
    exact ⟨h1, h2, .inl h0⟩
  · exact h.alt (hne h0) hg

/-- The rows of the partners, to be read; no row lies in block g. -/
structure Rds (w : World) (G0 n : Nat) (ps : List Int) (g : Nat) : Prop where
  lt : G0 < w.heap.size
  ne : G0 ≠ g
  row : ∀ i : Nat, i < n → ∃ a cap, w.cell? ⟨G0, i, none⟩ = some (.slice a (nb ps i).length cap) ∧ InS w a (nb ps i).length (nb ps i) ∧ ((nb ps i).length ≠ 0 → Away g a)
section
variable {w w1 : World} {G0 n g : Nat} {ps : List Int}
theorem Rds.next (h : Rds w G0 n ps g) (hb : Below w.heap.size w w1) : Rds w1 G0 n ps g :=
  ⟨Nat.lt_of_lt_of_le h.lt hb.size, h.ne, fun i hi => by
    obtain ⟨a, cap, h1, h2, h3⟩ := h.row i hi
    exact ⟨a, cap, (hb.cell (p := ⟨G0, i, none⟩) h.lt).trans h1, h2.below hb, h3⟩⟩
theorem Rds.alt (h : Rds w G0 n ps g) (hg : w.grownBy w1 (some g)) : Rds w1 G0 n ps g :=
  ⟨Nat.lt_of_lt_of_le h.lt hg.size, h.ne, fun i hi => by
    obtain ⟨a, cap, h1, h2, h3⟩ := h.row i hi
    exact ⟨a, cap, hg.cell h1 (by have := h.ne; simp; omega), h2.alt' h3 hg, h3⟩⟩
end
theorem alt_of_below {w w1 : World} (h : Below w.heap.size w w1) (g : Nat) : w.grownBy w1 (some g) := ⟨h.os, h.tape, h.output, h.size, fun k hk _ => h.block k hk⟩
theorem restore {E : TypeId} {w w2 : World} {g : Nat} {vs : List Value} (hg : w.grownBy w2 (some g)) (h1 : Own E w g vs) (h2 : Own E w2 g vs) : Below w.heap.size w w2 :=
  ⟨hg.os, hg.tape, hg.output, hg.size, fun k hk => by
    by_cases e : k = g
    · subst e; exact h2.trans h1.symm
    · exact hg.block k hk (by simp; omega)⟩
theorem MineV.away {E : TypeId} {B : Nat} {w : World} {a : Option Addr} {len g : Nat} {vs : List Value} (h : MineV E B w a len vs) (hg : g < B) (hl : len ≠ 0) : Away g a := by
  intro b off e
  rcases h.2.2 with h0 | ⟨g', rest, rfl, hB, _⟩
  · exact absurd h0 hl
  · simp at e
    omega

/-- The tightest thing so far. -/
def Tight (ps : List Int) (M n : Nat) (cs : List Int) (g : Nat) (k : Nat) (t7 t8 : Value) (w : World) : Prop :=
  (t7 = .int .i64 (-1) ∧ t8 = .slice none 0 0 ∧ Hid (∀ i : Nat, i < k → 0 ≤ G cs i)) ∨
  (∃ (t l : Nat) (a : Option Addr) (cap : Nat), t7 = .int .i64 (t : Int) ∧ t8 = .slice a l cap ∧ t < n ∧ Hid (G cs t < 0) ∧ Hid (l = (chs (nb ps t) cs M).length) ∧ InS w a l (chs (nb ps t) cs M) ∧ (l ≠ 0 → Away g a))
theorem Tight.next {ps : List Int} {M n : Nat} {cs : List Int} {g k : Nat} {t7 t8 : Value} {w w1 : World} (h : Tight ps M n cs g k t7 t8 w) (hb : Below w.heap.size w w1) : Tight ps M n cs g k t7 t8 w1 := by
  rcases h with h | ⟨t, l, a, cap, h1, h2, h3, h4, h5, h6, h7⟩
  · exact .inl h
  · exact .inr ⟨t, l, a, cap, h1, h2, h3, h4, h5, h6.below hb, h7⟩

set_option maxRecDepth 8000 in
set_option maxHeartbeats 4000000 in
theorem canBe (n : Nat) (hn : 1 ≤ n ∧ n ≤ 16) (M : Nat) (hM : 1 ≤ M ∧ M ≤ 4) (ps : List Int) (hp : pairsB (n : Int) ps = true) (G0 oc g cc : Nat) (rest : List Value) (d : Nat) :
    ∀ (cs : List Int) (w : World), unc cs = d → cs.length = n → (∀ i : Nat, i < n → G cs i < 0 → G cs i = -1) → Own 2 w g (ints cs ++ rest) → Rds w G0 n ps g →
    Calls Try.prog 27 #[.slice (some ⟨G0, 0, none⟩) n oc, .slice (some ⟨g, 0, none⟩) n cc, .int .i64 (M : Int)] w (RetB (.bool (satB ps M cs)) w) := by
  induction d using Nat.strongRecOn with
  | _ d ih =>
  intro cs w hd hcs hneg ho hr
  have hcl : cs.length ≤ 1048576 := by omega
  have hIn : ∀ {w1 : World}, Own 2 w1 g (ints cs ++ rest) → InS w1 (some ⟨g, 0, none⟩) n cs := fun h => hcs ▸ InS.of_row h hcl
  go_enter Try.func27, Try.ntmps27
  go_wp2
  go_loopw [7, 8, 9, 10, 11, 16] (fun t7 t8 _ _ _ i wr => ∃ k : Nat, k ≤ n ∧ i = .int .i64 (k : Int) ∧ Below w.heap.size w wr ∧ Tight ps M n cs g k t7 t8 wr) (fun _ _ _ _ _ i _ => n - (intOf i).toNat)
  case atStart => exact ⟨0, Nat.zero_le _, rfl, Below.refl _ _, .inl ⟨rfl, rfl, fun i hi => absurd hi (Nat.not_lt_zero _)⟩⟩
  case round =>
    obtain ⟨k, hk, rfl, hb, hT⟩ := hrel
    have ho' := ho.below hb
    have hr' := hr.next hb
    by_cases hlt : k < n
    · have c0 := ho'.at (ints_at (cs := cs) (rest := rest) (k := k) (by omega))
      have hG : Hid (G cs k = cs.getD k 0) := Lib.hid (G_nat cs k)
      obtain ⟨oa, ocap, d0, hoI, hoA⟩ := hr'.row k hlt
      have hx : ∀ x ∈ nb ps (k : Int), 0 ≤ x ∧ x < n := fun x hx => by have := nb_range hp hx; omega
      have hch := choices n M (by omega) oa (some ⟨g, 0, none⟩) (nb ps k).length ocap cc (nb ps k) cs wr hoI (hIn ho') hx
      have hlow := ho'.lt
      clear ih
      generalize hcv : cs.getD k 0 = cv at *
      by_cases hneg' : 0 ≤ cv
      · have hT' : Tight ps M n cs g (k + 1) u7 u8 wr := by
          rcases hT with ⟨h1, h2, h3⟩ | h
          · refine .inl ⟨h1, h2, Lib.hid fun i hi => ?_⟩
            by_cases e : i < k
            · exact h3.out i e
            · obtain rfl : i = k := by omega
              rw [hG.out]; exact hneg'
          · exact .inr h
        go_wp2
        go_roundw
        case rel => exact ⟨k + 1, by omega, by go_num, hb, hT'⟩
        case measure => simp [intOf]; omega
      · have hGk : Hid (G cs k < 0) := Lib.hid (by rw [hG.out]; omega)
        have hTk : ∀ (w1 : World) (a : Option Addr) (cap : Nat), MineV 2 wr.heap.size w1 a (chs (nb ps k) cs M).length (ints (chs (nb ps k) cs M)) → Tight ps M n cs g (k + 1) (.int .i64 (k : Int)) (.slice a (chs (nb ps k) cs M).length cap) w1 := fun w1 a cap hM =>
          .inr ⟨k, _, a, cap, rfl, rfl, hlt, hGk, Lib.hid rfl, hM.ins, fun h0 => hM.away hlow h0⟩
        unfold NewC at hch
        rcases hT with ⟨rfl, rfl, _⟩ | ⟨t, l, a, cap, rfl, rfl, ht, hgt, hl, hI, hA⟩
        · go_wp2_with (go_at_call 23; refine hch.mono ?_; rintro e w1 ⟨a1, cap1, rfl, hM1, hb1⟩)
          go_roundw
          case rel => exact ⟨k + 1, by omega, by go_num, hb.trans (hb1.mono hb.size), hTk w1 a1 cap1 hM1⟩
          case measure => simp [intOf]; omega
        · generalize hL : (chs (nb ps k) cs M).length = l1 at *
          by_cases hll : l1 < l
          · have hll' : ((l1 : Nat) : Int) < (l : Int) := by omega
            go_wp2_with (go_at_call 23; refine hch.mono ?_; rintro e w1 ⟨a1, cap1, rfl, hM1, hb1⟩)
            go_roundw
            case rel => exact ⟨k + 1, by omega, by go_num, hb.trans (hb1.mono hb.size), hTk w1 a1 cap1 hM1⟩
            case measure => simp [intOf]; omega
          · have hll' : ¬ ((l1 : Nat) : Int) < (l : Int) := by omega
            go_wp2_with (go_at_call 23; refine hch.mono ?_; rintro e w1 ⟨a1, cap1, rfl, hM1, hb1⟩)
            go_roundw
            case rel => exact ⟨k + 1, by omega, by go_num, hb.trans (hb1.mono hb.size), .inr ⟨t, l, a, cap, rfl, rfl, ht, hgt, hl, hI.below hb1, hA⟩⟩
            case measure => simp [intOf]; omega
    · obtain rfl : k = n := by omega
      rcases hT with ⟨rfl, rfl, hall⟩ | ⟨t, l, a, cap, rfl, rfl, ht, hgt, hl, hI, hA⟩
      · have hres := Lib.hid (satB_yes (sat_done (ps := ps) (most := M) (cs := cs) fun i hi => hall.out i (by omega)))
        clear ih
        go_wp2
        go_ret
        exact ⟨by rw [hres.out]; rfl, hb⟩
      · generalize hLL : chs (nb ps (t : Int)) cs M = L at *
        have hstep := Lib.hid (sat_step (most := M) hp hcs (t := t) (by omega) hgt.out)
        obtain rfl : l = L.length := hl.out
        have hmem : Hid (∀ x ∈ L, 0 ≤ x ∧ x < M) := Lib.hid fun x hx => by rw [← hLL] at hx; exact (mem_chs.1 hx).1
        have hLen := chs_len (nb ps (t : Int)) cs M
        rw [hLL] at hLen
        have hg1 := Lib.hid (hneg t ht hgt.out)
        have hcast : decide ((t : Int) < 0) = false := by simp
        go_wp2
        generalize wr = wq at *
        go_loopw [13, 46] (fun _ i wr => ∃ (j : Nat) (cs' : List Int), j ≤ L.length ∧ i = .int .i64 (j : Int) ∧ wq.grownBy wr (some g) ∧ Own 2 wr g (ints cs' ++ rest) ∧ cs'.length = cs.length ∧ Hid (∀ x, cs'.set t x = cs.set t x) ∧ Hid (∀ x ∈ L.take j, ¬ Sat ps M (cs.set t x))) (fun _ i _ => L.length - (intOf i).toNat)
        case atStart => exact ⟨0, cs, Nat.zero_le _, rfl, alt_refl _ _, ho', rfl, fun _ => rfl, fun x hx => by simp at hx⟩
        case round =>
          obtain ⟨j, cs', hj, rfl, hg, ho2, hcs', hset, hno⟩ := hrel
          clear ho'
          by_cases hlt2 : j < L.length
          · obtain ⟨b, off, x, rfl, hbb, c0, hx⟩ := (hI.alt' hA hg).get hlt2
            have hxm : x ∈ L := by rw [← hx.out, getD_at (by omega)]; exact List.getElem_mem _
            have hxr := hmem.out x hxm
            have d0 := ho2.at (ints_at (cs := cs') (rest := rest) (k := t) (by omega))
            have f0 := ho2.free t
            have ho3 := ho2.set t (.int .i64 x)
            rw [ints_set_at (by omega), hset.out] at ho3
            have hg3 := alt_set hg t (.int .i64 x)
            have hun := unc_set (cs := cs) (t := t) (by omega) hgt.out hxr.1
            have hcall := ih (unc (cs.set t x)) (by omega) (cs.set t x) (wr.setCell ⟨g, t, none⟩ (.int .i64 x)) rfl (by simpa using hcs) (fun i hi h0 => by
              by_cases e : i = t
              · subst e; rw [G_set_same (by omega)] at h0; omega
              · rw [G_set_other (by simpa using e)] at h0 ⊢; exact hneg i hi h0) ho3 (hr'.alt hg3)
            clear ih
            by_cases hs : Sat ps M (cs.set t x)
            · rw [satB_yes hs] at hcall
              have hres := Lib.hid (satB_yes (hstep.out.2 ⟨x, by rw [hLL]; exact hxm, hs⟩))
              go_wp2_with (go_at_call 27; refine hcall.mono ?_; rintro e w1 ⟨rfl, hb1⟩; have ho4 := ho3.below hb1; have f1 := ho4.free t; have d1 := ho4.at (ints_at (cs := cs.set t x) (rest := rest) (k := t) (by simp; omega)))
              go_ret
              refine ⟨by rw [hres.out]; rfl, ?_⟩
              have ho5 := ho4.set t (.int .i64 (-1))
              rw [ints_set_at (by simp; omega), set_back (by omega) hg1.out] at ho5
              exact restore ((alt_of_below hb g).trans (alt_set (hg3.trans (alt_of_below hb1 g)) _ _)) ho ho5
            · rw [satB_no hs] at hcall
              have hno' : Hid (∀ y ∈ L.take (j + 1), ¬ Sat ps M (cs.set t y)) := by
                refine Lib.hid fun y hy => ?_
                rw [List.take_succ_eq_append_getElem (by omega), List.mem_append] at hy
                rcases hy with hy | hy
                · exact hno.out y hy
                · simp only [List.mem_singleton] at hy
                  rw [hy, ← getD_at (d := 0) (by omega), hx.out]
                  exact hs
              go_wp2_with (go_at_call 27; refine hcall.mono ?_; rintro e w1 ⟨rfl, hb1⟩)
              go_roundw
              case rel => exact ⟨j + 1, cs.set t x, by omega, by go_num, hg3.trans (alt_of_below hb1 g), ho3.below hb1, by simp, Lib.hid fun y => by rw [List.set_set], hno'⟩
              case measure => simp [intOf]; omega
          · obtain rfl : j = L.length := by omega
            have f0 := ho2.free t
            have d0 := ho2.at (ints_at (cs := cs') (rest := rest) (k := t) (by omega))
            have hres := Lib.hid (satB_no (ps := ps) (M := M) (cs := cs) fun hs => by
              obtain ⟨x, hx, hs'⟩ := hstep.out.1 hs
              rw [hLL] at hx
              exact hno.out x (by rw [List.take_of_length_le (by omega)]; exact hx) hs')
            clear ih
            go_wp2
            go_ret
            refine ⟨by rw [hres.out]; rfl, ?_⟩
            have ho5 := ho2.set t (.int .i64 (-1))
            rw [ints_set_at (by omega), hset.out, show cs.set t (-1) = cs by have := set_back (cs := cs) (t := t) (c := 0) (by omega) hg1.out; rwa [List.set_set] at this] at ho5
            exact restore ((alt_of_below hb g).trans (alt_set hg _ _)) ho ho5
end Go.Proofs.Ytpebibhnaopbnaa
