/-
  A flat grid: the program's words; and the marking of grids.
-/
import Derived.Test.YtcmdmecmgoabaaaMade
namespace Go.Proofs.Ytcmdmecmgoabaaa
open Go.RowKit Go.Shelf

theorem flatHeight (x p : Nat) (n : Nat) (w : World) (hp : p < w.heap.size) (hc : w.cell? ⟨p, 0, none⟩ = some (.float .f32 x)) : Makes 68 #[.pointer (some ⟨p, 0, none⟩)] n (fun _ => cl .f32 x) w := fun W i _ hb => by
  have hcW : W.cell? ⟨p, 0, none⟩ = some (.float .f32 x) := (hb.cell (p := ⟨p, 0, none⟩) hp).trans hc
  show Calls Try.prog 68 #[.int .i64 (i : Int), .pointer (some ⟨p, 0, none⟩)] W _
  go_enter Try.func68, Try.ntmps68
  go_wp2
  go_ret
  exact ⟨x, rfl, rfl, Below.refl _ _⟩

theorem cls_rep (n x : Nat) : (List.replicate n x).map (cl .f32) = cls n fun _ => cl .f32 x := by
  unfold cls
  induction n with
  | zero => rfl
  | succ n ih => rw [List.replicate_succ', List.range_succ, List.map_append, List.map_append, ih]; rfl

set_option maxRecDepth 8000 in
theorem implFlatGrid (wide high : Int) (x : Nat) (w : World) :
    Calls Try.prog 27 #[.int .i64 wide, .int .i64 high, .float .f32 x] w (NewG wide high (List.replicate (wide * high).toNat x) (validB wide high (List.replicate (wide * high).toNat x)) w) := by
  have cs := areSides wide high
  cases hs : sidesB wide high with
  | false =>
    have hv : validB wide high (List.replicate (wide * high).toNat x) = false := by unfold validB; rw [hs]; rfl
    rw [hs] at cs
    rw [hv]
    go_enter Try.func27, Try.ntmps27
    go_wp2_with (go_at_call 56; refine (cs _).mono ?_; rintro e w' ⟨rfl, rfl⟩)
    refine bodyPost_ret (v := .tuple #[.agg #[.int .i64 0, .int .i64 0, .slice none 0 0], .bool false]) (by simp [results, Try.results27, go_sem]) rfl (NewG.no ?_)
    exact ((Below.refl _ _).alloc (Nat.le_refl _) _).alloc (by simp) _
  | true =>
    rw [hs] at cs
    obtain ⟨hm1, hm2⟩ := sides_mul hs
    obtain ⟨n, hn⟩ : ∃ n : Nat, wide * high = n := ⟨(wide * high).toNat, by omega⟩
    rw [hn, Int.toNat_natCast]
    have hb : Below w.heap.size w ((w.alloc (.cells #[.float .f32 x] 22)).alloc (.cells #[.int .i64 0, .int .i64 0, .slice none 0 0] 33)) := ((Below.refl _ _).alloc (Nat.le_refl _) _).alloc (by simp) _
    have call := madeGrid wide high 68 #[.pointer (some ⟨w.heap.size, 0, none⟩)] n _ ((w.alloc (.cells #[.float .f32 x] 22)).alloc (.cells #[.int .i64 0, .int .i64 0, .slice none 0 0] 33)) hs hn (enters_of Try.func68 (by kernel_rfl) rfl) (flatHeight x w.heap.size n _ (by simp; omega) (by simp))
    have ho := (Own.new (w.alloc (.cells #[.float .f32 x] 22)) [.int .i64 0, .int .i64 0, .slice none 0 0] 33)
    simp only [World.size_alloc] at ho
    go_enter Try.func27, Try.ntmps27
    go_wp2_with (first | (go_at_call 56; refine (cs _).mono ?_; rintro e w' ⟨rfl, rfl⟩) | (go_at_call 67; refine call.mono ?_; intro e w2 he; obtain ⟨zs, hz, he⟩ := he; obtain ⟨a, cap, he, hM, hb2⟩ := NewG.alike (hz.trans (cls_rep n x).symm) he; subst he; have o2 := ho.below hb2; have s0 := o2.at (k := 0) rfl; have s1 := o2.at (k := 1) rfl; have s2 := o2.at (k := 2) rfl; have g0 := o2.free 0; have g1 := o2.free 1; have g2 := o2.free 2; unfold GV))
    generalize validB wide high (List.replicate n x) = ok at *
    refine bodyPost_ret (v := .tuple #[GV (iffI ok wide) (iffI ok high) a (outG ok (List.replicate n x)).length cap, .bool ok]) (by simp [results, Try.results27, go_sem, s0, s1, s2, GV]) rfl ⟨a, cap, rfl, ?_, ?_⟩
    · have hne : ∀ g, a = some ⟨g, 0, none⟩ → (outG ok (List.replicate n x)).length ≠ 0 → g ≠ w.heap.size + 1 := fun g e hl => by
        have := hM.base hl g e
        simp at this
        omega
      have hM' := hM.mono (B' := w.heap.size) (by simp; omega)
      by_cases hl : (outG ok (List.replicate n x)).length = 0
      · exact ⟨by simp [fls, hl], by omega, .inl hl⟩
      · exact ((hM'.setFar (fun g e => hne g e hl) _).setFar (fun g e => hne g e hl) _).setFar (fun g e => hne g e hl) _
    · have hb3 := hb.trans (hb2.mono hb.size)
      exact ((hb3.setCell (Nat.le_succ _) _).setCell (Nat.le_succ _) _).setCell (Nat.le_succ _) _

/-! ### Marking -/
def MarkedG (B : Nat) (a : Option Addr) (len : Nat) (k : Int) (w : World) (e : Ending) (w' : World) : Prop :=
  ∃ w1, Below w.heap.size w w1 ∧ e = .returned (.int .i64 (k + len)) ∧ MineV 22 B w' a len (fls (markF len k)) ∧ OnlyAt a len w1 w'

theorem markGrid (B : Nat) (wide high : Int) (a : Option Addr) (len cap : Nat) (xs : List Nat) (k : Int) (hk : 0 ≤ k ∧ k ≤ 1000000) (w : World) (h : MineV 22 B w a len (fls xs)) :
    Calls Try.prog 28 #[GV wide high a len cap, .int .i64 k] w (MarkedG B a len k w) := by
  have hb : ∀ o, Below w.heap.size w (w.alloc o) := fun o => (Below.refl _ _).alloc (Nat.le_refl _) _
  have call := markFloat32S B a len cap xs k hk _ (h.below (hb (.cells #[.int .i64 wide, .int .i64 high, .slice a len cap] 33)))
  unfold GV
  go_enter Try.func28, Try.ntmps28
  go_wp2_with (go_at_call 69; refine call.mono ?_; rintro e w' ⟨rfl, hm, ho⟩)
  go_ret
  exact ⟨_, hb _, rfl, hm, ho⟩
theorem heldGrid (B : Nat) (wide high : Int) (a : Option Addr) (len cap : Nat) (k : Int) (hk : 0 ≤ k ∧ k ≤ 1000000) (w : World) (h : MineV 22 B w a len (fls (markF len k))) :
    Calls Try.prog 29 #[GV wide high a len cap, .int .i64 k] w (fun e w' => e = .returned (.int .i64 (k + len)) ∧ Below w.heap.size w w') := by
  have hb : ∀ o, Below w.heap.size w (w.alloc o) := fun o => (Below.refl _ _).alloc (Nat.le_refl _) _
  have call := heldFloat32S B a len cap k hk _ (h.below (hb (.cells #[.int .i64 wide, .int .i64 high, .slice a len cap] 33)))
  have hm := h.2.1
  unfold GV
  go_enter Try.func29, Try.ntmps29
  go_wp2_with (go_at_call 70; refine call.mono ?_; rintro e w' ⟨rfl, rfl⟩)
  go_ret
  exact ⟨rfl, hb _⟩
end Go.Proofs.Ytcmdmecmgoabaaa
