/-
  The neighbours of a place: told twice, by their set.
-/
import Derived.Test.YtcmdmecmgoabaaaPeaks
namespace Go.Proofs.Ytcmdmecmgoabaaa
open Go.RowKit Go.Shelf

/-- k is a neighbour at (u, v) that meets P. -/
def Win (wide high x y i : Int) (P : Int → Int → Prop) (k : Int) : Prop :=
  ∃ u v, (0 ≤ u ∧ u < wide) ∧ (0 ≤ v ∧ v < high) ∧ (x - 1 ≤ u ∧ u ≤ x + 1) ∧ (y - 1 ≤ v ∧ v ≤ y + 1) ∧ k = v * wide + u ∧ k ≠ i ∧ P u v
def Nb (wide high x y i : Int) (k : Int) : Prop := Win wide high x y i (fun _ _ => True) k
/-- L holds those that have been met when (u, v) is at hand. -/
def Met (wide high x y i u v : Int) (L : List Int) : Prop := ∀ k, k ∈ L ↔ Win wide high x y i (fun u' v' => v' < v ∨ (v' = v ∧ u' < u)) k

theorem Win.congr {wide high x y i : Int} {P Q : Int → Int → Prop} (h : ∀ u v, (0 ≤ u ∧ u < wide) → (0 ≤ v ∧ v < high) → (x - 1 ≤ u ∧ u ≤ x + 1) → (y - 1 ≤ v ∧ v ≤ y + 1) → (P u v ↔ Q u v)) (k : Int) : Win wide high x y i P k ↔ Win wide high x y i Q k := by
  constructor
  · rintro ⟨u, v, h1, h2, h3, h4, h5, h6, h7⟩
    exact ⟨u, v, h1, h2, h3, h4, h5, h6, (h u v h1 h2 h3 h4).1 h7⟩
  · rintro ⟨u, v, h1, h2, h3, h4, h5, h6, h7⟩
    exact ⟨u, v, h1, h2, h3, h4, h5, h6, (h u v h1 h2 h3 h4).2 h7⟩
theorem Met.move {wide high x y i u v u' v' : Int} {L : List Int} (h : Met wide high x y i u v L) (hc : ∀ a b, (0 ≤ a ∧ a < wide) → (0 ≤ b ∧ b < high) → (x - 1 ≤ a ∧ a ≤ x + 1) → (y - 1 ≤ b ∧ b ≤ y + 1) → ((b < v ∨ (b = v ∧ a < u)) ↔ (b < v' ∨ (b = v' ∧ a < u')))) : Met wide high x y i u' v' L :=
  fun k => (h k).trans (Win.congr hc k)
theorem Met.start {wide high x y i v : Int} (h : v ≤ y - 1 ∨ v ≤ 0) : Met wide high x y i (min (x - 1) 0) v [] := fun k => by
  constructor
  · intro h; cases h
  · rintro ⟨a, b, h1, h2, h3, h4, _, _, h7⟩
    omega
theorem Met.pass {wide high x y i u v : Int} {L : List Int} (h : Met wide high x y i u v L) (hn : ¬ ((0 ≤ u ∧ u < wide) ∧ (0 ≤ v ∧ v < high) ∧ v * wide + u ≠ i)) : Met wide high x y i (u + 1) v L := fun k => by
  refine (h k).trans ⟨?_, ?_⟩
  · rintro ⟨a, b, h1, h2, h3, h4, h5, h6, h7⟩
    exact ⟨a, b, h1, h2, h3, h4, h5, h6, by omega⟩
  · rintro ⟨a, b, h1, h2, h3, h4, h5, h6, h7⟩
    refine ⟨a, b, h1, h2, h3, h4, h5, h6, ?_⟩
    by_cases e : b = v ∧ a = u
    · obtain ⟨rfl, rfl⟩ := e
      exact absurd ⟨h1, h2, by rw [← h5]; exact h6⟩ hn
    · omega
theorem Met.add {wide high x y i u v : Int} {L : List Int} (h : Met wide high x y i u v L) (hu : 0 ≤ u ∧ u < wide) (hv : 0 ≤ v ∧ v < high) (hx : x - 1 ≤ u ∧ u ≤ x + 1) (hy : y - 1 ≤ v ∧ v ≤ y + 1) {k : Int} (hk : k = v * wide + u) (hi : k ≠ i) : Met wide high x y i (u + 1) v (L ++ [k]) := fun j => by
  rw [List.mem_append, List.mem_singleton, h j]
  constructor
  · rintro (⟨a, b, h1, h2, h3, h4, h5, h6, h7⟩ | rfl)
    · exact ⟨a, b, h1, h2, h3, h4, h5, h6, by omega⟩
    · exact ⟨u, v, hu, hv, hx, hy, hk, hi, by omega⟩
  · rintro ⟨a, b, h1, h2, h3, h4, h5, h6, h7⟩
    by_cases e : b = v ∧ a = u
    · obtain ⟨rfl, rfl⟩ := e
      exact .inr (by rw [h5, hk])
    · exact .inl ⟨a, b, h1, h2, h3, h4, h5, h6, by omega⟩
/-- Where a row begins. -/
theorem rowAt {v wide : Int} (hv : -1 ≤ v ∧ v ≤ 17) (hw : 2 ≤ wide ∧ wide ≤ 16) : ∃ p : Int, Hid (p = v * wide) ∧ (-16 ≤ p ∧ p ≤ 272) ∧ IntKind.i64.wrap (v * wide) = p := by
  have h1 : -16 ≤ v * wide ∧ v * wide ≤ 272 := by
    rcases Int.lt_or_le v 0 with h | h
    · obtain rfl : v = -1 := by omega
      omega
    · have e1 : 0 ≤ v * wide := Int.mul_nonneg h (by omega)
      have e2 : v * wide ≤ 17 * 16 := Int.mul_le_mul hv.2 hw.2 (by omega) (by omega)
      omega
  exact ⟨v * wide, rfl, h1, IntWalk.i64_in _ (by omega)⟩

/-- A new list of whole numbers. -/
def ListI (P : List Int → Prop) (w : World) (e : Ending) (w' : World) : Prop :=
  ∃ a L cap, e = .returned (.slice a L.length cap) ∧ InS w' a L.length L ∧ P L ∧ Below w.heap.size w w'
theorem infoI : (Try.prog.info? 2).map (fun i => (i.zero, i.size, i.bytes)) = some (some (.int .i64 0), 1, 8) := by kernel_rfl
theorem ints_one (x : Int) : ∀ u ∈ [Value.int .i64 x], u.oneCell' = true := by simp [Value.oneCell']
theorem row_emptyI (w : World) (B : Nat) (E : TypeId) (hB : B ≤ w.heap.size) : (w.alloc (.cells #[] E)).ownsRow B E 1 (.slice (some ⟨w.heap.size, 0, none⟩) 0 0) 0 [] :=
  ⟨rfl, .inr ⟨w.heap.size, 0, #[], rfl, hB, heap_alloc_new w _, Nat.le_refl _, by unfold maxLen; omega, rfl, rfl⟩⟩
/-- A row that the call has built reads as its own. -/
theorem row_mineI {B n : Nat} {w : World} {v : Value} {us : List Int} (h : w.ownsRow B 2 1 v n (ints us)) (hm : n ≤ 1048576) : ∃ a cap, v = .slice a us.length cap ∧ MineV 2 B w a us.length (ints us) := by
  have hl : us.length = n := by have := h.1; rw [ints_len] at this; omega
  obtain ⟨a, c, rfl⟩ : ∃ a c, v = .slice a n c := by
    rcases h.2 with ⟨rfl, rfl⟩ | ⟨g, c, cur, rfl, _⟩
    · exact ⟨_, _, rfl⟩
    · exact ⟨_, _, rfl⟩
  subst hl
  exact ⟨a, c, rfl, (MineV.of_row h hm).2⟩

set_option maxRecDepth 8000 in
set_option maxHeartbeats 4000000 in
theorem l06Around (p : Nat) (wide high x y : Int) (i : Nat) (w : World) (hpl : p < w.heap.size) (c0 : w.cell? ⟨p, 0, none⟩ = some (.int .i64 wide)) (c1 : w.cell? ⟨p, 1, none⟩ = some (.int .i64 high))
    (hw : 2 ≤ wide ∧ wide ≤ 16) (hh : 2 ≤ high ∧ high ≤ 16) (hi : i ≤ 256) (hx : (i : Int).tmod wide = x) (hy : (i : Int).tdiv wide = y) (hxb : 0 ≤ x ∧ x < wide) (hyb : 0 ≤ y ∧ y < high) :
    Calls Try.prog 79 #[.pointer (some ⟨p, 0, none⟩), .int .i64 (i : Int)] w (ListI (fun L => ∀ k, k ∈ L ↔ Nb wide high x y i k) w) := by
  obtain ⟨i0, hi0, hz0, hz1, hz2⟩ := info_parts infoI
  have hw0 : wide ≠ 0 := by omega
  have hwz : (wide == 0) = false := by simp; omega
  have hq : IntKind.i64.wrap ((i : Int).tdiv wide) = y := by rw [hy]; exact IntWalk.i64_in _ (by omega)
  have hrow0 := row_emptyI w w.heap.size 2 (Nat.le_refl _)
  have hb0 : Below w.heap.size w (w.alloc (.cells #[] 2)) := (Below.refl _ _).alloc (Nat.le_refl _) _
  go_enter Try.func79, Try.ntmps79
  go_wp2
  have hst : Met wide high x y i (min (x - 1) 0) (y - 1) [] := Met.start (.inl (Int.le_refl _))
  have hsz : p < w.heap.size := hpl
  generalize w.alloc (.cells #[] 2) = w1 at *
  go_loopw [5, 6] (fun V s wr => ∃ (v : Int) (us : List Int), (y - 1 ≤ v ∧ v ≤ y + 2) ∧ s = .int .i64 v ∧ wr.ownsRow w.heap.size 2 1 V us.length (ints us) ∧ ((us.length : Int) ≤ 3 * (v - (y - 1))) ∧ Met wide high x y i (min (x - 1) 0) v us ∧ Below w.heap.size w wr) (fun _ s _ => (y + 2 - intOf s).toNat)
  case atStart => exact ⟨y - 1, [], by omega, rfl, hrow0, by simp, hst, hb0⟩
  case round =>
    obtain ⟨v, us, hv, rfl, hrow, hlen, hmet, hb⟩ := hrel
    clear hrow0 hb0 hst
    generalize u5 = V at *
    generalize wr = wi at *
    have d0 : wi.cell? ⟨p, 0, none⟩ = some (.int .i64 wide) := (hb.cell (p := ⟨p, 0, none⟩) hpl).trans c0
    by_cases hlt : v ≤ y + 1
    · obtain ⟨P, hP, hPb, hPw⟩ := rowAt (v := v) (wide := wide) (by omega) hw
      go_wp2
      go_loopw [5, 7] (fun V s wr => ∃ (u : Int) (us : List Int), (x - 1 ≤ u ∧ u ≤ x + 2) ∧ s = .int .i64 u ∧ wr.ownsRow w.heap.size 2 1 V us.length (ints us) ∧ ((us.length : Int) ≤ 3 * (v - (y - 1)) + (u - (x - 1))) ∧ Met wide high x y i u v us ∧ Below w.heap.size w wr) (fun _ s _ => (x + 2 - intOf s).toNat)
      case atStart => exact ⟨x - 1, us, by omega, rfl, hrow, by omega, hmet.move (fun a b h1 h2 h3 h4 => by omega), hb⟩
      case round =>
        obtain ⟨u, us, hu, rfl, hrow, hlen, hmet, hb⟩ := hrel
        clear d0
        generalize u5 = V at *
        generalize wr = wk at *
        have d0 : wk.cell? ⟨p, 0, none⟩ = some (.int .i64 wide) := (hb.cell (p := ⟨p, 0, none⟩) hpl).trans c0
        have d1 : wk.cell? ⟨p, 1, none⟩ = some (.int .i64 high) := (hb.cell (p := ⟨p, 1, none⟩) hpl).trans c1
        have hBk := hb.size
        by_cases hltu : u ≤ x + 1
        · have cU := fun W => inS u 0 (wide - 1) W
          have cV := fun W => inS v 0 (high - 1) W
          by_cases e1 : 0 ≤ u ∧ u ≤ wide - 1
          · rw [decide_eq_true e1] at cU
            by_cases e2 : 0 ≤ v ∧ v ≤ high - 1
            · rw [decide_eq_true e2] at cV
              by_cases e3 : P + u = (i : Int)
              · have hps := Lib.hid (hmet.pass (fun h => h.2.2 (by rw [← hP.out]; exact e3)))
                go_wp2_with (first | (go_at_call 93; (with_reducible refine (cU _).mono ?_); rintro e w' ⟨rfl, rfl⟩) | (go_at_call 93; (with_reducible refine (cV _).mono ?_); rintro e w' ⟨rfl, rfl⟩))
                go_roundw
                case rel => exact ⟨u + 1, us, by omega, by go_num, hrow, by omega, hps.out, hb⟩
                case measure => simp [intOf]; omega
              · have had := Lib.hid (hmet.add (k := P + u) ⟨e1.1, by omega⟩ ⟨e2.1, by omega⟩ (by omega) (by omega) (by rw [hP.out]) e3)
                go_wp2_with (first | (go_at_call 93; (with_reducible refine (cU _).mono ?_); rintro e w' ⟨rfl, rfl⟩) | (go_at_call 93; (with_reducible refine (cV _).mono ?_); rintro e w' ⟨rfl, rfl⟩) | (at_builtin; refine wpList_append_lies _ rfl (.tmp 73) (.tmp 82) 52 rfl w.heap.size 2 i0 (.int .i64 0) 1 8 Try.underlying52 hi0 hz0 hz1 hz2 rfl (by decide) V us.length (ints us) rfl (hrow.alloc _) ⟨wk.heap.size, 0, none⟩ 1 1 [.int .i64 (P + u)] rfl rfl (World.news_of_block (heap_alloc_new _ _)) (ints_one _) (by omega) (by unfold maxLen; omega) (by omega) (by simp; omega) (wk.heap.size + 1) (by simp) ?_; intro q cq w2 hown hgrow hat hlt2))
                go_roundw
                case rel =>
                  refine ⟨u + 1, us ++ [P + u], by omega, by go_num, by simpa [ints] using hown, by simp; omega, had.out, (hb.alloc hBk _).grown hgrow (by simp; omega) fun k hk => ?_⟩
                  exact (hrow.lt k hk).1
                case measure => simp [intOf]; omega
            · rw [decide_eq_false e2] at cV
              have hps := Lib.hid (hmet.pass (fun h => e2 ⟨h.2.1.1, by omega⟩))
              go_wp2_with (first | (go_at_call 93; (with_reducible refine (cU _).mono ?_); rintro e w' ⟨rfl, rfl⟩) | (go_at_call 93; (with_reducible refine (cV _).mono ?_); rintro e w' ⟨rfl, rfl⟩))
              go_roundw
              case rel => exact ⟨u + 1, us, by omega, by go_num, hrow, by omega, hps.out, hb⟩
              case measure => simp [intOf]; omega
          · rw [decide_eq_false e1] at cU
            have hps := Lib.hid (hmet.pass (fun h => e1 ⟨h.1.1, by omega⟩))
            go_wp2_with (go_at_call 93; refine (cU _).mono ?_; rintro e w' ⟨rfl, rfl⟩)
            go_roundw
            case rel => exact ⟨u + 1, us, by omega, by go_num, hrow, by omega, hps.out, hb⟩
            case measure => simp [intOf]; omega
        · obtain rfl : u = x + 2 := by omega
          go_wp2
          go_roundw
          case rel => exact ⟨v + 1, us, by omega, by go_num, hrow, by omega, hmet.move (fun a b h1 h2 h3 h4 => by omega), hb⟩
          case measure => simp [intOf]; omega
    · obtain rfl : v = y + 2 := by omega
      obtain ⟨ar, cr, rfl, hM⟩ := row_mineI hrow (by omega)
      go_wp2
      go_ret
      exact ⟨ar, us, cr, rfl, hM.ins, fun k => (hmet k).trans (Win.congr (fun a b h1 h2 h3 h4 => by simp; omega) k), hb⟩
end Go.Proofs.Ytcmdmecmgoabaaa
