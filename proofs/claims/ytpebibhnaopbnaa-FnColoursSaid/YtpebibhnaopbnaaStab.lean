/-
  Go's stable sort of a row of at most 32 numbers.
-/
import Derived.Test.YtpebibhnaopbnaaSort2
namespace Go.Proofs.Ytpebibhnaopbnaa
open Go.RowKit Go.Shelf

theorem stable_two {n : Nat} {dg D E E2 : Nat → Nat} (hn : 20 ≤ n) (hasc : ∀ p r, p < r → r < n → D p < D r) (t1 : Turned n 0 20 D E) (s1 : SortedOn dg E 0 20) (t2 : Turned n 20 n E E2) :
    SortedOn dg E2 0 20 ∧ Cross E2 0 20 n := by
  have h2 : ∀ p, p < 20 → E2 p = E p := fun p hp => t2.2.1 p (.inl hp)
  refine ⟨fun p r p1 p2 p3 => by rw [h2 p (by omega), h2 r p3]; exact s1 p r p1 p2 p3, fun p r p1 p2 p3 p4 => ?_⟩
  rw [h2 p p2]
  obtain ⟨p', a1, a2, e1⟩ := t1.1 p p1 p2
  obtain ⟨r', b1, b2, e2⟩ := t2.1 r p3 p4
  rw [e1, e2, t1.2.1 r' (.inr b1)]
  exact hasc p' r' (by omega) b2

set_option maxRecDepth 8000 in
set_option maxHeartbeats 4000000 in
theorem stable (g : Nat) (lb : Array Value) (eg : Goes g) (n : Nat) (hn : 1 ≤ n ∧ n ≤ 32) (dg : Nat → Nat) (hdg : ∀ x, dg x ≤ 100000) (q c : Nat) (w0 : World) (hcmp : CmpD g lb n dg q w0)
    (hm : 20 < n → ∀ (D : Nat → Nat) (w : World), RowS w0 w q n D → InjB n D → SortedOn dg D 0 20 → SortedOn dg D 20 n → Cross D 0 20 n →
      Calls Try.prog 39 #[.slice (some ⟨q, 0, none⟩) n c, .int .i64 0, .int .i64 20, .int .i64 (n : Int), .func (.func g) #[] lb] w (Sorts w0 q n 0 n dg D))
    (D : Nat → Nat) (w : World) (hR : RowS w0 w q n D) (hI : InjB n D) (hasc : ∀ p r, p < r → r < n → D p < D r) :
    Calls Try.prog 33 #[.slice (some ⟨q, 0, none⟩) n c, .int .i64 (n : Int), .func (.func g) #[] lb] w (Sorts w0 q n 0 n dg D) := by
  have ins := fun (a b : Nat) (hab : a ≤ b) (hbn : b ≤ n) (D : Nat → Nat) (w : World) h1 h2 h3 => insertionSort g lb eg n hn.2 dg hdg q c w0 hcmp a b hab hbn D w h1 h2 h3
  by_cases hs : n < 20
  · have hs' : ¬ (20 : Int) ≤ (n : Int) := by omega
    have hs2 : ¬ (20 : Int) < (n : Int) := by omega
    have hc1 := ins 0 n (by omega) (Nat.le_refl _) D w hR hI (fun p r _ h2 h3 => hasc p r h2 h3)
    clear ins hm
    go_enter Try.func33, Try.ntmps33
    go_wp2
    go_loopw [7, 8] (fun t u wr => t = .int .i64 0 ∧ u = .int .i64 20 ∧ w = wr) (fun _ _ _ => 0)
    case atStart => exact ⟨rfl, rfl, rfl⟩
    case round =>
      obtain ⟨rfl, rfl, rfl⟩ := hrel
      go_wp2_with (go_at_call 38; refine hc1.mono ?_; rintro e w1 ⟨rfl, E, hE, hT, hS⟩)
      go_loopw [6] (fun t wr => t = .int .i64 20 ∧ w1 = wr) (fun _ _ => 0)
      case atStart => exact ⟨rfl, rfl⟩
      case round =>
        obtain ⟨rfl, rfl⟩ := hrel
        go_wp2
        exact bodyPost_ret (by simp [results, Try.results33, go_sem]) rfl ⟨rfl, E, hE, hT, hS⟩
  · have hs' : (20 : Int) ≤ (n : Int) := by omega
    have hs40 : ¬ (40 : Int) ≤ (n : Int) := by omega
    go_enter Try.func33, Try.ntmps33
    go_wp2
    go_loopw [7, 8] (fun t u wr => (t = .int .i64 0 ∧ u = .int .i64 20 ∧ w = wr) ∨ (t = .int .i64 20 ∧ u = .int .i64 40 ∧ ∃ E, RowS w0 wr q n E ∧ Hid (Turned n 0 20 D E) ∧ Hid (SortedOn dg E 0 20))) (fun _ u _ => 40 - (intOf u).toNat)
    case atStart => exact .inl ⟨rfl, rfl, rfl⟩
    case round =>
      rcases hrel with ⟨rfl, rfl, rfl⟩ | ⟨rfl, rfl, E, hE, hT, hS⟩
      · have hc1 := ins 0 20 (by omega) (by omega) D w hR hI (fun p r _ h2 h3 => hasc p r h2 (by omega))
        clear ins hm
        go_wp2_with (go_at_call 38; refine hc1.mono ?_; rintro e w1 ⟨rfl, E, hE, hT, hS⟩)
        go_roundw
        case rel => exact .inr ⟨rfl, rfl, E, hE, hT, hS⟩
        case measure => simp [intOf]
      · have hc1 := ins 20 n (by omega) (Nat.le_refl _) E wr hE (hT.out.2.2 hI) (fun p r h1 h2 h3 => by rw [hT.out.2.1 p (.inr h1), hT.out.2.1 r (.inr (by omega))]; exact hasc p r h2 h3)
        clear ins hR
        have hmH := Lib.hid hm
        clear hm
        go_wp2_with (go_at_call 38; refine hc1.mono ?_; rintro e w1 ⟨rfl, E2, hE2, hT2, hS2⟩)
        have h2 := stable_two (by omega) hasc hT.out hS.out hT2
        have hI2 := hT2.2.2 (hT.out.2.2 hI)
        have hTT := (hT.out.mono (Nat.le_refl 0) (show 20 ≤ n by omega)).trans (hT2.mono (Nat.zero_le _) (Nat.le_refl n))
        clear hE hT hS hT2 hc1
        generalize wr = wz at *
        go_loopw [6, 7, 8] (fun t _ _ wr => ∃ E3, RowS w0 wr q n E3 ∧ Hid (Turned n 0 n D E3) ∧ ((t = .int .i64 20 ∧ Hid (E3 = E2)) ∨ (t = .int .i64 40 ∧ Hid (SortedOn dg E3 0 n)))) (fun t _ _ _ => 40 - (intOf t).toNat)
        case atStart => exact ⟨E2, hE2, hTT, .inl ⟨rfl, rfl⟩⟩
        case round =>
          obtain ⟨E3, hE3, hT3, hst⟩ := hrel
          rcases hst with ⟨rfl, heq⟩ | ⟨rfl, hS3⟩
          · by_cases h20 : n = 20
            · have hlt : ¬ (20 : Int) < (n : Int) := by omega
              have hfin : SortedOn dg E3 0 n := by rw [heq.out]; have := h2.1; rw [h20]; exact this
              clear h20
              go_wp2
              exact bodyPost_ret (by simp [results, Try.results33, go_sem]) rfl ⟨rfl, E3, hE3, hT3.out, hfin⟩
            · have hlt : (20 : Int) < (n : Int) := by omega
              have hc2 := hmH.out (by omega) E3 wr hE3 (by rw [heq.out]; exact hI2) (by rw [heq.out]; exact h2.1) (by rw [heq.out]; exact hS2) (by rw [heq.out]; exact h2.2)
              go_wp2
              generalize wr = wy at *
              go_loopw [7, 8] (fun t u wr => t = .int .i64 0 ∧ u = .int .i64 40 ∧ wy = wr) (fun _ _ _ => 0)
              case atStart => exact ⟨rfl, rfl, rfl⟩
              case round =>
                obtain ⟨rfl, rfl, rfl⟩ := hrel
                go_wp2_with (go_at_call 39; refine hc2.mono ?_; rintro e w5 ⟨rfl, E5, hE5, hT5, hS5⟩)
                go_roundw
                case rel => exact ⟨E5, hE5, hT3.out.trans hT5, .inr ⟨rfl, hS5⟩⟩
                case measure => simp [intOf]
          · have hlt : ¬ (40 : Int) < (n : Int) := by omega
            go_wp2
            exact bodyPost_ret (by simp [results, Try.results33, go_sem]) rfl ⟨rfl, E3, hE3, hT3.out, hS3.out⟩

theorem sortStable (g : Nat) (lb : Array Value) (eg : Goes g) (n : Nat) (hn : 1 ≤ n ∧ n ≤ 32) (dg : Nat → Nat) (hdg : ∀ x, dg x ≤ 100000) (q c : Nat) (w0 : World) (hcmp : CmpD g lb n dg q w0)
    (hm : 20 < n → ∀ (D : Nat → Nat) (w : World), RowS w0 w q n D → InjB n D → SortedOn dg D 0 20 → SortedOn dg D 20 n → Cross D 0 20 n →
      Calls Try.prog 39 #[.slice (some ⟨q, 0, none⟩) n c, .int .i64 0, .int .i64 20, .int .i64 (n : Int), .func (.func g) #[] lb] w (Sorts w0 q n 0 n dg D))
    (D : Nat → Nat) (w : World) (hR : RowS w0 w q n D) (hI : InjB n D) (hasc : ∀ p r, p < r → r < n → D p < D r) :
    Calls Try.prog 29 #[.slice (some ⟨q, 0, none⟩) n c, .func (.func g) #[] lb] w (Sorts w0 q n 0 n dg D) := by
  have hc := stable g lb eg n hn dg hdg q c w0 hcmp hm D w hR hI hasc
  clear hm
  go_enter Try.func29, Try.ntmps29
  go_wp2_with (go_at_call 33; refine hc.mono ?_; rintro e w1 ⟨rfl, E, hE, hT, hS⟩)
  exact bodyPost_ret (by simp [results, Try.results29, go_sem]) rfl ⟨rfl, E, hE, hT, hS⟩
end Go.Proofs.Ytpebibhnaopbnaa
