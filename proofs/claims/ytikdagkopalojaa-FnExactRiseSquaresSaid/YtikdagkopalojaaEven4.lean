/-
  SolveEven: the whole answers, told twice; marks that begin further on.
-/
import Derived.Test.YtikdagkopalojaaEven3
namespace Go.Proofs.Ytikdagkopalojaa
open Go.RowKit
attribute [local go_sem] order_cl cl_zero cl_one cl_two aord_none

def argsE (m n : Nat) (qs bs : List Nat) : Bool := decide (1 ≤ n ∧ n ≤ 10) && (m == n * n) && finAll qs && finAll bs
def okS (m n : Nat) (qs bs : List Nat) : Bool := argsE m n qs bs && okE n (clsOf qs) (clsOf bs)
def outS (m n : Nat) (qs bs : List Nat) : List Nat := if argsE m n qs bs then outE n (clsOf qs) (clsOf bs) else []

theorem args_no {m n : Nat} {qs bs : List Nat} (h : argsE m n qs bs = false) : n < 1 ∨ 10 < n ∨ (1 ≤ n ∧ n ≤ 10 ∧ m ≠ n * n) ∨ (1 ≤ n ∧ n ≤ 10 ∧ m = n * n ∧ finAll qs = false) ∨ (1 ≤ n ∧ n ≤ 10 ∧ m = n * n ∧ finAll qs = true ∧ finAll bs = false) := by
  by_cases h1 : n < 1
  · exact .inl h1
  by_cases h2 : 10 < n
  · exact .inr (.inl h2)
  have h3 : 1 ≤ n ∧ n ≤ 10 := by omega
  by_cases h4 : m = n * n
  · cases h5 : finAll qs
    · exact .inr (.inr (.inr (.inl ⟨h3.1, h3.2, h4, rfl⟩)))
    · cases h6 : finAll bs
      · exact .inr (.inr (.inr (.inr ⟨h3.1, h3.2, h4, rfl, rfl⟩)))
      · unfold argsE at h
        rw [h5, h6, decide_eq_true h3] at h
        simp [h4] at h
  · exact .inr (.inr (.inl ⟨h3.1, h3.2, h4⟩))
theorem args_yes {m n : Nat} {qs bs : List Nat} (h : argsE m n qs bs = true) : 1 ≤ n ∧ n ≤ 10 ∧ m = n * n ∧ finAll qs = true ∧ finAll bs = true := by
  unfold argsE at h
  simp only [Bool.and_eq_true, decide_eq_true_eq, beq_iff_eq] at h
  exact ⟨h.1.1.1.1, h.1.1.1.2, h.1.1.2, h.1.2, h.2⟩
theorem square {n : Nat} (hn : n ≤ 10) : ∃ s : Nat, s = n * n ∧ s ≤ 100 ∧ IntKind.i64.wrap ((n : Int) * (n : Int)) = (s : Int) := by
  have h2 : n * n ≤ 100 := Nat.mul_le_mul hn hn
  refine ⟨n * n, rfl, h2, ?_⟩
  rw [show ((n : Int) * (n : Int)) = ((n * n : Nat) : Int) by simp]
  exact IntWalk.i64_in _ (by omega)

set_option maxRecDepth 20000 in
set_option maxHeartbeats 2000000 in
theorem specSolveEven (a a' : Option Addr) (m cap n cap' : Nat) (qs bs : List Nat) (w : World) (h : FlS w a m qs) (h' : FlS w a' n bs) :
    Calls Try.prog 37 #[.slice a m cap, .slice a' n cap'] w (NewFB (outS m n qs bs) (okS m n qs bs) w) := by
  have hm := h.max
  have hm' := h'.max
  have cq := l02Finite a m cap qs w h
  have cb := fun d => l02Finite a' n cap' bs (w.drewN d) (h'.drewN d)
  cases hargs : argsE m n qs bs with
  | false =>
    have e1 : outS m n qs bs = [] := by unfold outS; rw [hargs]; rfl
    have e2 : okS m n qs bs = false := by unfold okS; rw [hargs]; rfl
    rw [e1, e2]
    clear e1 e2
    rcases args_no hargs with h1 | h1 | ⟨h1, h2, h3⟩ | ⟨h1, h2, h3, h4⟩ | ⟨h1, h2, h3, h4, h5⟩
    · clear hargs
      go_enter Try.func37, Try.ntmps37
      go_wp2
      exact bodyPost_ret (by simp [results, Try.results37, go_sem]) rfl ⟨none, 0, rfl, MineV.nil _ _ _, Below.refl _ _⟩
    · clear hargs
      go_enter Try.func37, Try.ntmps37
      go_wp2
      exact bodyPost_ret (by simp [results, Try.results37, go_sem]) rfl ⟨none, 0, rfl, MineV.nil _ _ _, Below.refl _ _⟩
    · obtain ⟨s, hs, hs1, hs2⟩ := square h2
      have hne : m ≠ s := by omega
      clear hs h3 hargs
      go_enter Try.func37, Try.ntmps37
      go_wp2
      exact bodyPost_ret (by simp [results, Try.results37, go_sem]) rfl ⟨none, 0, rfl, MineV.nil _ _ _, Below.refl _ _⟩
    · obtain ⟨s, hs, hs1, hs2⟩ := square h2
      obtain rfl : m = s := by omega
      clear hs h3 hargs
      rw [h4] at cq
      go_enter Try.func37, Try.ntmps37
      go_wp2_with (go_at_call 65; (with_reducible refine cq.mono ?_); rintro e w' ⟨rfl, d, rfl⟩)
      exact bodyPost_ret (by simp [results, Try.results37, go_sem]) rfl ⟨none, 0, rfl, MineV.nil _ _ _, below_drewN (Below.refl _ _) _⟩
    · obtain ⟨s, hs, hs1, hs2⟩ := square h2
      obtain rfl : m = s := by omega
      clear hs h3 hargs
      rw [h4] at cq
      rw [h5] at cb
      go_enter Try.func37, Try.ntmps37
      go_wp2_with (first | (go_at_call 65; (with_reducible refine cq.mono ?_); rintro e w' ⟨rfl, d, rfl⟩) | (go_at_call 65; (with_reducible refine (cb _).mono ?_); rintro e w' ⟨rfl, d, rfl⟩))
      exact bodyPost_ret (by simp [results, Try.results37, go_sem]) rfl ⟨none, 0, rfl, MineV.nil _ _ _, below_drewN (Below.refl _ _) _⟩
  | true =>
    have e1 : outS m n qs bs = outE n (clsOf qs) (clsOf bs) := by unfold outS; rw [hargs]; rfl
    have e2 : okS m n qs bs = okE n (clsOf qs) (clsOf bs) := by unfold okS; rw [hargs]; rfl
    rw [e1, e2]
    obtain ⟨h1, h2, h3, h4, h5⟩ := args_yes hargs
    have cc := fun d => l05Even a a' m cap n cap' qs bs (w.drewN d) (h.drewN d) (h'.drewN d) h3 h1 h2
    generalize outE n (clsOf qs) (clsOf bs) = out at *
    generalize okE n (clsOf qs) (clsOf bs) = ok at *
    obtain ⟨s, hs, hs1, hs2⟩ := square h2
    obtain rfl : m = s := by omega
    clear hs h3 hargs e1 e2
    rw [h4] at cq
    rw [h5] at cb
    go_enter Try.func37, Try.ntmps37
    go_wp2_with (first | (go_at_call 65; (with_reducible refine cq.mono ?_); rintro e w' ⟨rfl, d, rfl⟩) | (go_at_call 65; (with_reducible refine (cb _).mono ?_); rintro e w' ⟨rfl, d, rfl⟩) | (go_at_call 66; refine (cc _).mono ?_; intro e w3 he; obtain ⟨ar, cr, he, hM, hb⟩ := he; subst he))
    exact bodyPost_ret (by simp [results, Try.results37, go_sem]) rfl ⟨ar, cr, rfl, hM, below_of_drewN hb⟩

set_option maxRecDepth 20000 in
set_option maxHeartbeats 2000000 in
theorem implSolveEven (a a' : Option Addr) (m cap n cap' : Nat) (qs bs : List Nat) (w : World) (h : FlS w a m qs) (h' : FlS w a' n bs) :
    Calls Try.prog 39 #[.slice a m cap, .slice a' n cap'] w (NewFB (outS m n qs bs) (okS m n qs bs) w) := by
  have hm := h.max
  have hm' := h'.max
  have cq := areFinite a m cap qs w h
  have cb := fun d => areFinite a' n cap' bs (w.drewN d) (h'.drewN d)
  have cw := fun W => inI (n : Int) 1 10 W
  cases hargs : argsE m n qs bs with
  | false =>
    have e1 : outS m n qs bs = [] := by unfold outS; rw [hargs]; rfl
    have e2 : okS m n qs bs = false := by unfold okS; rw [hargs]; rfl
    rw [e1, e2]
    clear e1 e2
    rcases args_no hargs with h1 | h1 | ⟨h1, h2, h3⟩ | ⟨h1, h2, h3, h4⟩ | ⟨h1, h2, h3, h4, h5⟩
    · clear hargs
      rw [decide_eq_false (show ¬((1 : Int) ≤ (n : Int) ∧ (n : Int) ≤ 10) by omega)] at cw
      go_enter Try.func39, Try.ntmps39
      go_wp2_with (go_at_call 42; refine (cw _).mono ?_; rintro e w' ⟨rfl, rfl⟩)
      exact bodyPost_ret (by simp [results, Try.results39, go_sem]) rfl ⟨none, 0, rfl, MineV.nil _ _ _, Below.refl _ _⟩
    · clear hargs
      rw [decide_eq_false (show ¬((1 : Int) ≤ (n : Int) ∧ (n : Int) ≤ 10) by omega)] at cw
      go_enter Try.func39, Try.ntmps39
      go_wp2_with (go_at_call 42; refine (cw _).mono ?_; rintro e w' ⟨rfl, rfl⟩)
      exact bodyPost_ret (by simp [results, Try.results39, go_sem]) rfl ⟨none, 0, rfl, MineV.nil _ _ _, Below.refl _ _⟩
    · obtain ⟨s, hs, hs1, hs2⟩ := square h2
      have hne : m ≠ s := by omega
      rw [decide_eq_true (show (1 : Int) ≤ (n : Int) ∧ (n : Int) ≤ 10 by omega)] at cw
      clear hs h3 hargs
      go_enter Try.func39, Try.ntmps39
      go_wp2_with (go_at_call 42; refine (cw _).mono ?_; rintro e w' ⟨rfl, rfl⟩)
      exact bodyPost_ret (by simp [results, Try.results39, go_sem]) rfl ⟨none, 0, rfl, MineV.nil _ _ _, Below.refl _ _⟩
    · obtain ⟨s, hs, hs1, hs2⟩ := square h2
      obtain rfl : m = s := by omega
      rw [decide_eq_true (show (1 : Int) ≤ (n : Int) ∧ (n : Int) ≤ 10 by omega)] at cw
      clear hs h3 hargs
      rw [h4] at cq
      go_enter Try.func39, Try.ntmps39
      go_wp2_with (first | (go_at_call 42; refine (cw _).mono ?_; rintro e w' ⟨rfl, rfl⟩) | (go_at_call 51; (with_reducible refine cq.mono ?_); rintro e w' ⟨rfl, d, rfl⟩))
      exact bodyPost_ret (by simp [results, Try.results39, go_sem]) rfl ⟨none, 0, rfl, MineV.nil _ _ _, below_drewN (Below.refl _ _) _⟩
    · obtain ⟨s, hs, hs1, hs2⟩ := square h2
      obtain rfl : m = s := by omega
      rw [decide_eq_true (show (1 : Int) ≤ (n : Int) ∧ (n : Int) ≤ 10 by omega)] at cw
      clear hs h3 hargs
      rw [h4] at cq
      rw [h5] at cb
      go_enter Try.func39, Try.ntmps39
      go_wp2_with (first | (go_at_call 42; refine (cw _).mono ?_; rintro e w' ⟨rfl, rfl⟩) | (go_at_call 51; (with_reducible refine cq.mono ?_); rintro e w' ⟨rfl, d, rfl⟩) | (go_at_call 51; (with_reducible refine (cb _).mono ?_); rintro e w' ⟨rfl, d, rfl⟩))
      exact bodyPost_ret (by simp [results, Try.results39, go_sem]) rfl ⟨none, 0, rfl, MineV.nil _ _ _, below_drewN (Below.refl _ _) _⟩
  | true =>
    have e1 : outS m n qs bs = outE n (clsOf qs) (clsOf bs) := by unfold outS; rw [hargs]; rfl
    have e2 : okS m n qs bs = okE n (clsOf qs) (clsOf bs) := by unfold okS; rw [hargs]; rfl
    rw [e1, e2]
    obtain ⟨h1, h2, h3, h4, h5⟩ := args_yes hargs
    exact implSolveYes a a' m cap n cap' qs bs w h h' h3 h1 h2 h4 h5

theorem markFloatsB (B : Nat) (a : Option Addr) (len cap : Nat) (xs : List Nat) (k : Int) (hk : 0 ≤ k ∧ k ≤ 3000000) (w : World) (h : MineV 37 B w a len (fls xs)) :
    Calls Try.prog 25 #[.slice a len cap, .int .i64 k] w (MarkedF B a len k w) := by
  have hm := h.2.1
  have hl := h.1
  rcases h.2.2 with h0 | ⟨g, rest, rfl, hB, ho⟩
  · subst h0
    go_enter Try.func25, Try.ntmps25
    go_wp2
    go_loopw [1, 5] (fun m i wr => m = .int .i64 k ∧ i = .int .i64 0 ∧ w = wr) (fun _ _ _ => 0)
    case atStart => exact ⟨rfl, rfl, rfl⟩
    case round =>
      obtain ⟨rfl, rfl, rfl⟩ := hrel
      go_wp2
      go_ret
      exact ⟨by simp, ⟨rfl, by omega, .inl rfl⟩, OnlyAt.refl _ _ _⟩
  · have hnew : (fls (markF len k)).length = (fls xs).length := by rw [markF_len, hl]
    go_enter Try.func25, Try.ntmps25
    go_wp2
    go_loopw [1, 5] (fun m i wr => ∃ n : Nat, n ≤ len ∧ i = .int .i64 n ∧ m = .int .i64 (k + n) ∧ Own 37 wr g (turnV (fls xs) (fls (markF len k)) n ++ rest) ∧ OnlyAt (some ⟨g, 0, none⟩) len w wr) (fun _ i _ => len - (intOf i).toNat)
    case atStart => exact ⟨0, Nat.zero_le _, rfl, by simp, by rw [turnV_zero]; exact ho, OnlyAt.refl _ _ _⟩
    case round =>
      obtain ⟨n, hn, rfl, rfl, ho', hoa⟩ := hrel
      clear ho
      by_cases hlt : n < len
      · have hne : len ≠ 0 := by omega
        have hget := markF_get (n := len) (k := k) (i := n) hlt
        have d0 : wr.cell? ⟨g, n, none⟩ = some (.float .f32 (xs.getD n 0)) := ho'.at ((turnV_at rest (by omega) hnew).trans (fls_get (by rw [← fls_len]; omega)))
        have f0 := ho'.free n
        go_wp2
        go_roundw
        case rel =>
          refine ⟨n + 1, by omega, by go_num, by go_num, ?_, hoa.set hne _ _⟩
          rw [← turnV_set rest (by omega) hnew hget]
          exact ho'.set _ _
        case measure => simp [intOf]; omega
      · go_wp2
        go_ret
        obtain rfl : n = len := by omega
        refine ⟨rfl, ⟨markF_len _ _, hm, .inr ⟨g, rest, rfl, hB, ?_⟩⟩, hoa⟩
        rw [← hl] at ho'
        rw [turnV_full (by rw [hl]; exact hnew.trans hl), hl] at ho'
        exact ho'
end Go.Proofs.Ytikdagkopalojaa
