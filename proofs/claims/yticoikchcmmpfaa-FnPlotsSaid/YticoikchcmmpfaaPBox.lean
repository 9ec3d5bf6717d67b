/-
  box: the walk.
-/
import Derived.Test.YticoikchcmmpfaaPWalk1
namespace Go.Proofs.Yticoikchcmmpfaa
open Go.RowKit
attribute [local go_sem] order_cl cl_zero cl_one cl_two aord_none

def cws (ws : List (Nat × Nat)) : List Value := ws.map fun z => .complex .f32 z.1 z.2
theorem cws_snoc (ws : List (Nat × Nat)) (c : Nat × Nat) : cws (ws ++ [c]) = cws ws ++ [.complex .f32 c.1 c.2] := by simp [cws]
theorem cws_len (ws : List (Nat × Nat)) : (cws ws).length = ws.length := by simp [cws]
/-- A row of complex numbers of the call's own. -/
def RowW (w : World) (B : Nat) (v : Value) (ws : List (Nat × Nat)) : Prop := w.ownsRow B 24 1 v ws.length (cws ws) ∧ ∃ a c, v = .slice a ws.length c
theorem RowW.cx {w : World} {B : Nat} {v : Value} {ws : List (Nat × Nat)} (h : RowW w B v ws) (hl : ws.length ≤ 1048576) : ∃ a c, v = .slice a ws.length c ∧ CxF w a ws.length (fun j => ws.getD j (0, 0)) := by
  obtain ⟨h1, a, c, rfl⟩ := h
  refine ⟨a, c, rfl, hl, ?_⟩
  by_cases h0 : ws.length = 0
  · exact .inl h0
  · obtain ⟨g, c', e, hg, hj⟩ := row_at h1 (by omega)
    cases e
    refine .inr ⟨g, 0, rfl, hg, fun i hi => ?_⟩
    rw [Nat.zero_add, hj i hi]
    simp [cws, hi]
theorem le_yes {X Y : Nat} (hx : NumF X) (hy : NumF Y) (h : wv X ≤ wv Y) : (aord .f32 (cl .f32 X) (cl .f32 Y) == some .lt || aord .f32 (cl .f32 X) (cl .f32 Y) == some .eq) = true := by
  obtain ⟨o1, o2, o3⟩ := (numF_vl hx).order (numF_vl hy)
  rcases (show wv X < wv Y ∨ wv X = wv Y by grind) with c | c
  · rw [o1 c]; rfl
  · rw [o2 c]; rfl
theorem le_no {X Y : Nat} (hx : NumF X) (hy : NumF Y) (h : ¬ wv X ≤ wv Y) : (aord .f32 (cl .f32 X) (cl .f32 Y) == some .lt || aord .f32 (cl .f32 X) (cl .f32 Y) == some .eq) = false := by
  obtain ⟨o1, o2, o3⟩ := (numF_vl hx).order (numF_vl hy)
  rw [o3 (by grind)]; rfl

theorem row_snoc {w : World} {B : Nat} {ws : List (Nat × Nat)} {c : Nat × Nat} {a : Option Addr} {cap : Nat} (h : w.ownsRow B 24 1 (.slice a (ws.length + 1) cap) (ws.length + 1) (cws ws ++ [.complex .f32 c.1 c.2])) : RowW w B (.slice a (ws.length + 1) cap) (ws ++ [c]) := by
  unfold RowW
  rw [cws_snoc, List.length_append]
  exact ⟨h, _, _, rfl⟩
theorem row_snoc2 {w : World} {B : Nat} {ws : List (Nat × Nat)} {c e : Nat × Nat} {a : Option Addr} {cap : Nat} (h : w.ownsRow B 24 1 (.slice a (ws.length + 1 + 1) cap) (ws.length + 1 + 1) (cws ws ++ [.complex .f32 c.1 c.2] ++ [.complex .f32 e.1 e.2])) : RowW w B (.slice a (ws.length + 1 + 1) cap) (ws ++ [c] ++ [e]) := by
  unfold RowW
  rw [cws_snoc, cws_snoc, List.length_append, List.length_append]
  exact ⟨h, _, _, rfl⟩
theorem cy_of {M z1 z2 q1 q2 r1 r2 r3 r4 r5 r6 : Nat} (h6 : cl .f32 r6 = ab .add .f32 (cl .f32 z2) (cl .f32 r5)) (h5 : cl .f32 r5 = ab .mul .f32 (cl .f32 r3) (cl .f32 r4)) (h4 : cl .f32 r4 = ab .sub .f32 (cl .f32 q2) (cl .f32 z2)) (h3 : cl .f32 r3 = ab .quo .f32 (cl .f32 r1) (cl .f32 r2)) (h2 : cl .f32 r2 = ab .sub .f32 (cl .f32 q1) (cl .f32 z1)) (h1 : cl .f32 r1 = ab .sub .f32 (cl .f32 M) (cl .f32 z1)) : cl .f32 r6 = cyX (cl .f32 M) (cl .f32 z1) (cl .f32 z2) (cl .f32 q1) (cl .f32 q2) := by
  rw [h6, h5, h4, h3, h2, h1]; rfl
/-- A list of marks: what is left of the cut. -/
def RetCut (P : Nat → Nat × Nat) (n : Nat) (m x e bx b2 : Rat) (w : World) (o : Ending) (w' : World) : Prop := ∃ a c ws, o = .returned (.slice a ws.length c) ∧ CxF w' a ws.length (fun j => ws.getD j (0, 0)) ∧ CutSt P n m x e bx b2 n ws ∧ Below w.heap.size w w'

set_option maxRecDepth 8000 in
set_option maxHeartbeats 2000000 in
theorem leftOf {n : Nat} {r : Nat → Nat} {bx b2 d : Rat} {P : Nat → Nat × Nat} (h : PlotW n r bx b2 d P) {M : Nat} (hM : NumF M) (bm : Ab (wv M - bx) (402 / 100)) (a : Option Addr) (cap : Nat) (w : World) (hA : CxF w a n P) :
    Calls Try.prog 52 #[.slice a n cap, .float .f32 M] w (RetCut P n (wv M) 0 (610 * uu) bx b2 w) := by
  have hn3 := h.R.n3
  have hn9 := h.R.n9
  obtain ⟨i0, hi, hz0, hz1, hz2⟩ := info_parts infoC
  have hu0 : (0 : Rat) ≤ 610 * uu := by decide +kernel
  obtain ⟨bl, ol, rfl, hbl, hcl⟩ := hA.get (k := n - 1) (by omega)
  have hcl' : w.cell? ⟨bl, ol + (n - 1), none⟩ = some (.complex .f32 (pw P n 0).1 (pw P n 0).2) := hcl
  have ew : IntKind.i64.wrap ((n : Int) - 1) = ((n - 1 : Nat) : Int) := by rw [IntWalk.i64_in _ (by omega)]; omega
  clear hcl
  go_enter Try.func52, Try.ntmps52
  go_wp2
  go_loopw [5, 6, 8, 9, 18] (fun v p _ _ i wr => ∃ (k : Nat) (ws : List (Nat × Nat)), i = .int .i64 (k : Int) ∧ k ≤ n ∧ p = .complex .f32 (pw P n k).1 (pw P n k).2 ∧ RowW wr w.heap.size v ws ∧ CutSt P n (wv M) 0 (610 * uu) bx b2 k ws ∧ Below w.heap.size w wr) (fun _ _ _ _ i _ => n - (intOf i).toNat)
  case atStart => exact ⟨0, [], rfl, Nat.zero_le _, rfl, ⟨World.ownsRow_nil _ _ _ _, _, _, rfl⟩, cut_start Rat.le_refl, Below.refl _ _⟩
  case round =>
    obtain ⟨k, ws, rfl, hk, rfl, ⟨t1, va, vc, rfl⟩, hcut, hb⟩ := hrel
    have hB0 := hb.size
    have hwl : 2 * ws.length ≤ 3 * k + 1 := by have := hcut.cnt; omega
    by_cases hlt : k < n
    · obtain ⟨b, off, eb, hbb, hck⟩ := (hA.below hb).get hlt
      cases eb
      have hpk : NumF (pw P n k).1 := (h.num _ (nx_pv hlt).1).1
      have hqk : NumF (P k).1 := (h.num k hlt).1
      have hpw : pw P n (k + 1) = P k := rfl
      have hp6 : Ab (wv (pw P n k).2) (603 / 100) := ((h.in6 (nx_pv hlt).1).2).mono (by decide +kernel)
      have hq6 : Ab (wv (P k).2) (603 / 100) := ((h.in6 hlt).2).mono (by decide +kernel)
      by_cases hp : wv (pw P n k).1 ≤ wv M <;> by_cases hq : wv (P k).1 ≤ wv M
      · have hcut2 := Lib.hid (cut_LL hcut Rat.le_refl hu0 hp hq (h.box hlt))
        have hp' := le_yes hpk hM hp
        have hq' := le_yes hqk hM hq
        clear hp hq hpk hqk hA hcl' hcut hp6 hq6
        generalize hz : pw P n k = z at *
        generalize P k = q at *
        obtain ⟨q1, q2⟩ := q
        obtain ⟨z1, z2⟩ := z
        go_wp2_with (first | (at_builtin; refine wpList_append_lies _ rfl (.tmp 60) (.tmp 62) 27 rfl w.heap.size 24 i0 (.complex .f32 0 0) 1 8 Try.underlying27 hi hz0 hz1 hz2 rfl (by decide) _ _ (cws ws) rfl (t1.alloc _) ⟨wr.heap.size, 0, none⟩ 1 1 [(.complex .f32 q1 q2)] rfl rfl (World.news_of_block (heap_alloc_new _ _)) (by simp [Value.oneCell']) (by omega) (by unfold maxLen; omega) (by omega) (by simp; omega) (wr.heap.size + 1) (by simp) ?_; intro qa qca wf hown1 hgrow1 hat1 hlt1))
        go_roundw
        case rel => exact ⟨k + 1, _, by go_num, by omega, by rw [hpw], row_snoc hown1, hcut2.out, (hb.alloc hB0 _).grown hgrow1 (by simp; omega) (fun g hg => (t1.lt g hg).1)⟩
        case measure => simp [intOf]; omega
      · obtain ⟨y, hy, hc⟩ := h.cross hM bm hlt (.inl ⟨hp, by grind⟩)
        have hcut2 : Hid (∀ c, cl .f32 c = cyX (cl .f32 M) (cl .f32 (pw P n k).1) (cl .f32 (pw P n k).2) (cl .f32 (P k).1) (cl .f32 (P k).2) → CutSt P n (wv M) 0 (610 * uu) bx b2 (k + 1) (ws ++ [(M, c)])) := Lib.hid fun c e => by
          obtain ⟨i1, i2, i3⟩ := hc c (by rw [e]; exact hy)
          exact cut_LR hcut Rat.le_refl hu0 hp hq i1 i2 hp6 i3
        clear hy hc
        have hp' := le_yes hpk hM hp
        have hq' := le_no hqk hM hq
        clear hp hq hpk hqk hA hcl' hcut hp6 hq6
        generalize hz : pw P n k = z at *
        generalize P k = q at *
        obtain ⟨q1, q2⟩ := q
        obtain ⟨z1, z2⟩ := z
        go_wp2_with (first | (at_builtin; refine wpList_append_lies _ rfl (.tmp 41) (.tmp 54) 27 rfl w.heap.size 24 i0 (.complex .f32 0 0) 1 8 Try.underlying27 hi hz0 hz1 hz2 rfl (by decide) _ _ (cws ws) rfl (t1.alloc _) ⟨wr.heap.size, 0, none⟩ 1 1 [(.complex .f32 M r)] rfl rfl (World.news_of_block (heap_alloc_new _ _)) (by simp [Value.oneCell']) (by omega) (by unfold maxLen; omega) (by omega) (by simp; omega) (wr.heap.size + 1) (by simp) ?_; intro qa qca wf hown1 hgrow1 hat1 hlt1) | (refine wpList_flc rfl rfl rfl rfl rfl (by exact rfl) (by exact rfl) ?_; intro r d hr))
        have hcut3 := hcut2.out r (cy_of (by assumption) (by assumption) (by assumption) (by assumption) (by assumption) (by assumption))
        go_roundw
        case rel => exact ⟨k + 1, _, by go_num, by omega, by rw [hpw], row_snoc hown1, hcut3, (below_drewN hb _).alloc hB0 _ |>.grown hgrow1 (by simp; omega) (fun g hg => (t1.lt g hg).1)⟩
        case measure => simp [intOf]; omega
      · obtain ⟨y, hy, hc⟩ := h.cross hM bm hlt (.inr ⟨hq, by grind⟩)
        have hcut2 : Hid (∀ c, cl .f32 c = cyX (cl .f32 M) (cl .f32 (pw P n k).1) (cl .f32 (pw P n k).2) (cl .f32 (P k).1) (cl .f32 (P k).2) → CutSt P n (wv M) 0 (610 * uu) bx b2 (k + 1) (ws ++ [(M, c)] ++ [P k])) := Lib.hid fun c e => by
          obtain ⟨i1, i2, i3⟩ := hc c (by rw [e]; exact hy)
          exact cut_RL hcut Rat.le_refl hu0 hp hq (h.box hlt) i1 i2 hq6 i3
        clear hy hc
        have hp' := le_no hpk hM hp
        have hq' := le_yes hqk hM hq
        clear hp hq hpk hqk hA hcl' hcut hp6 hq6
        generalize hz : pw P n k = z at *
        generalize P k = q at *
        obtain ⟨q1, q2⟩ := q
        obtain ⟨z1, z2⟩ := z
        go_wp2_with (first | (at_builtin; refine wpList_append_lies _ rfl (.tmp 41) (.tmp 54) 27 rfl w.heap.size 24 i0 (.complex .f32 0 0) 1 8 Try.underlying27 hi hz0 hz1 hz2 rfl (by decide) _ _ (cws ws) rfl (t1.alloc _) ⟨wr.heap.size, 0, none⟩ 1 1 [(.complex .f32 M r)] rfl rfl (World.news_of_block (heap_alloc_new _ _)) (by simp [Value.oneCell']) (by omega) (by unfold maxLen; omega) (by omega) (by simp; omega) (wr.heap.size + 1) (by simp) ?_; intro qa qca wf hown1 hgrow1 hat1 hlt1; have hb1 : Below w.heap.size w wf := (below_drewN hb _).alloc hB0 _ |>.grown hgrow1 (by simp; omega) (fun g hg => (t1.lt g hg).1); have hB1 := hb1.size) | (at_builtin; refine wpList_append_lies _ rfl (.tmp 60) (.tmp 62) 27 rfl w.heap.size 24 i0 (.complex .f32 0 0) 1 8 Try.underlying27 hi hz0 hz1 hz2 rfl (by decide) _ _ _ rfl (hown1.alloc _) ⟨wf.heap.size, 0, none⟩ 1 1 [(.complex .f32 q1 q2)] rfl rfl (World.news_of_block (heap_alloc_new _ _)) (by simp [Value.oneCell']) (by omega) (by unfold maxLen; omega) (by omega) (by simp; omega) (wf.heap.size + 1) (by simp) ?_; intro qb qcb wg hown2 hgrow2 hat2 hlt2) | (refine wpList_flc rfl rfl rfl rfl rfl (by exact rfl) (by exact rfl) ?_; intro r d hr))
        have hcut3 := hcut2.out r (cy_of (by assumption) (by assumption) (by assumption) (by assumption) (by assumption) (by assumption))
        go_roundw
        case rel => exact ⟨k + 1, _, by go_num, by omega, by rw [hpw], row_snoc2 hown2, hcut3, (hb1.alloc hb1.size _).grown hgrow2 (by have := hb1.size; simp; omega) (fun g hg => (hown1.lt g hg).1)⟩
        case measure => simp [intOf]; omega
      · have hcut2 := Lib.hid (cut_RR hcut Rat.le_refl hu0 hp hq)
        have hp' := le_no hpk hM hp
        have hq' := le_no hqk hM hq
        clear hp hq hpk hqk hA hcl' hcut hp6 hq6
        generalize hz : pw P n k = z at *
        generalize P k = q at *
        obtain ⟨q1, q2⟩ := q
        obtain ⟨z1, z2⟩ := z
        go_wp2
        go_roundw
        case rel => exact ⟨k + 1, ws, by go_num, by omega, by rw [hpw], ⟨t1, _, _, rfl⟩, hcut2.out, hb⟩
        case measure => simp [intOf]; omega
    · obtain rfl : k = n := by omega
      obtain ⟨a', c', e', hx⟩ := RowW.cx ⟨t1, va, vc, rfl⟩ (by omega)
      cases e'
      clear hcl' hA
      go_wp2
      go_ret
      exact ⟨_, _, ws, rfl, hx, hcut, hb⟩
end Go.Proofs.Yticoikchcmmpfaa
namespace Go.Proofs.Yticoikchcmmpfaa
open Go.RowKit
attribute [local go_sem] order_cl cl_zero cl_one cl_two aord_none

structure LeastW (P : Nat → Nat × Nat) (n k l : Nat) : Prop where
  le : ∀ j, j < k → wv l ≤ wv (P j).1
  at' : ∃ j, j < n ∧ l = (P j).1
structure MostW (P : Nat → Nat × Nat) (n k l : Nat) : Prop where
  ge : ∀ j, j < k → wv (P j).1 ≤ wv l
  at' : ∃ j, j < n ∧ l = (P j).1
theorem lt_iff {X Y : Nat} (hx : NumF X) (hy : NumF Y) : (aord .f32 (cl .f32 X) (cl .f32 Y) == some .lt) = decide (wv X < wv Y) := by
  obtain ⟨o1, o2, o3⟩ := (numF_vl hx).order (numF_vl hy)
  rcases (show wv X < wv Y ∨ wv X = wv Y ∨ wv Y < wv X by grind) with c | c | c
  · rw [o1 c, decide_eq_true c]; rfl
  · rw [o2 c, decide_eq_false (by grind)]; rfl
  · rw [o3 c, decide_eq_false (by grind)]; rfl
theorem gt_iff {X Y : Nat} (hx : NumF X) (hy : NumF Y) : (aord .f32 (cl .f32 X) (cl .f32 Y) == some .gt) = decide (wv Y < wv X) := by
  obtain ⟨o1, o2, o3⟩ := (numF_vl hx).order (numF_vl hy)
  rcases (show wv X < wv Y ∨ wv X = wv Y ∨ wv Y < wv X by grind) with c | c | c
  · rw [o1 c, decide_eq_false (by grind)]; rfl
  · rw [o2 c, decide_eq_false (by grind)]; rfl
  · rw [o3 c, decide_eq_true c]; rfl
theorem least_next {P : Nat → Nat × Nat} {n k l : Nat} (h : LeastW P n k l) (hk : k < n) : (wv (P k).1 < wv l → LeastW P n (k + 1) (P k).1) ∧ (¬ wv (P k).1 < wv l → LeastW P n (k + 1) l) := by
  constructor
  · intro c
    refine ⟨fun j hj => ?_, k, hk, rfl⟩
    by_cases e : j = k
    · rw [e]; exact Rat.le_refl
    · have := h.le j (by omega); grind
  · intro c
    refine ⟨fun j hj => ?_, h.at'⟩
    by_cases e : j = k
    · rw [e]; grind
    · exact h.le j (by omega)
theorem most_next {P : Nat → Nat × Nat} {n k l : Nat} (h : MostW P n k l) (hk : k < n) : (wv l < wv (P k).1 → MostW P n (k + 1) (P k).1) ∧ (¬ wv l < wv (P k).1 → MostW P n (k + 1) l) := by
  constructor
  · intro c
    refine ⟨fun j hj => ?_, k, hk, rfl⟩
    by_cases e : j = k
    · rw [e]; exact Rat.le_refl
    · have := h.ge j (by omega); grind
  · intro c
    refine ⟨fun j hj => ?_, h.at'⟩
    by_cases e : j = k
    · rw [e]; grind
    · exact h.ge j (by omega)
def RetBox (P : Nat → Nat × Nat) (n : Nat) (w : World) (e : Ending) (w' : World) : Prop := ∃ l b h t, e = .returned (.tuple #[.complex .f32 l b, .complex .f32 h t]) ∧ LeastW P n n l ∧ MostW P n n h ∧ Drew w w'
set_option maxRecDepth 8000 in
set_option maxHeartbeats 2000000 in
theorem boxOf (a : Option Addr) (n cap : Nat) (P : Nat → Nat × Nat) (w : World) (hA : CxF w a n P) (hN : ∀ k, k < n → NumC (P k)) (n3 : 3 ≤ n) : Calls Try.prog 51 #[.slice a n cap] w (RetBox P n w) := by
  have hm := hA.max
  obtain ⟨b0, o0, rfl, hb0, hc0⟩ := hA.get (k := 0) (by omega)
  have hc0' : w.cell? ⟨b0, o0, none⟩ = some (.complex .f32 (P 0).1 (P 0).2) := hc0
  have L0 : Hid (LeastW P n 0 (P 0).1 ∧ MostW P n 0 (P 0).1) := Lib.hid ⟨⟨fun j hj => by omega, 0, by omega, rfl⟩, ⟨fun j hj => by omega, 0, by omega, rfl⟩⟩
  clear hc0
  have hn0 : (0 : Int) < (n : Int) := by omega
  have hn1 : 0 < n := by omega
  generalize hx0 : (P 0).1 = x0 at *
  generalize hy0 : (P 0).2 = y0 at *
  go_enter Try.func51, Try.ntmps51
  go_wp2
  go_quiet (fail)
  go_wp2
  clear hx0 hy0 hc0'
  go_loopw [4, 5, 6, 7, 9, 10, 11, 30] (fun l h b t _ _ _ i wr => ∃ (k lw hw bw tw : Nat), k ≤ n ∧ i = .int .i64 k ∧ l = .float .f32 lw ∧ h = .float .f32 hw ∧ b = .float .f32 bw ∧ t = .float .f32 tw ∧ Hid (LeastW P n k lw ∧ MostW P n k hw) ∧ Drew w wr) (fun _ _ _ _ _ _ _ i _ => n - (intOf i).toNat)
  case atStart => exact ⟨0, _, _, _, _, Nat.zero_le _, rfl, rfl, rfl, rfl, rfl, L0, Drew.n _ _⟩
  case round =>
    obtain ⟨k, lw, hw, bw, tw, hk, rfl, rfl, rfl, rfl, rfl, hLM, d, rfl⟩ := hrel
    by_cases hlt : k < n
    · obtain ⟨b, off, eb, hbb, hck⟩ := hA.get hlt
      cases eb
      obtain ⟨hL, hM⟩ := hLM.out
      have nl : NumF lw := by obtain ⟨j, hj, rfl⟩ := hL.at'; exact (hN j hj).1
      have nh : NumF hw := by obtain ⟨j, hj, rfl⟩ := hM.at'; exact (hN j hj).1
      have nk := (hN k hlt).1
      have t1 := lt_iff nk nl
      have t2 := gt_iff nk nh
      have n1 := least_next hL hlt
      have n2 := most_next hM hlt
      have key : Hid ((decide (wv (P k).1 < wv lw) = true → LeastW P n (k + 1) (P k).1) ∧ (decide (wv (P k).1 < wv lw) = false → LeastW P n (k + 1) lw) ∧ (decide (wv hw < wv (P k).1) = true → MostW P n (k + 1) (P k).1) ∧ (decide (wv hw < wv (P k).1) = false → MostW P n (k + 1) hw)) := Lib.hid ⟨fun e => n1.1 (of_decide_eq_true e), fun e => n1.2 (of_decide_eq_false e), fun e => n2.1 (of_decide_eq_true e), fun e => n2.2 (of_decide_eq_false e)⟩
      clear n1 n2 nl nh nk hL hM hLM
      generalize (P k).1 = z1 at *
      generalize (P k).2 = z2 at *
      generalize decide (wv z1 < wv lw) = c1 at *
      generalize decide (wv hw < wv z1) = c2 at *
      generalize h3 : (aord .f32 (cl .f32 z2) (cl .f32 bw) == some .lt) = c3 at *
      generalize h4 : (aord .f32 (cl .f32 z2) (cl .f32 tw) == some .gt) = c4 at *
      have hlt' : Hid (k + 1 ≤ n) := Lib.hid (by omega)
      cases c1 <;> cases c2 <;> cases c3 <;> cases c4
      all_goals
        go_wp2
        go_roundw
        case rel => exact ⟨k + 1, _, _, _, _, hlt'.out, by go_num, rfl, rfl, rfl, rfl, Lib.hid ⟨by first | exact key.out.1 rfl | exact key.out.2.1 rfl, by first | exact key.out.2.2.1 rfl | exact key.out.2.2.2 rfl⟩, Drew.n _ _⟩
        case measure => simp [intOf]; omega
    · obtain rfl : k = n := by omega
      go_wp2
      refine bodyPost_ret (v := .tuple #[.complex .f32 lw bw, .complex .f32 hw tw]) ?_ rfl ⟨_, _, _, _, rfl, hLM.out.1, hLM.out.2, Drew.n _ _⟩
      simp [results, Try.results51, go_sem]
end Go.Proofs.Yticoikchcmmpfaa
