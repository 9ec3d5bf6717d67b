/-
  The list of what lies left of a cut, corner by corner; its length; its area.
-/
import Derived.Test.YticoikchcmmpfaaPChain
namespace Go.Proofs.Yticoikchcmmpfaa
open Go.RowKit

/-- The corner before. -/
def pw (P : Nat → Nat × Nat) (n k : Nat) : Nat × Nat := P (if k = 0 then n - 1 else k - 1)
def zz (P : Nat → Nat × Nat) (n : Nat) (m : Rat) : Rat × Rat := if (pt (pw P n 0)).1 ≤ m then pt (pw P n 0) else (m, 0)
def edS (P : Nat → Nat × Nat) (n : Nat) (m : Rat) (k : Nat) : Rat := sm k fun j => ed (pt (pw P n j)) (pt (P j)) m
theorem edS_all (P : Nat → Nat × Nat) {n : Nat} (hn : 0 < n) (m : Rat) : edS P n m n = areaL (fun k => pt (P k)) n m := by
  obtain ⟨t, rfl⟩ : ∃ t, n = t + 1 := ⟨n - 1, by omega⟩
  unfold edS areaL
  rw [sm_front]
  show ed (pt (P t)) (pt (P 0)) m + (sm t fun k => ed (pt (P k)) (pt (P (k + 1))) m) = sm t _ + ed (pt (P t)) (pt (P (nx (t + 1) t))) m
  rw [show nx (t + 1) t = 0 by unfold nx; rw [if_pos rfl]]
  have : (sm t fun k => ed (pt (P k)) (pt (P (nx (t + 1) k))) m) = sm t fun k => ed (pt (P k)) (pt (P (k + 1))) m := sm_congr fun k hk => by
    rw [show nx (t + 1) k = k + 1 by unfold nx; rw [if_neg (by omega)]]
  rw [this]
  grind
/-- A crossing that errs little. -/
def CrossOk (p q c : Rat × Rat) (m x e : Rat) : Prop := ∃ s y, s * (q.1 - p.1) = m - p.1 ∧ y = p.2 + s * (q.2 - p.2) ∧ Ab (c.1 - m) x ∧ Ab ((m - p.1) * (c.2 - y)) e ∧ Ab ((m - q.1) * (c.2 - y)) e
def InBox (w : Nat × Nat) (bx b2 : Rat) : Prop := NumC w ∧ Ab (wv w.1 - bx) (402 / 100) ∧ Ab (wv w.2 - b2) (402 / 100)

structure CutSt (P : Nat → Nat × Nat) (n : Nat) (m x e bx b2 : Rat) (k : Nat) (ws : List (Nat × Nat)) : Prop where
  box : ∀ w ∈ ws, InBox w bx b2
  cnt : 2 * ws.length + (if (pt (pw P n k)).1 ≤ m then 0 else 1) ≤ 3 * k + 1
  lastL : (pt (pw P n k)).1 ≤ m → (ws.map pt).getLastD (zz P n m) = pt (pw P n k)
  lastR : ¬ (pt (pw P n k)).1 ≤ m → Ab (((ws.map pt).getLastD (zz P n m)).1 - m) x ∧ Ab ((ws.map pt).getLastD (zz P n m)).2 (603 / 100)
  sum : Ab (chs m (zz P n m) (ws.map pt) / 2 - (edS P n m k - hh m (pt (pw P n 0)) + hh m (pt (pw P n k)))) (k * (e / 2 + x * 10))
  ne : ¬ (pt (pw P n 0)).1 ≤ m → (pt (pw P n k)).1 ≤ m → ws ≠ []
  first : ws ≠ [] → ¬ (pt (pw P n 0)).1 ≤ m → Ab (((ws.map pt).getD 0 (pt (0, 0))).1 - m) x ∧ Ab ((ws.map pt).getD 0 (pt (0, 0))).2 (603 / 100)

theorem crM_line {m x : Rat} {z c : Rat × Rat} (h1 : Ab (z.1 - m) x) (h2 : Ab z.2 (603 / 100)) (h3 : Ab (c.1 - m) x) (h4 : Ab c.2 (603 / 100)) : Ab (crM m z c / 2) (x * (61 / 10)) := by
  have a1 := h1.mul h4
  have a2 := h2.mul h3
  have := h1.pos
  unfold crM
  generalize (z.1 - m) * c.2 = t at *
  generalize z.2 * (c.1 - m) = t' at *
  clear h1 h2 h3 h4
  unfold Ab at *
  constructor <;> grind
section
variable {P : Nat → Nat × Nat} {n : Nat} {m x e bx b2 : Rat}
theorem cut_start (hx : 0 ≤ x) : CutSt P n m x e bx b2 0 [] := by
  refine ⟨fun w hw => by simp at hw, ?_, ?_, ?_, ?_, fun h h' => absurd h' h, fun h => absurd rfl h⟩
  · split <;> simp
  · intro h
    show zz P n m = _
    unfold zz
    rw [if_pos h]
  · intro h
    show Ab ((zz P n m).1 - m) x ∧ Ab (zz P n m).2 _
    unfold zz
    rw [if_neg h]
    unfold Ab
    simp only
    refine ⟨by constructor <;> grind, by decide +kernel, by decide +kernel⟩
  · show Ab (0 / 2 - (0 - _ + _)) _
    refine (show Ab 0 _ from ?_).eq (show _ = (0 : Rat) by grind)
    unfold Ab
    simp [Rat.zero_mul]
theorem first_snoc {ws : List (Nat × Nat)} {o : Nat × Nat} : ((ws ++ [o]).map pt).getD 0 (pt (0, 0)) = if ws = [] then pt o else (ws.map pt).getD 0 (pt (0, 0)) := by
  cases ws with
  | nil => rfl
  | cons a t => rfl
theorem box_snoc {ws : List (Nat × Nat)} {o : Nat × Nat} (h : ∀ w ∈ ws, InBox w bx b2) (ho : InBox o bx b2) : ∀ w ∈ ws ++ [o], InBox w bx b2 := by
  intro w hw
  rcases List.mem_append.1 hw with hw | hw
  · exact h w hw
  · rw [List.mem_singleton.1 hw]; exact ho
theorem lastD_snoc {ws : List (Nat × Nat)} {o : Nat × Nat} {z : Rat × Rat} : ((ws ++ [o]).map pt).getLastD z = pt o := by
  rw [List.map_append]
  show ((ws.map pt) ++ [pt o]).getLastD z = _
  simp [List.getLastD_eq_getLast?]
theorem chs_snocW {ws : List (Nat × Nat)} {o : Nat × Nat} {z : Rat × Rat} : chs m z ((ws ++ [o]).map pt) = chs m z (ws.map pt) + crM m ((ws.map pt).getLastD z) (pt o) := by
  rw [List.map_append]
  exact chs_snoc m (ws.map pt) z (pt o)
theorem cut_LL {k : Nat} {ws : List (Nat × Nat)} (h : CutSt P n m x e bx b2 k ws) (hx : 0 ≤ x) (he : 0 ≤ e) (hp : (pt (pw P n k)).1 ≤ m) (hq : (pt (P k)).1 ≤ m) (hb : InBox (P k) bx b2) : CutSt P n m x e bx b2 (k + 1) (ws ++ [P k]) := by
  have e1 : pw P n (k + 1) = P k := rfl
  have hc : ((k + 1 : Nat) : Rat) = (k : Rat) + 1 := by rw [Rat.natCast_add]; rfl
  refine ⟨box_snoc h.box hb, ?_, ?_, ?_, ?_, fun _ _ => by simp, ?_⟩
  · have := h.cnt
    rw [e1, if_pos hq]
    rw [if_pos hp] at this
    simp
    omega
  · intro _; rw [e1, lastD_snoc]
  · intro h'; exact absurd (by rw [e1]; exact hq) h'
  · have := h.sum
    rw [e1, chs_snocW, h.lastL hp, hc]
    have hl := edge_LL hp hq
    show Ab ((_ + _) / 2 - (edS P n m k + ed (pt (pw P n k)) (pt (P k)) m - _ + _)) _
    refine (this.mono (e' := (k + 1) * (e / 2 + x * 10)) ?_).eq ?_
    · have : 0 ≤ e / 2 + x * 10 := by grind
      grind
    · grind
  · intro _ h0
    rw [first_snoc]
    split
    · rename_i hw; exact absurd hw (h.ne h0 hp)
    · rename_i hw; exact h.first hw h0
theorem cut_RR {k : Nat} {ws : List (Nat × Nat)} (h : CutSt P n m x e bx b2 k ws) (hx : 0 ≤ x) (he : 0 ≤ e) (hp : ¬ (pt (pw P n k)).1 ≤ m) (hq : ¬ (pt (P k)).1 ≤ m) : CutSt P n m x e bx b2 (k + 1) ws := by
  have e1 : pw P n (k + 1) = P k := rfl
  have hc : ((k + 1 : Nat) : Rat) = (k : Rat) + 1 := by rw [Rat.natCast_add]; rfl
  refine ⟨h.box, ?_, ?_, ?_, ?_, ?_, h.first⟩
  · have := h.cnt
    rw [e1, if_neg hq]
    rw [if_neg hp] at this
    omega
  · intro h'; exact absurd (by rw [← e1]; exact h') hq
  · intro _; exact h.lastR hp
  · have := h.sum
    rw [e1, hc]
    have hl := edge_RR hp hq
    show Ab (_ / 2 - (edS P n m k + ed (pt (pw P n k)) (pt (P k)) m - _ + _)) _
    refine (this.mono (e' := (k + 1) * (e / 2 + x * 10)) ?_).eq ?_
    · have : 0 ≤ e / 2 + x * 10 := by grind
      grind
    · grind
  · intro _ h'; exact absurd (by rw [← e1]; exact h') hq
theorem cut_LR {k : Nat} {ws : List (Nat × Nat)} {c : Nat × Nat} (h : CutSt P n m x e bx b2 k ws) (hx : 0 ≤ x) (he : 0 ≤ e) (hp : (pt (pw P n k)).1 ≤ m) (hq : ¬ (pt (P k)).1 ≤ m) (hb : InBox c bx b2) (hc6 : Ab (wv c.2) (603 / 100)) (hp6 : Ab (pt (pw P n k)).2 (603 / 100)) (hok : CrossOk (pt (pw P n k)) (pt (P k)) (pt c) m x e) : CutSt P n m x e bx b2 (k + 1) (ws ++ [c]) := by
  have e1 : pw P n (k + 1) = P k := rfl
  have hc : ((k + 1 : Nat) : Rat) = (k : Rat) + 1 := by rw [Rat.natCast_add]; rfl
  obtain ⟨s, y, hs, hy, cx, cp, cq⟩ := hok
  refine ⟨box_snoc h.box hb, ?_, ?_, ?_, ?_, fun _ _ => by simp, ?_⟩
  · have := h.cnt
    rw [e1, if_neg hq]
    rw [if_pos hp] at this
    simp
    omega
  · intro h'; exact absurd (by rw [← e1]; exact h') hq
  · intro _; rw [lastD_snoc]; exact ⟨cx, hc6⟩
  · have := h.sum
    rw [e1, chs_snocW, h.lastL hp, hc]
    have hl := edge_LR hp hq hs hy cx hp6 cp
    show Ab ((_ + _) / 2 - (edS P n m k + ed (pt (pw P n k)) (pt (P k)) m - _ + _)) _
    refine ((this.add hl).mono (e' := (k + 1) * (e / 2 + x * 10)) ?_).eq ?_
    · grind
    · grind
  · intro _ h0
    rw [first_snoc]
    split
    · exact ⟨cx, hc6⟩
    · rename_i hw; exact h.first hw h0
theorem cut_RL {k : Nat} {ws : List (Nat × Nat)} {c : Nat × Nat} (h : CutSt P n m x e bx b2 k ws) (hx : 0 ≤ x) (he : 0 ≤ e) (hp : ¬ (pt (pw P n k)).1 ≤ m) (hq : (pt (P k)).1 ≤ m) (hbk : InBox (P k) bx b2) (hb : InBox c bx b2) (hc6 : Ab (wv c.2) (603 / 100)) (hq6 : Ab (pt (P k)).2 (603 / 100)) (hok : CrossOk (pt (pw P n k)) (pt (P k)) (pt c) m x e) : CutSt P n m x e bx b2 (k + 1) (ws ++ [c] ++ [P k]) := by
  have e1 : pw P n (k + 1) = P k := rfl
  have hc : ((k + 1 : Nat) : Rat) = (k : Rat) + 1 := by rw [Rat.natCast_add]; rfl
  obtain ⟨s, y, hs, hy, cx, cp, cq⟩ := hok
  refine ⟨box_snoc (box_snoc h.box hb) hbk, ?_, ?_, ?_, ?_, fun _ _ => by simp, ?_⟩
  · have := h.cnt
    rw [e1, if_pos hq]
    rw [if_neg hp] at this
    simp
    omega
  · intro _; rw [e1, lastD_snoc]
  · intro h'; exact absurd (by rw [e1]; exact hq) h'
  · have := h.sum
    rw [e1, chs_snocW, chs_snocW, lastD_snoc, hc]
    have hl := edge_RL hp hq hs hy cx hq6 cq
    have hz := crM_line (h.lastR hp).1 (h.lastR hp).2 cx hc6
    show Ab ((_ + _ + _) / 2 - (edS P n m k + ed (pt (pw P n k)) (pt (P k)) m - _ + _)) _
    refine (((this.add hl).add hz).mono (e' := (k + 1) * (e / 2 + x * 10)) ?_).eq ?_
    · grind
    · grind
  · intro _ h0
    rw [first_snoc, if_neg (by simp), first_snoc]
    split
    · exact ⟨cx, hc6⟩
    · rename_i hw; exact h.first hw h0
theorem getD_pt (ws : List (Nat × Nat)) (k : Nat) : (ws.map pt).getD k (pt (0, 0)) = pt (ws.getD k (0, 0)) := by
  rw [List.getD_eq_getElem?_getD, List.getD_eq_getElem?_getD, List.getElem?_map]
  cases ws[k]? <;> rfl
/-- The list is done. -/
theorem cut_done {ws : List (Nat × Nat)} (hn : 0 < n) (hx0 : 0 ≤ x) (h : CutSt P n m x e bx b2 n ws) : Ab (sumV (fun j => ws.getD j (0, 0)) ws.length ws.length / 2 - areaL (fun k => pt (P k)) n m) (n * (e / 2 + x * 10) + x * (61 / 10)) ∧ 2 * ws.length ≤ 3 * n + 1 := by
  refine ⟨?_, by have := h.cnt; omega⟩
  have hs := h.sum
  have en : pw P n n = pw P n 0 := by
    unfold pw
    rw [if_neg (by omega), if_pos rfl]
  rw [edS_all P hn, en] at hs
  have e1 : sumV (fun j => ws.getD j (0, 0)) ws.length ws.length = sm (ws.map pt).length fun j => crM m ((ws.map pt).getD j (pt (0, 0))) ((ws.map pt).getD (nx (ws.map pt).length j) (pt (0, 0))) := by
    unfold sumV
    rw [closed_crV m (fun j => pt (ws.getD j (0, 0)))]
    rw [List.length_map]
    exact sm_congr fun k _ => by
      rw [getD_pt, getD_pt]
  rw [e1]
  by_cases h0 : ws = []
  · subst h0
    have hx : 0 ≤ x * (61 / 10) := by
      grind
    have : chs m (zz P n m) (([] : List (Nat × Nat)).map pt) = 0 := rfl
    rw [this] at hs
    refine (hs.mono (e' := n * (e / 2 + x * 10) + x * (61 / 10)) (by grind)).eq ?_
    show (0 : Rat) / 2 - _ = _
    grind
  rw [closed_chs m (ws.map pt) (pt (0, 0)) (zz P n m) (by simp [h0])]
  by_cases hl : (pt (pw P n 0)).1 ≤ m
  · have e2 := h.lastL (by rw [en]; exact hl)
    have e3 : zz P n m = pt (pw P n n) := by unfold zz; rw [if_pos hl, en]
    rw [e2, ← e3]
    refine (hs.mono (e' := n * (e / 2 + x * 10) + x * (61 / 10)) (by grind)).eq ?_
    grind
  · have e3 : zz P n m = (m, 0) := by unfold zz; rw [if_neg hl]
    have f := h.first h0 hl
    have g := h.lastR (by rw [en]; exact hl)
    have hz := crM_line g.1 g.2 f.1 f.2
    have e4 : crM m (zz P n m) ((ws.map pt).getD 0 (pt (0, 0))) = 0 := by
      rw [e3]; unfold crM; simp only; grind
    rw [e4]
    refine (hs.add hz).eq ?_
    grind
end
end Go.Proofs.Yticoikchcmmpfaa
