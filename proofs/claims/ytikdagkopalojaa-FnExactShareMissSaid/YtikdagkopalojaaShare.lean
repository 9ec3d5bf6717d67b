/-
  The miss shared out: told twice.
-/
import Derived.Test.YtikdagkopalojaaMiss
import Derived.Test.YtikdagkopalojaaMark
import Derived.Laws.AppendOwn
namespace Go.Proofs.Ytikdagkopalojaa
open Go.RowKit Go.Shelf

def flo (a b : Int) : Int := if a.tmod b < 0 then a.tdiv b - 1 else a.tdiv b
theorem flo_le {a b A : Int} (h : -A ≤ a ∧ a ≤ A) : -A - 1 ≤ flo a b ∧ flo a b ≤ A := by
  have e := Int.natAbs_tdiv_le_natAbs a b
  unfold flo
  split <;> omega
theorem flo_zero (b : Int) : flo 0 b = 0 := by simp [flo]

theorem l05Floor (a b : Int) (ha : -200000000000000000 ≤ a ∧ a ≤ 200000000000000000) (hb : 1 ≤ b ∧ b ≤ 1000000000) (w : World) :
    Calls Try.prog 62 #[.int .i64 a, .int .i64 b] w (fun e w' => e = .returned (.int .i64 (flo a b)) ∧ w = w') := by
  have e := Int.natAbs_tdiv_le_natAbs a b
  have hb0 : b ≠ 0 := by omega
  have hz : (b == 0) = false := by simp; omega
  have hq : -200000000000000000 ≤ a.tdiv b ∧ a.tdiv b ≤ 200000000000000000 := by omega
  have hw1 : IntKind.i64.wrap (a.tdiv b) = a.tdiv b := IntWalk.i64_in _ (by omega)
  have hw2 : IntKind.i64.wrap (a.tdiv b - 1) = a.tdiv b - 1 := IntWalk.i64_in _ (by omega)
  unfold flo
  by_cases h : a.tmod b < 0
  · rw [if_pos h]
    go_enter Try.func62, Try.ntmps62
    go_wp2
    go_ret
    exact ⟨rfl, rfl⟩
  · rw [if_neg h]
    go_enter Try.func62, Try.ntmps62
    go_wp2
    go_ret
    exact ⟨rfl, rfl⟩
theorem floorDiv (a b : Int) (ha : -200000000000000000 ≤ a ∧ a ≤ 200000000000000000) (hb : 1 ≤ b ∧ b ≤ 1000000000) (w : World) :
    Calls Try.prog 64 #[.int .i64 a, .int .i64 b] w (fun e w' => e = .returned (.int .i64 (flo a b)) ∧ w = w') := by
  have e := Int.natAbs_tdiv_le_natAbs a b
  have hb0 : b ≠ 0 := by omega
  have hz : (b == 0) = false := by simp; omega
  have hq : -200000000000000000 ≤ a.tdiv b ∧ a.tdiv b ≤ 200000000000000000 := by omega
  have hw1 : IntKind.i64.wrap (a.tdiv b) = a.tdiv b := IntWalk.i64_in _ (by omega)
  have hw2 : IntKind.i64.wrap (a.tdiv b - 1) = a.tdiv b - 1 := IntWalk.i64_in _ (by omega)
  unfold flo
  by_cases h : a.tmod b < 0
  · rw [if_pos h]
    go_enter Try.func64, Try.ntmps64
    go_wp2
    go_ret
    exact ⟨rfl, rfl⟩
  · rw [if_neg h]
    go_enter Try.func64, Try.ntmps64
    go_wp2
    go_ret
    exact ⟨rfl, rfl⟩

def longTo (rs : List Rise) (k : Nat) : Int := ((rs.take k).map Rise.l).sum
theorem longTo_step {rs : List Rise} {k : Nat} (hk : k < rs.length) : longTo rs (k + 1) = longTo rs k + (R rs k).l := by
  unfold longTo R
  rw [List.take_succ_eq_append_getElem hk, List.map_append, List.sum_append, getD_at hk]
  simp
theorem l_of {rs : List Rise} {n : Int} (h : risesB rs n = true) {k : Nat} (hk : k < rs.length) : 1 ≤ (R rs k).l ∧ (R rs k).l ≤ 10000000 := by
  have := ok_of h hk
  unfold Rise.ok Rise.plain at this
  simp only [Bool.and_eq_true] at this
  exact of_decide_eq_true this.1.1.1.2
theorem longTo_le {rs : List Rise} {n : Int} (h : risesB rs n = true) {k : Nat} (hk : k ≤ rs.length) : k ≤ longTo rs k ∧ longTo rs k ≤ 10000000 * k := by
  induction k with
  | zero => simp [longTo]
  | succ k ih =>
    have := ih (by omega)
    have := l_of h (k := k) (by omega)
    rw [longTo_step (by omega)]
    omega

/-- What has been shared out up to mark k. -/
def dueTo (rs : List Rise) (k : Nat) : Int := flo (sumTo rs rs.length * longTo rs k) (longTo rs rs.length)
def shareR (rs : List Rise) : List Rise := (List.range rs.length).map fun i => { R rs i with s := (R rs i).s - (dueTo rs (i + 1) - dueTo rs i) }
theorem shareR_len (rs : List Rise) : (shareR rs).length = rs.length := by simp [shareR]
theorem shareR_get {rs : List Rise} {k : Nat} (h : k < rs.length) : (shareR rs).getD k default = { R rs k with s := (R rs k).s - (dueTo rs (k + 1) - dueTo rs k) } := by simp [shareR, h, List.getD_eq_getElem?_getD]
theorem due_arg {rs : List Rise} {n : Int} (h : risesB rs n = true) {k : Nat} (hk : k ≤ rs.length) : -200000000000000000 ≤ sumTo rs rs.length * longTo rs k ∧ sumTo rs rs.length * longTo rs k ≤ 200000000000000000 := by
  have h1 := sumTo_le h (Nat.le_refl rs.length)
  have h2 := longTo_le h hk
  have h3 := len_of h
  generalize sumTo rs rs.length = a at *
  generalize longTo rs k = b at *
  have e1 : a.natAbs ≤ 320000000 := by omega
  have e2 : b.natAbs ≤ 320000000 := by omega
  have e3 : (a * b).natAbs ≤ 320000000 * 320000000 := by rw [Int.natAbs_mul]; exact Nat.mul_le_mul e1 e2
  omega

/-- A new list (nil, if the answer is no) with an answer. -/
def NewRs (out : List Rise) (ok : Bool) (w : World) (e : Ending) (w' : World) : Prop :=
  ∃ a cap, e = .returned (.tuple #[.slice a out.length cap, .bool ok]) ∧ MineR w.heap.size w' a out.length out ∧ Below w.heap.size w w'
noncomputable def outR (rs : List Rise) : List Rise := if ringB rs = true then shareR rs else []
theorem NewRs.no {rs : List Rise} {w w' : World} (e : ringB rs = false) (hb : Below w.heap.size w w') : NewRs (outR rs) (ringB rs) w (.returned (.tuple #[.slice none 0 0, .bool false])) w' := by
  have : outR rs = [] := by unfold outR; rw [e]; rfl
  rw [this, e]
  exact ⟨none, 0, rfl, MineR.nil _ _, hb⟩

theorem RiS.nth {w : World} {b off len : Nat} {rs : List Rise} (h : RiS w (some ⟨b, off, none⟩) len rs) {k : Nat} (hk : k < len) : ∃ r, b < w.heap.size ∧ Four w b (off + k * 4) r ∧ Hid (rs.getD k default = r) := by
  obtain ⟨b', off', r, e, hb, hc, hz⟩ := h.get hk
  simp at e
  obtain ⟨rfl, rfl⟩ := e
  exact ⟨r, hb, hc, hz⟩
theorem RiS.cells {w : World} {b off len : Nat} {rs : List Rise} (h : RiS w (some ⟨b, off, none⟩) len rs) {j : Nat} {u : Value} (hj : (cellsR rs)[j]? = some u) : w.cell? ((⟨b, off, none⟩ : Addr).add j) = some u := by
  have hlt : j < (cellsR rs).length := by
    rcases Nat.lt_or_ge j (cellsR rs).length with h | h
    · exact h
    · rw [List.getElem?_eq_none h] at hj; cases hj
  rw [cellsR_len, h.size] at hlt
  have hk : j / 4 < len := by omega
  obtain ⟨b', off', r, e, _, ⟨c0, c1, c2, c3⟩, hz⟩ := h.get hk
  simp at e
  obtain ⟨rfl, rfl⟩ := e
  have e2 := cellsR_get (rs := rs) (k := j / 4) (by rw [h.size]; exact hk) (j % 4) (Nat.mod_lt _ (by omega))
  rw [show j / 4 * 4 + j % 4 = j by omega, hj, hz.out] at e2
  have ea : (⟨b, off, none⟩ : Addr).add j = ⟨b, off + j, none⟩ := by unfold Addr.add; split <;> simp_all
  rw [ea]
  have h4 : j % 4 < 4 := Nat.mod_lt _ (by omega)
  have hc : j % 4 = 0 ∨ j % 4 = 1 ∨ j % 4 = 2 ∨ j % 4 = 3 := by omega
  rcases hc with hc | hc | hc | hc <;> rw [hc] at e2 <;> simp [Rise.cells] at e2 <;> subst e2
  · rw [show off + j = off + j / 4 * 4 by omega]; exact c0
  · rw [show off + j = off + j / 4 * 4 + 1 by omega]; exact c1
  · rw [show off + j = off + j / 4 * 4 + 2 by omega]; exact c2
  · rw [show off + j = off + j / 4 * 4 + 3 by omega]; exact c3
theorem cellsR_one {rs : List Rise} : ∀ u ∈ cellsR rs, u.oneCell' = true := by
  intro u hu
  simp only [cellsR, List.mem_flatMap] at hu
  obtain ⟨r, _, hu⟩ := hu
  simp [Rise.cells] at hu
  rcases hu with rfl | rfl | rfl | rfl <;> rfl
theorem row_empty (w : World) (B : Nat) (E : TypeId) (hB : B ≤ w.heap.size) : (w.alloc (.cells #[] E)).ownsRow B E 4 (.slice (some ⟨w.heap.size, 0, none⟩) 0 0) 0 [] :=
  ⟨rfl, .inr ⟨w.heap.size, 0, #[], rfl, hB, heap_alloc_new w _, Nat.le_refl _, by unfold maxLen; omega, rfl, rfl⟩⟩
theorem ring_pos {rs : List Rise} (h : ringB rs = true) : 1 ≤ rs.length := by
  unfold ringB at h
  simp only [Bool.and_eq_true] at h
  exact of_decide_eq_true h.1.1
/-- A row of the call's own that holds rises. -/
theorem row_own {w : World} {B n : Nat} {v : Value} {rs : List Rise} (h : w.ownsRow B 59 4 v n (cellsR rs)) (h0 : v ≠ .slice none 0 0) :
    ∃ g cap rest, v = .slice (some ⟨g, 0, none⟩) n cap ∧ B ≤ g ∧ Own 59 w g (cellsR rs ++ rest) := by
  obtain ⟨h1, h2 | ⟨g, cap, cur, rfl, hB, hg, _, _, hs, ht⟩⟩ := h
  · exact absurd h2.1 h0
  · refine ⟨g, cap, cur.toList.drop (n * 4), rfl, hB, ?_⟩
    unfold Own
    rw [← ht, List.take_append_drop, hg]

theorem app_done {w w0 w1 : World} {o : Obj} {rs : List Rise} {n : Nat} {v' : Value} (hbw : Below w.heap.size w w0) (hown : w1.ownsRow w.heap.size 59 4 v' (0 + n) ([] ++ cellsR rs))
    (hgrow : (w0.alloc o).grownBy w1 (Value.slice (some ⟨w0.heap.size, 0, none⟩) 0 0).ownBlock) (hiff : v' = .slice none 0 0 ↔ (Value.slice (some ⟨w0.heap.size, 0, none⟩) 0 0) = .slice none 0 0 ∧ n = 0) :
    ∃ g c rest, v' = .slice (some ⟨g, 0, none⟩) n c ∧ w.heap.size ≤ g ∧ Own 59 w1 g (cellsR rs ++ rest) ∧ Below w.heap.size w w1 := by
  rw [Nat.zero_add, List.nil_append] at hown
  obtain ⟨g, c, rest, e, hg, ho⟩ := row_own hown (fun e => by have := hiff.1 e; simp at this)
  refine ⟨g, c, rest, e, hg, ho, (hbw.alloc hbw.size _).grown hgrow (by have := hbw.size; simp; omega) fun k hk => ?_⟩
  simp [Value.ownBlock] at hk
  have := hbw.size
  omega
/-- A cell of an element that is being turned. -/
theorem turn_s {rs : List Rise} {k : Nat} {r : Rise} (rest : List Value) (hk : k < rs.length) (hz : rs.getD k default = r) :
    (cellsR (turnR rs (shareR rs) k) ++ rest).set (k * 4 + 2) (.int .i64 (r.s - (dueTo rs (k + 1) - dueTo rs k))) = cellsR (turnR rs (shareR rs) (k + 1)) ++ rest := by
  have e := turnR_set rest hk (shareR_len rs) (shareR_get hk)
  rw [← e]
  have a0 := turnR_at (new := shareR rs) rest hk (shareR_len rs) (j := 0) (by omega)
  have a1 := turnR_at (new := shareR rs) rest hk (shareR_len rs) (j := 1) (by omega)
  have a3 := turnR_at (new := shareR rs) rest hk (shareR_len rs) (j := 3) (by omega)
  rw [hz] at a0 a1 a3
  simp only [R, hz]
  generalize cellsR (turnR rs (shareR rs) k) ++ rest = L at *
  have set_self : ∀ (M : List Value) (i : Nat) (v : Value), M[i]? = some v → M.set i v = M := fun M i v h => by
    obtain ⟨h1, h2⟩ := List.getElem?_eq_some_iff.1 h
    rw [← h2]; exact List.set_getElem_self h1
  rw [set_self L (k * 4) _ (by simpa [Rise.cells] using a0), set_self L (k * 4 + 1) _ (by simpa [Rise.cells] using a1)]
  rw [set_self _ (k * 4 + 3) _ (by rw [List.getElem?_set_ne (by omega)]; simpa [Rise.cells] using a3)]

/-- All that the arithmetic of one share wants. -/
theorem share_facts {rs : List Rise} {n : Int} (h : risesB rs n = true) {j : Nat} (hj : j < rs.length) {r : Rise} (hz : rs.getD j default = r) :
    IntKind.i64.wrap (longTo rs j + r.l) = longTo rs (j + 1) ∧ IntKind.i64.wrap (sumTo rs rs.length * longTo rs (j + 1)) = sumTo rs rs.length * longTo rs (j + 1) ∧
    (-200000000000000000 ≤ sumTo rs rs.length * longTo rs (j + 1) ∧ sumTo rs rs.length * longTo rs (j + 1) ≤ 200000000000000000) ∧
    IntKind.i64.wrap (dueTo rs (j + 1) - dueTo rs j) = dueTo rs (j + 1) - dueTo rs j ∧
    IntKind.i64.wrap (r.s - (dueTo rs (j + 1) - dueTo rs j)) = r.s - (dueTo rs (j + 1) - dueTo rs j) ∧
    IntKind.i64.wrap (sumTo rs rs.length * longTo rs j) = sumTo rs rs.length * longTo rs j ∧ (-200000000000000000 ≤ sumTo rs rs.length * longTo rs j ∧ sumTo rs rs.length * longTo rs j ≤ 200000000000000000) := by
  have e1 := longTo_step hj
  rw [R, hz] at e1
  have b1 := longTo_le h (k := j + 1) hj
  have a1 := due_arg h (k := j + 1) hj
  have a0 := due_arg h (k := j) (by omega)
  have f1 := flo_le (b := longTo rs rs.length) a1
  have f0 := flo_le (b := longTo rs rs.length) a0
  have s1 := s_of h hj
  rw [R, hz] at s1
  have l1 := len_of h
  have g1 : -200000000000000001 ≤ dueTo rs (j + 1) ∧ dueTo rs (j + 1) ≤ 200000000000000000 := by unfold dueTo; omega
  have g0 : -200000000000000001 ≤ dueTo rs j ∧ dueTo rs j ≤ 200000000000000000 := by unfold dueTo; omega
  clear f1 f0
  generalize dueTo rs (j + 1) = q1 at *
  generalize dueTo rs j = q0 at *
  generalize sumTo rs rs.length * longTo rs (j + 1) = p1 at *
  generalize sumTo rs rs.length * longTo rs j = p0 at *
  exact ⟨by rw [← e1]; exact IntWalk.i64_in _ (by omega), IntWalk.i64_in _ (by omega), a1, IntWalk.i64_in _ (by omega), IntWalk.i64_in _ (by omega), IntWalk.i64_in _ (by omega), a0⟩
theorem long_range {rs : List Rise} {n : Int} (h : risesB rs n = true) (hp : 1 ≤ rs.length) : 1 ≤ longTo rs rs.length ∧ longTo rs rs.length ≤ 1000000000 := by
  have b1 := longTo_le h (Nat.le_refl rs.length)
  have l1 := len_of h
  omega
theorem NewRs.yes {rs : List Rise} {w w' : World} {g c : Nat} {rest : List Value} (e : ringB rs = true) (hm : rs.length ≤ 1048576) (hg : w.heap.size ≤ g) (ho : Own 59 w' g (cellsR (turnR rs (shareR rs) rs.length) ++ rest)) (hb : Below w.heap.size w w') :
    NewRs (outR rs) (ringB rs) w (.returned (.tuple #[.slice (some ⟨g, 0, none⟩) rs.length c, .bool true])) w' := by
  have : outR rs = shareR rs := by unfold outR; rw [e]; rfl
  rw [this, e]
  rw [turnR_full (shareR_len rs)] at ho
  exact ⟨some ⟨g, 0, none⟩, c, by rw [shareR_len], ⟨rfl, by rw [shareR_len]; exact hm, .inr ⟨g, rest, rfl, hg, ho⟩⟩, hb⟩

theorem specShareMiss (a : Option Addr) (len cap : Nat) (rs : List Rise) (w : World) (h : RiS w a len rs) :
    Calls Try.prog 34 #[.slice a len cap] w (NewRs (outR rs) (ringB rs) w) := by
  have call := l05Ring a len cap rs w h
  have hl := h.size
  have hm := h.max
  cases hv : ringB rs with
  | false =>
    rw [hv] at call
    go_enter Try.func34, Try.ntmps34
    go_wp2_with (go_at_call 57; refine call.mono ?_; rintro e w' ⟨rfl, d, rfl⟩)
    have := NewRs.no hv (below_drewN (Below.refl w.heap.size w) d)
    rw [hv] at this
    exact bodyPost_ret (by simp [results, Try.results34, go_sem]) rfl this
  | true =>
    rw [hv] at call
    have hr : risesB rs 32 = true := by unfold ringB at hv; simp only [Bool.and_eq_true] at hv; exact hv.1.2
    have hpos := ring_pos hv
    obtain ⟨b0, off0, _, rfl, hbb0, _, _⟩ := h.get (k := 0) (by omega)
    obtain ⟨i0, hi, hz0, hz1, hz2⟩ := info_parts infoR
    go_enter Try.func34, Try.ntmps34
    go_wp2_with fail
    refine call.mono ?_
    rintro e w' ⟨rfl, d, rfl⟩
    have hw := h.drewN d
    have hbw := below_drewN (Below.refl w.heap.size w) d
    generalize w.drewN d = w0 at *
    go_wp2_with (go_at_call 58; refine (l05Sum _ _ _ 32 rs w0 hw hr).mono ?_; rintro e w' ⟨rfl, rfl⟩)
    go_loopw [5, 6, 19] (fun s _ i wr => ∃ (k : Nat) (m : Int), k ≤ len ∧ i = .int .i64 k ∧ s = .int .i64 m ∧ Hid (m = longTo rs k) ∧ w0 = wr) (fun _ _ i _ => len - (intOf i).toNat)
    case atStart => exact ⟨0, 0, Nat.zero_le _, rfl, rfl, rfl, rfl⟩
    case round =>
      obtain ⟨k, m, hk, rfl, rfl, hmm, rfl⟩ := hrel
      by_cases hlt : k < len
      · obtain ⟨r, hbb, ⟨c0, c1, c2, c3⟩, hzz⟩ := hw.nth hlt
        have hs := l_of hr (k := k) (by omega)
        have hb := longTo_le hr (k := k) (by omega)
        have hlen := len_of hr
        have hnext := longTo_step (rs := rs) (k := k) (by omega)
        rw [← hmm.out] at hb hnext
        have hzz' := hzz.out
        rw [R, hzz'] at hs hnext
        have hwr : IntKind.i64.wrap (m + r.l) = m + r.l := IntWalk.i64_in _ (by omega)
        have hnx := Lib.hid hnext.symm
        clear hnext hzz'
        go_wp2
        go_roundw
        case rel => exact ⟨k + 1, _, by omega, by go_num, rfl, hnx, trivial⟩
        case measure => simp [intOf]; omega
      · obtain rfl : k = len := by omega
        have hcells : ∀ j u, (cellsR rs)[j]? = some u → (w0.alloc (.cells #[] 59)).cell? ((⟨b0, off0, none⟩ : Addr).add j) = some u := fun j u hj => (hw.below ((Below.refl _ _).alloc (Nat.le_refl _) _)).cells hj
        have hrow := row_empty w0 w.heap.size 59 hbw.size
        have hszl := len_of hr
        go_wp2_with (at_builtin; refine wpList_append_own _ rfl (.tmp 30) (.tmp 31) 25 rfl w.heap.size 59 i0 _ 4 32 Try.underlying25 hi hz0 hz1 hz2 rfl (by decide) (.slice (some ⟨w0.heap.size, 0, none⟩) 0 0) 0 [] rfl hrow ⟨b0, off0, none⟩ k cap (cellsR rs) rfl (by rw [cellsR_len, hl]) hcells cellsR_one (by unfold maxLen; omega) (by omega) (by have := hbw.size; simp; omega) ?_; intro v' w1 hown hgrow hiff; obtain ⟨g, c, rest, rfl, hg, ho, hb1⟩ := app_done hbw hown hgrow hiff)
        clear hown hgrow hiff hrow hcells
        have hmm' := hmm.out
        subst hmm'
        go_loopw [8, 9, 10, 11, 35] (fun s b _ _ i wr => ∃ j : Nat, j ≤ k ∧ i = .int .i64 j ∧ s = .int .i64 (longTo rs j) ∧ b = .int .i64 (dueTo rs j) ∧ Own 59 wr g (cellsR (turnR rs (shareR rs) j) ++ rest) ∧ Below w.heap.size w wr) (fun _ _ _ _ i _ => k - (intOf i).toNat)
        case atStart => exact ⟨0, Nat.zero_le _, rfl, by simp [longTo], by simp [dueTo, longTo, flo_zero], by rw [turnR_zero]; exact ho, hb1⟩
        case round =>
          obtain ⟨j, hj, rfl, rfl, rfl, ho', hb'⟩ := hrel
          clear ho hb1
          by_cases hlt : j < k
          · have lr := long_range hr hpos
            have c2 : wr.cell? ⟨g, j * 4 + 2, none⟩ = some (.int .i64 (rs.getD j default).s) := ho'.at (turnR_at rest (by omega) (shareR_len rs) (j := 2) (by omega))
            have c3 : wr.cell? ⟨g, j * 4 + 3, none⟩ = some (.int .i64 (rs.getD j default).l) := ho'.at (turnR_at rest (by omega) (shareR_len rs) (j := 3) (by omega))
            have f2 := ho'.free (j * 4 + 2)
            have sf := share_facts hr (j := j) (by omega) (r := rs.getD j default) rfl
            have ts := Lib.hid (turn_s (rs := rs) (k := j) rest (by omega) (r := rs.getD j default) rfl)
            generalize rs.getD j default = r at *
            obtain ⟨w1', w2, a1, w3, w4, _, _⟩ := sf
            rw [hl] at w2 a1 lr
            have cf := fun W => l05Floor _ _ a1 lr W
            have hdue : flo (sumTo rs k * longTo rs (j + 1)) (longTo rs k) = dueTo rs (j + 1) := by unfold dueTo; rw [hl]
            rw [hdue] at cf
            clear hdue a1 lr
            go_wp2_with (go_at_call 62; refine (cf _).mono ?_; rintro e w' ⟨rfl, rfl⟩)
            go_roundw
            case rel => exact ⟨j + 1, by omega, by go_num, rfl, rfl, by rw [← ts.out]; exact ho'.set _ _, hb'.setCell hg _⟩
            case measure => simp [intOf]; omega
          · go_wp2
            obtain rfl : j = k := by omega
            rw [← hl] at ho'
            have := NewRs.yes (c := c) hv (by omega) hg ho' hb'
            rw [hl, hv] at this
            exact bodyPost_ret (by simp [results, Try.results34, go_sem]) rfl this
end Go.Proofs.Ytikdagkopalojaa
