/-
  What the law FnPlots asks, in plain numbers, put together.
-/
import Derived.Test.YticoikchcmmpfaaPSprW
import Derived.Test.YticoikchcmmpfaaLLong
namespace Go.Proofs.Yticoikchcmmpfaa
open Go.RowKit

theorem run_cwid {P : Program} (w : World) (x : Nat) : ∃ r d, (Op.Complex.conv .f32 x .f64).run P w = .ok r (w.drewN d) ∧ cl .f64 r = wid (cl .f32 x) := by
  cases h : FloatKind.f32.decode x with
  | nan s t =>
    refine ⟨(Question.nanConv .f64 x).cut (w.tape w.drawn (.nanConv .f64 x)), 1, ?_, ?_⟩
    · simp [Op.Complex.conv, Conv.floatToFloat, h, choose, Sem.run, Question.forced, World.drewN]
    · rw [cl_convCut]
      have : cl .f32 x = none := by
        unfold cl
        rw [show FloatKind.f32.format.read x = .nan s t from h]
        rfl
      rw [this]; rfl
  | infinity s =>
    refine ⟨FloatKind.f64.encode (.infinity s), 0, ?_, ?_⟩
    · simp [Op.Complex.conv, Conv.floatToFloat, h, World.drewN]
    · rw [cl_encode rfl]
      have : cl .f32 x = some x := by
        unfold cl
        rw [show FloatKind.f32.format.read x = .infinity s from h]
        rfl
      rw [this]
      show _ = some (FloatKind.f64.encode (FloatKind.f32.decode x))
      rw [h]
  | number s m p =>
    refine ⟨FloatKind.f64.encode (.number s m p), 0, ?_, ?_⟩
    · obtain ⟨m', p', e⟩ := widen_num (b := x) h
      have e' : FloatKind.f64.decode (FloatKind.f64.encode (.number s m p)) = .number s m' p' := e
      simp [Op.Complex.conv, Conv.floatToFloat, h, e', Ieee.Datum.isInfinity, World.drewN]
    · rw [cl_encode rfl]
      have : cl .f32 x = some x := by
        unfold cl
        rw [show FloatKind.f32.format.read x = .number s m p from h]
        rfl
      rw [this]
      show _ = some (FloatKind.f64.encode (FloatKind.f32.decode x))
      rw [h]
theorem run_cnar {P : Program} (w : World) (y : Nat) (hn : NoOver y) : ∃ r d, (Op.Complex.conv .f64 y .f32).run P w = .ok r (w.drewN d) ∧ cl .f32 r = nar (cl .f64 y) := by
  cases h : FloatKind.f64.decode y with
  | nan s t =>
    refine ⟨(Question.nanConv .f32 y).cut (w.tape w.drawn (.nanConv .f32 y)), 1, ?_, ?_⟩
    · simp [Op.Complex.conv, Conv.floatToFloat, h, choose, Sem.run, Question.forced, World.drewN]
    · rw [cl_convCut]
      have : cl .f64 y = none := by
        unfold cl
        rw [show FloatKind.f64.format.read y = .nan s t from h]
        rfl
      rw [this]; rfl
  | infinity s =>
    refine ⟨FloatKind.f32.encode (.infinity s), 0, ?_, ?_⟩
    · simp [Op.Complex.conv, Conv.floatToFloat, h, World.drewN]
    · rw [cl_encode rfl]
      have : cl .f64 y = some y := by
        unfold cl
        rw [show FloatKind.f64.format.read y = .infinity s from h]
        rfl
      rw [this]
      show _ = some (FloatKind.f32.encode (FloatKind.f64.decode y))
      rw [h]
  | number s m p =>
    refine ⟨FloatKind.f32.encode (.number s m p), 0, ?_, ?_⟩
    · obtain ⟨m', p', e⟩ := hn s m p h
      simp [Op.Complex.conv, Conv.floatToFloat, h, e, Ieee.Datum.isInfinity, World.drewN]
    · rw [cl_encode rfl]
      have : cl .f64 y = some y := by
        unfold cl
        rw [show FloatKind.f64.format.read y = .number s m p from h]
        rfl
      rw [this]
      show _ = some (FloatKind.f32.encode (FloatKind.f64.decode y))
      rw [h]
theorem run_car {P : Program} (w : World) (op : BinOp) (k : FloatKind) (a c : Nat) (hop : op = .add ∨ op = .sub ∨ op = .mul ∨ op = .quo) : ∃ r n, (Op.Complex.arith op k a c).run P w = .ok r (w.drewN n) ∧ cl k r = ab op k (cl k a) (cl k c) := by
  obtain ⟨r, n1, h1, e1⟩ := run_fl (P := P) w op 0 k a c hop
  refine ⟨r, n1, ?_, e1⟩
  have g1 : (Op.floatArith op k a c).run P w = .ok (.float k r) (w.drewN n1) := by rcases hop with rfl | rfl | rfl | rfl <;> simpa [binOp] using h1
  simp [Op.Complex.arith, g1]
theorem drew_trans {a b c : World} (h : Drew a b) (h' : Drew b c) : Drew a c := by
  obtain ⟨n, rfl⟩ := h
  obtain ⟨m, rfl⟩ := h'
  exact ⟨n + m, by rw [World.drewN_drewN]⟩
theorem run_cwid2 {P : Program} (w : World) (x : Nat) : ∃ r w', (Op.Complex.conv .f32 x .f64).run P w = .ok r w' ∧ Drew w w' ∧ cl .f64 r = wid (cl .f32 x) := by
  obtain ⟨r, d, h, e⟩ := run_cwid (P := P) w x
  exact ⟨r, _, h, Drew.n _ _, e⟩
theorem run_cnar2 {P : Program} (w : World) (y : Nat) (hn : NoOver y) : ∃ r w', (Op.Complex.conv .f64 y .f32).run P w = .ok r w' ∧ Drew w w' ∧ cl .f32 r = nar (cl .f64 y) := by
  obtain ⟨r, d, h, e⟩ := run_cnar (P := P) w y hn
  exact ⟨r, _, h, Drew.n _ _, e⟩
theorem run_car2 {P : Program} (w : World) (op : BinOp) (k : FloatKind) (a c : Nat) (hop : op = .add ∨ op = .sub ∨ op = .mul ∨ op = .quo) : ∃ r w', (Op.Complex.arith op k a c).run P w = .ok r w' ∧ Drew w w' ∧ cl k r = ab op k (cl k a) (cl k c) := by
  obtain ⟨r, d, h, e⟩ := run_car (P := P) w op k a c hop
  exact ⟨r, _, h, Drew.n _ _, e⟩
theorem run_cm {P : Program} (w : World) (t : TypeId) (a b c d : Nat) (f1 : Fits (mulRe (cl .f32 a) (cl .f32 b) (cl .f32 c) (cl .f32 d))) (f2 : Fits (mulIm (cl .f32 a) (cl .f32 b) (cl .f32 c) (cl .f32 d))) :
    ∃ r q n, (binOp .mul t (.complex .f32 a b) (.complex .f32 c d)).run P w = .ok (.complex .f32 r q) (w.drewN n) ∧ cl .f32 r = nar (mulRe (cl .f32 a) (cl .f32 b) (cl .f32 c) (cl .f32 d)) ∧ cl .f32 q = nar (mulIm (cl .f32 a) (cl .f32 b) (cl .f32 c) (cl .f32 d)) := by
  obtain ⟨a', w1, h1, g1, e1⟩ := run_cwid2 (P := P) w a
  obtain ⟨b', w2, h2, g2, e2⟩ := run_cwid2 (P := P) w1 b
  obtain ⟨c', w3, h3, g3, e3⟩ := run_cwid2 (P := P) w2 c
  obtain ⟨d', w4, h4, g4, e4⟩ := run_cwid2 (P := P) w3 d
  obtain ⟨m1, w5, h5, g5, e5⟩ := run_car2 (P := P) w4 .mul .f64 a' c' (by simp)
  obtain ⟨m2, w6, h6, g6, e6⟩ := run_car2 (P := P) w5 .mul .f64 b' d' (by simp)
  obtain ⟨s1, w7, h7, g7, e7⟩ := run_car2 (P := P) w6 .sub .f64 m1 m2 (by simp)
  obtain ⟨m3, w8, h8, g8, e8⟩ := run_car2 (P := P) w7 .mul .f64 a' d' (by simp)
  obtain ⟨m4, w9, h9, g9, e9⟩ := run_car2 (P := P) w8 .mul .f64 b' c' (by simp)
  obtain ⟨s2, w10, h10, g10, e10⟩ := run_car2 (P := P) w9 .add .f64 m3 m4 (by simp)
  have k1 : cl .f64 s1 = mulRe (cl .f32 a) (cl .f32 b) (cl .f32 c) (cl .f32 d) := by rw [e7, e5, e6, e1, e2, e3, e4]; rfl
  have k2 : cl .f64 s2 = mulIm (cl .f32 a) (cl .f32 b) (cl .f32 c) (cl .f32 d) := by rw [e10, e8, e9, e1, e2, e3, e4]; rfl
  obtain ⟨r, w11, h11, g11, e11⟩ := run_cnar2 (P := P) w10 s1 (f1.of k1)
  obtain ⟨q, w12, h12, g12, e12⟩ := run_cnar2 (P := P) w11 s2 (f2.of k2)
  obtain ⟨n, hn⟩ := drew_trans g1 (drew_trans g2 (drew_trans g3 (drew_trans g4 (drew_trans g5 (drew_trans g6 (drew_trans g7 (drew_trans g8 (drew_trans g9 (drew_trans g10 (drew_trans g11 g12))))))))))
  refine ⟨r, q, n, ?_, by rw [e11, k1], by rw [e12, k2]⟩
  have ht : (binOp .mul t (.complex .f32 a b) (.complex .f32 c d)) = Op.complexOp .mul .f32 a b c d := rfl
  rw [ht, ← hn]
  simp only [Op.complexOp]
  simp [h1, h2, h3, h4, Op.Complex.product, Op.Complex.mul, Op.Complex.sub, Op.Complex.add, h5, h6, h7, h8, h9, h10, h11, h12]
theorem wpList_cm {P : Program} {w : World} {ops : Array Oper} {rest : List Oper} {o : Oper} {a : Act} {Q : Exit → Act → World → Prop} (hg : Region.wanted o (yielded ops a.tmps) = true) {t t' : TypeId} {x y : Operand} (hop : o.op = Op.binOp .mul t x y t') {p q p' q' : Nat} (hx : a.eval x = .complex .f32 p p') (hy : a.eval y = .complex .f32 q q')
    {X Y X' Y' : Option Nat} (hX : cl .f32 p = X) (hX' : cl .f32 p' = X') (hY : cl .f32 q = Y) (hY' : cl .f32 q' = Y') (f1 : Fits (mulRe X X' Y Y')) (f2 : Fits (mulIm X X' Y Y')) (hK : ∀ r r' d, cl .f32 r = nar (mulRe X X' Y Y') → cl .f32 r' = nar (mulIm X X' Y Y') → wpList P ops Q rest (a.put o.dst (.complex .f32 r r')) (w.drewN d)) : wpList P ops Q (o :: rest) a w := by
  subst hX hX' hY hY'
  refine wpList_step fun K hK' => ?_
  rw [if_pos hg]
  obtain ⟨r, r', d, hrun, hr, hr'⟩ := run_cm (P := P) w t p p' q q' f1 f2
  unfold Oper.wp
  have e : (execOp a.eval o).run P w = .ok (.value (.complex .f32 r r')) (w.drewN d) := by
    have eg : eqGuard .mul t x y (.complex .f32 p p') (.complex .f32 q q') = pure () := rfl
    simp only [execOp, hop, hx, hy, eg]
    simp [hrun, Result.andThen]
  rw [e]
  exact hK' _ _ (hK r r' d hr hr')
end Go.Proofs.Yticoikchcmmpfaa
namespace Go.Proofs.Yticoikchcmmpfaa
open Go.RowKit

/-- The words of the moved plot. -/
def movP (n : Nat) (r : Nat → Nat) (b c : Nat) (k : Nat) : Nat × Nat := ((ab .add .f32 (some (cX n k (r k))) (byX b)).getD 0, (ab .add .f32 (some (cY n k (r k))) (byX c)).getD 0)
theorem movP_ok {n : Nat} {r : Nat → Nat} {b c : Nat} (R : PlotR n r) (hb : b < 17) (hc : c < 17) : (∀ k, k < n → ab .add .f32 (some (cX n k (r k))) (byX b) = some (movP n r b c k).1 ∧ ab .add .f32 (some (cY n k (r k))) (byX c) = some (movP n r b c k).2) ∧ PlotW n r (byV b) (byV c) (8 * uu) (movP n r b c) := by
  obtain ⟨vb, bb⟩ := by_get hb
  obtain ⟨vc, bc⟩ := by_get hc
  have key : ∀ k, k < n → ab .add .f32 (some (cX n k (r k))) (byX b) = some (movP n r b c k).1 ∧ ab .add .f32 (some (cY n k (r k))) (byX c) = some (movP n r b c k).2 ∧ cl .f32 (movP n r b c k).1 = some (movP n r b c k).1 ∧ cl .f32 (movP n r b c k).2 = some (movP n r b c k).2 := fun k hk => by
    obtain ⟨_, _, v1, v2, a1, a2⟩ := corn_get R.n3 R.n9 hk (R.r5 k hk)
    obtain ⟨x, hx, ex⟩ := add32 v1 vb 3 (by omega) (B := 8) (by decide +kernel) ((a1.add bb).mono (by decide +kernel))
    obtain ⟨y, hy, ey⟩ := add32 v2 vc 3 (by omega) (B := 8) (by decide +kernel) ((a2.add bc).mono (by decide +kernel))
    have e1 := some_of hx.isNum
    have e2 := some_of hy.isNum
    refine ⟨e1, e2, ?_, ?_⟩
    · rw [e1] at hx; exact vl_cl hx
    · rw [e2] at hy; exact vl_cl hy
  refine ⟨fun k hk => ⟨(key k hk).1, (key k hk).2.1⟩, movW_of R hb hc fun k hk => ?_⟩
  obtain ⟨k1, k2, k3, k4⟩ := key k hk
  rw [k3, k4, k1, k2]
  exact ⟨rfl, rfl⟩
theorem le_gt {X Y : Option Nat} {k : FloatKind} (h : aord k X Y = some .gt) : (aord k X Y == some .lt || aord k X Y == some .eq) = false := by rw [h]; rfl
theorem lt_of {X Y : Option Nat} {k : FloatKind} (h : aord k X Y = some .lt) : (aord k X Y == some .lt) = true := by rw [h]; rfl
section
variable {n : Nat} {r : Nat → Nat} {b c : Nat} {s : Rat}
theorem tAreas {P Q : Nat → Nat × Nat} {bx b2 d bx' b2' d' : Rat} (hP : PlotW n r bx b2 d P) (hQ : PlotW n r bx' b2' d' Q) : (aord .f32 (areaX P n) (some 0) == some .lt || aord .f32 (areaX P n) (some 0) == some .eq) = false ∧ (aord .f64 (gapX (wid (areaX P n)) (wid (areaX Q n))) (some q05) == some .gt) = false := by
  obtain ⟨v, hv, ev⟩ := hP.area
  obtain ⟨u, hu, eu⟩ := hQ.area
  exact ⟨le_gt (test_area hv hP.R.whole ev), test_same hv hu ev eu⟩
theorem tThere {P Q : Nat → Nat × Nat} {BX : Option Nat} (R : PlotR n r) {bx : Rat} (hb : Vl .f32 BX bx) (bb : Ab bx 2) (s0 : 1 / 8 ≤ s) (s1 : s ≤ 7 / 8) {aw tw : Nat} (ha : CutAt n r 0 s false P aw) (ht : CutAt n r bx s false Q tw) : (aord .f64 (gapX (ab .add .f64 (wid (cl .f32 aw)) (wid BX)) (wid (cl .f32 tw))) (some q05) == some .gt) = false := by
  have h1 := ha.ar
  have e : wv aw - 0 = wv aw := by grind
  rw [e] at h1
  have h2 := R.cut_near s0 s1 h1 ht.ar
  refine test_there (numF_vl ha.num) hb (numF_vl ht.num) ?_ bb h2
  have := ha.bd
  rw [e] at this
  exact this.mono (by decide +kernel)
theorem tLow {P : Nat → Nat × Nat} {aw lw : Nat} {s' : Rat} (ha : CutAt n r 0 s false P aw) (hl : CutAt n r 0 s' true P lw) : (aord .f64 (wid (cl .f32 lw)) (ab .add .f64 (wid (cl .f32 aw)) (some q001)) == some .gt) = false := by
  refine test_low (numF_vl hl.num) (numF_vl ha.num) ?_ ?_
  · have := ha.bd
    rw [show wv aw - 0 = wv aw by grind] at this
    exact this.mono (by decide +kernel)
  · have := ha.ge _ (hl.eq rfl)
    grind
theorem tLeft {P : Nat → Nat × Nat} {d : Rat} (hP : PlotW n r 0 0 d P) {S : Option Nat} (hs : Vl .f32 S s) (s0 : 1 / 8 ≤ s) (s1 : s ≤ 7 / 8) {aw : Nat} (ha : CutAt n r 0 s false P aw) {ws : List (Nat × Nat)} (hc : CutSt P n (wv aw) (100 * uu) (650 * uu) 0 0 n ws) : (aord .f64 (gapX (sum64 (fun j => ws.getD j (0, 0)) ws.length ws.length) (ab .mul .f64 (wid S) (wid (areaX P n)))) (ab .mul .f64 (some q05) (ab .add .f64 (some qOne) (wid (areaX P n)))) == some .lt) = true := by
  have e : wv aw - 0 = wv aw := by grind
  have bd := ha.bd
  have ar := ha.ar
  rw [e] at bd ar
  obtain ⟨v, hv, ev⟩ := hP.left64 (by have := bd.2; grind) hc
  obtain ⟨u, hu, eu⟩ := hP.area
  exact lt_of (test_left hv hs hu hP.R.whole hP.R.whole_hi (by grind) s1 eu ev ar)
theorem tSpr {lw sw lw' sw' : Nat} (h : SprW n r lw sw) (h' : SprW n r lw' sw') : (aord .f32 (cl .f32 lw) (cl .f32 sw) == some .gt || aord .f32 (cl .f32 lw) (cl .f32 sw) == some .eq) = true ∧ (aord .f64 (gapX (wid (cl .f32 lw)) (wid (cl .f32 lw'))) (some q01) == some .lt) = true ∧ (aord .f64 (gapX (wid (cl .f32 sw)) (wid (cl .f32 sw'))) (some q02) == some .lt) = true := by
  obtain ⟨A, B, C, b, h, k, g, p, q, l, s, S, hl, hs⟩ := h
  obtain ⟨A', B', C', b', h', k', g', p', q', l', s', S', hl', hs'⟩ := h'
  obtain ⟨d1, d2⟩ := spr_near S S'
  have hv : vv ≤ 1 / 1000000000 ∧ 0 < vv := by decide +kernel
  have qv := q_val
  refine ⟨?_, ?_, ?_⟩
  · obtain ⟨o1, o2, o3⟩ := hl.order hs
    rcases (show s < l ∨ l = s by have := S.ls; grind) with e | e
    · rw [o3 e]; rfl
    · rw [o2 e]; rfl
  · obtain ⟨t, ht, hle⟩ := gap_num hl.wid hl'.wid (d1.mono (by decide +kernel))
    exact lt_of (is_lt ht (vl64 q_num.2.2.1) (by have := hle _ d1; grind))
  · obtain ⟨t, ht, hle⟩ := gap_num hs.wid hs'.wid (d2.mono (by decide +kernel))
    exact lt_of (is_lt ht (vl64 q_num.2.2.2.1) (by have := hle _ d2; grind))
end
end Go.Proofs.Yticoikchcmmpfaa
