/-
  SpreadOfMarks: the walk.
-/
import Derived.Test.YticoikchcmmpfaaPCutP2
namespace Go.Proofs.Yticoikchcmmpfaa
open Go.RowKit
attribute [local go_sem] order_cl cl_zero cl_one cl_two aord_none

theorem FlF.new3 (w : World) (z1 z2 z3 : Nat) (E : TypeId) : FlF (w.alloc (.cells #[.float .f32 z1, .float .f32 z2, .float .f32 z3] E)) (some ⟨w.heap.size, 0, none⟩) 3 (fun i => if i = 0 then z1 else if i = 1 then z2 else z3) := by
  refine ⟨by omega, .inr ⟨w.heap.size, 0, rfl, by simp, fun i hi => ?_⟩⟩
  have ho := Own.new w [.float .f32 z1, .float .f32 z2, .float .f32 z3] E
  have hi' : i = 0 ∨ i = 1 ∨ i = 2 := by omega
  rcases hi' with rfl | rfl | rfl
  · exact ho.at rfl
  · exact ho.at rfl
  · exact ho.at rfl
theorem three_numbers (W : World) (B cap m : Nat) (z1 z2 z3 : Nat) (h1 : NumF z1) (h2 : NumF z2) (h3 : NumF z3) (E : TypeId) (hB : B = W.heap.size) : Calls Try.prog 28 #[.slice (some ⟨B, 0, none⟩) 3 cap] ((W.alloc (.cells #[.float .f32 z1, .float .f32 z2, .float .f32 z3] E)).drewN m) (RetD (.bool true) ((W.alloc (.cells #[.float .f32 z1, .float .f32 z2, .float .f32 z3] E)).drewN m)) := by
  subst hB
  exact areFinite _ 3 cap (fun i => if i = 0 then z1 else if i = 1 then z2 else z3) _ (FlF.new3 W z1 z2 z3 E) (fun i _ => by
    by_cases h : i = 0
    · simp [h, h1]
    · by_cases h' : i = 1
      · simp [h', h2]
      · simp [h, h', h3])
/-- What is told of the half axes. -/
def SprW (n : Nat) (r : Nat → Nat) (lw sw : Nat) : Prop := ∃ A B C b h k g p q l s, SprN n r A B C b h k g p q l s ∧ Vl .f32 (cl .f32 lw) l ∧ Vl .f32 (cl .f32 sw) s
def RetSpr (n : Nat) (r : Nat → Nat) (w : World) (e : Ending) (w' : World) : Prop := ∃ lw sw tw, e = .returned (.tuple #[.float .f32 lw, .float .f32 sw, .float .f32 tw, .bool true]) ∧ SprW n r lw sw ∧ Below w.heap.size w w'
theorem ang_turn {x : Nat} (h : ∃ v, Vl .f32 (cl .f32 x) v ∧ Ab v 1073741824) {t : Nat} (ht : cl .f32 t = ab .quo .f32 (cl .f32 x) twoW) : NumF t := by
  obtain ⟨v, hv, bv⟩ := h
  obtain ⟨m, hm, _⟩ := quo32 hv two_num 29 (by omega) (B := 536870912) (by decide +kernel) (v / 2) (by grind) (by decide +kernel) (by unfold Ab at *; constructor <;> grind)
  unfold NumF
  rw [ht]
  exact hm.isNum

set_option maxRecDepth 8000 in
set_option maxHeartbeats 4000000 in
theorem spreadOf {n : Nat} {r : Nat → Nat} {bx b2 d : Rat} {P : Nat → Nat × Nat} (h : PlotW n r bx b2 d P) (a : Option Addr) (cap : Nat) (w : World) (hA : CxF w a n P) : Calls Try.prog 18 #[.slice a n cap] w (RetSpr n r w) := by
  have hn3 := h.R.n3
  have hn9 := h.R.n9
  obtain ⟨va, hva, ea⟩ := mom_num h.rowX h.rowX
  obtain ⟨vb, hvb, eb⟩ := mom_num h.rowX h.rowY
  obtain ⟨vc, hvc, ec⟩ := mom_num h.rowY h.rowY
  obtain ⟨hh, kk, gg', pp, qq, ll, ss, S⟩ := sprN (momP h.R) hva hvb hvc ea eb ec
  have cm := fun W hW => areMarks a n cap P W hW h.num (by omega) (by omega)
  have cme := fun W hW => meanOf a n cap P W hW
  have hlen := cl_intB .f32 (n : Int)
  have ctwo : cl .f32 1073741824 = twoW := by decide
  go_enter Try.func18, Try.ntmps18
  go_wp2_with (first
    | (go_at_call 29; refine (cm _ hA).mono ?_; rintro e w' ⟨rfl, d1, rfl⟩)
    | (go_at_call 53; refine (cme _ (hA.below (below_drewN (Below.refl _ _) _))).mono ?_; rintro e w' ⟨m1, m2, rfl, hm1, hm2, d2, rfl⟩))
  clear cm cme
  go_loopw [7, 8, 9, 11, 12, 27] (fun x y z _ _ i wr => ∃ (k xw yw zw : Nat), i = .int .i64 (k : Int) ∧ k ≤ n ∧ x = .float .f32 xw ∧ y = .float .f32 yw ∧ z = .float .f32 zw ∧ Hid (cl .f32 xw = sum32 (fun k => ab .mul .f32 (dX (fun k => cl .f32 (P k).1) n k) (dX (fun k => cl .f32 (P k).1) n k)) k ∧ cl .f32 yw = sum32 (fun k => ab .mul .f32 (dX (fun k => cl .f32 (P k).1) n k) (dX (fun k => cl .f32 (P k).2) n k)) k ∧ cl .f32 zw = sum32 (fun k => ab .mul .f32 (dX (fun k => cl .f32 (P k).2) n k) (dX (fun k => cl .f32 (P k).2) n k)) k) ∧ Drew w wr) (fun _ _ _ _ _ i _ => n - (intOf i).toNat)
  case atStart => exact ⟨0, 0, 0, 0, rfl, Nat.zero_le _, rfl, rfl, rfl, Lib.hid ⟨cl_zero _, cl_zero _, cl_zero _⟩, Drew.n _ _⟩
  case round =>
    obtain ⟨k, xw, yw, zw, rfl, hk, rfl, rfl, rfl, hs, d', rfl⟩ := hrel
    by_cases hlt : k < n
    · obtain ⟨b, off, rfl, hbb, hck⟩ := (hA.below (below_drewN (Below.refl _ _) d')).get hlt
      have hd1 : ab .sub .f32 (cl .f32 (P k).1) (cl .f32 m1) = dX (fun k => cl .f32 (P k).1) n k := by rw [hm1]; rfl
      have hd2 : ab .sub .f32 (cl .f32 (P k).2) (cl .f32 m2) = dX (fun k => cl .f32 (P k).2) n k := by rw [hm2]; rfl
      have hnx : ∀ r1 r2 r3, cl .f32 r1 = ab .add .f32 (cl .f32 xw) (ab .mul .f32 (dX (fun k => cl .f32 (P k).1) n k) (dX (fun k => cl .f32 (P k).1) n k)) → cl .f32 r2 = ab .add .f32 (cl .f32 yw) (ab .mul .f32 (dX (fun k => cl .f32 (P k).1) n k) (dX (fun k => cl .f32 (P k).2) n k)) → cl .f32 r3 = ab .add .f32 (cl .f32 zw) (ab .mul .f32 (dX (fun k => cl .f32 (P k).2) n k) (dX (fun k => cl .f32 (P k).2) n k)) →
          Hid (cl .f32 r1 = sum32 (fun k => ab .mul .f32 (dX (fun k => cl .f32 (P k).1) n k) (dX (fun k => cl .f32 (P k).1) n k)) (k + 1) ∧ cl .f32 r2 = sum32 (fun k => ab .mul .f32 (dX (fun k => cl .f32 (P k).1) n k) (dX (fun k => cl .f32 (P k).2) n k)) (k + 1) ∧ cl .f32 r3 = sum32 (fun k => ab .mul .f32 (dX (fun k => cl .f32 (P k).2) n k) (dX (fun k => cl .f32 (P k).2) n k)) (k + 1)) := fun r1 r2 r3 h4 h5 h6 => Lib.hid (by
        rw [h4, h5, h6, hs.out.1, hs.out.2.1, hs.out.2.2]; exact ⟨rfl, rfl, rfl⟩)
      clear hs
      generalize dX (fun k => cl .f32 (P k).1) n k = D1 at *
      generalize dX (fun k => cl .f32 (P k).2) n k = D2 at *
      generalize (P k).1 = z1 at *
      generalize (P k).2 = z2 at *
      go_wp2_with (first
        | (go_at_call 26; refine (less _ _ _ _ _).mono ?_; rintro e w1 ⟨u1, u2, rfl, hu1, hu2, d3, rfl⟩; rw [hd1] at hu1; rw [hd2] at hu2)
        | (refine wpList_flc rfl rfl rfl rfl rfl (by first | assumption | exact rfl) (by first | assumption | exact rfl) ?_; intro r d hr))
      have hn := hnx _ _ _ (by assumption) (by assumption) hr
      go_roundw
      case rel => exact ⟨k + 1, _, _, _, by go_num, by omega, rfl, rfl, rfl, hn, Drew.n _ _⟩
      case measure => simp [intOf]; omega
    · obtain rfl : k = n := by omega
      obtain ⟨hsx, hsy, hsz⟩ := hs.out
      have eA : ab .quo .f32 (sum32 (fun k_1 => ab .mul .f32 (dX (fun k => cl .f32 (P k).1) k k_1) (dX (fun k => cl .f32 (P k).1) k k_1)) k) (some (floatOfInt .f32 (k : Int))) = momX (fun k => cl .f32 (P k).1) (fun k => cl .f32 (P k).1) k := rfl
      have eB : ab .quo .f32 (sum32 (fun k_1 => ab .mul .f32 (dX (fun k => cl .f32 (P k).1) k k_1) (dX (fun k => cl .f32 (P k).2) k k_1)) k) (some (floatOfInt .f32 (k : Int))) = momX (fun k => cl .f32 (P k).1) (fun k => cl .f32 (P k).2) k := rfl
      have eC : ab .quo .f32 (sum32 (fun k_1 => ab .mul .f32 (dX (fun k => cl .f32 (P k).2) k k_1) (dX (fun k => cl .f32 (P k).2) k k_1)) k) (some (floatOfInt .f32 (k : Int))) = momX (fun k => cl .f32 (P k).2) (fun k => cl .f32 (P k).2) k := rfl
      clear hva hvb hvc ea eb ec hm1 hm2 hs
      generalize momX (fun k => cl .f32 (P k).1) (fun k => cl .f32 (P k).1) k = A at *
      generalize momX (fun k => cl .f32 (P k).1) (fun k => cl .f32 (P k).2) k = B at *
      generalize momX (fun k => cl .f32 (P k).2) (fun k => cl .f32 (P k).2) k = C at *
      generalize sum32 (fun k_1 => ab .mul .f32 (dX (fun k => cl .f32 (P k).1) k k_1) (dX (fun k => cl .f32 (P k).1) k k_1)) k = SA at *
      generalize sum32 (fun k_1 => ab .mul .f32 (dX (fun k => cl .f32 (P k).1) k k_1) (dX (fun k => cl .f32 (P k).2) k k_1)) k = SB at *
      generalize sum32 (fun k_1 => ab .mul .f32 (dX (fun k => cl .f32 (P k).2) k k_1) (dX (fun k => cl .f32 (P k).2) k k_1)) k = SC at *
      have eH : ab .quo .f32 (ab .add .f32 A C) twoW = halfSum A C := rfl
      have eK : ab .quo .f32 (ab .sub .f32 A C) twoW = halfDif A C := rfl
      have eQ : ab .add .f32 (ab .mul .f32 (halfDif A C) (halfDif A C)) (ab .mul .f32 B B) = sqSum (halfDif A C) B := rfl
      have cg : ∀ x, cl .f32 x = sqSum (halfDif A C) B → ∀ W, Calls Try.prog 42 #[.float .f32 x] W (RetF (gR (halfDif A C) B) W) := fun x hx W => by
        have := rootNumber x W
        rw [hx] at this
        exact this
      have cl1 : ∀ x, cl .f32 x = ab .add .f32 (halfSum A C) (gR (halfDif A C) B) → ∀ W, Calls Try.prog 42 #[.float .f32 x] W (RetF (rootF (ab .add .f32 (halfSum A C) (gR (halfDif A C) B))) W) := fun x hx W => by
        have := rootNumber x W
        rw [hx] at this
        exact this
      have cl2 : ∀ x, cl .f32 x = ab .sub .f32 (halfSum A C) (gR (halfDif A C) B) → ∀ W, Calls Try.prog 42 #[.float .f32 x] W (RetF (rootF (ab .sub .f32 (halfSum A C) (gR (halfDif A C) B))) W) := fun x hx W => by
        have := rootNumber x W
        rw [hx] at this
        exact this
      have hq0 : (aord .f32 (ab .sub .f32 (halfSum A C) (gR (halfDif A C) B)) (some 0) == some .lt) = false := by
        rw [(S.vq.order zero_vl).2.2 (by have := S.q1; grind)]; rfl
      have hkb : ((aord .f32 (halfDif A C) (some 0) != some .eq) = true ∧ (kk ≠ 0 ∨ vb ≠ 0)) ∨ ((aord .f32 (halfDif A C) (some 0) != some .eq) = false ∧ (aord .f32 B (some 0) != some .eq) = true ∧ (kk ≠ 0 ∨ vb ≠ 0)) ∨ ((aord .f32 (halfDif A C) (some 0) != some .eq) = false ∧ (aord .f32 B (some 0) != some .eq) = false) := by
        obtain ⟨o1, o2, o3⟩ := S.vk.order zero_vl
        obtain ⟨p1, p2, p3⟩ := S.vb.order zero_vl
        rcases (show kk < 0 ∨ kk = 0 ∨ 0 < kk by grind) with c | c | c
        · exact .inl ⟨by rw [o1 c]; rfl, .inl (by grind)⟩
        · right
          rcases (show vb < 0 ∨ vb = 0 ∨ 0 < vb by grind) with e | e | e
          · exact .inl ⟨by rw [o2 c]; rfl, by rw [p1 e]; rfl, .inr (by grind)⟩
          · exact .inr ⟨by rw [o2 c]; rfl, by rw [p2 e]; rfl⟩
          · exact .inl ⟨by rw [o2 c]; rfl, by rw [p3 e]; rfl, .inr (by grind)⟩
        · exact .inl ⟨by rw [o3 c]; rfl, .inl (by grind)⟩
      have ca : ∀ x y, cl .f32 x = halfDif A C → cl .f32 y = B → (kk ≠ 0 ∨ vb ≠ 0) → ∀ W, Calls Try.prog 54 #[.complex .f32 x y] W (RetAng W) := fun x y hx hy hne W => angleOf x y (by rw [hx]; exact S.vk) (by rw [hy]; exact S.vb) hne W
      have hend : ∀ lw sw, cl .f32 lw = rootF (ab .add .f32 (halfSum A C) (gR (halfDif A C) B)) → cl .f32 sw = rootF (ab .sub .f32 (halfSum A C) (gR (halfDif A C) B)) → SprW k r lw sw := fun lw sw hl hs => ⟨A, B, C, vb, hh, kk, gg', pp, qq, ll, ss, S, by rw [hl]; exact S.vl, by rw [hs]; exact S.vs⟩
      have nl : ∀ lw, cl .f32 lw = rootF (ab .add .f32 (halfSum A C) (gR (halfDif A C) B)) → NumF lw := fun lw hl => by unfold NumF; rw [hl]; exact S.vl.isNum
      have ns : ∀ sw, cl .f32 sw = rootF (ab .sub .f32 (halfSum A C) (gR (halfDif A C) B)) → NumF sw := fun lw hl => by unfold NumF; rw [hl]; exact S.vs.isNum
      have n0 : NumF 0 := by unfold NumF; decide
      have hb0 : ∀ d, Below w.heap.size w (w.drewN d) := fun d => below_drewN (Below.refl _ _) _
      clear S hA
      generalize rootF (ab .add .f32 (halfSum A C) (gR (halfDif A C) B)) = LL at *
      generalize rootF (ab .sub .f32 (halfSum A C) (gR (halfDif A C) B)) = SS at *
      generalize gR (halfDif A C) B = G at *
      generalize sqSum (halfDif A C) B = SQ at *
      generalize halfDif A C = K at *
      generalize halfSum A C = H at *
      rcases hkb with ⟨k0, hne⟩ | ⟨k0, k1, hne⟩ | ⟨k0, k1⟩
      all_goals
        go_wp2_with (first
          | (go_at_call 42; refine (cg _ (by assumption) _).mono ?_; rintro e w1 ⟨g, rfl, hg, d3, rfl⟩)
          | (go_at_call 42; refine (cl1 _ (by assumption) _).mono ?_; rintro e w1 ⟨lw, rfl, hlw, d4, rfl⟩)
          | (go_at_call 42; refine (cl2 _ (by assumption) _).mono ?_; rintro e w1 ⟨sw, rfl, hsw, d5, rfl⟩)
          | (go_at_call 54; refine (ca _ _ (by assumption) (by assumption) hne _).mono ?_; rintro e w1 ⟨t, rfl, ht, hbt⟩; have hb1 := (hb0 _).trans hbt; have hB1 := hb1.size)
          | (go_at_call 28; refine (three_numbers _ _ _ _ _ _ _ (nl _ (by assumption)) (ns _ (by assumption)) (by first | exact n0 | exact ang_turn ht (by assumption)) _ rfl).mono ?_; rintro e w' ⟨rfl, d9, rfl⟩)
          | (refine wpList_flc rfl rfl rfl rfl rfl (show cl .f32 t = cl .f32 t from rfl) (by first | assumption | exact rfl) ?_; intro tw d htw)
          | (refine wpList_flc rfl rfl rfl rfl rfl (by first | assumption | exact rfl) (by first | assumption | exact rfl) ?_; intro r d hr; (first | rw [eA] at hr | rw [eB] at hr | rw [eC] at hr | rw [eH] at hr | rw [eK] at hr | rw [eQ] at hr | skip)))
        first
          | refine bodyPost_ret (v := .tuple #[.float .f32 lw, .float .f32 sw, .float .f32 tw, .bool true]) ?_ rfl ⟨_, _, _, rfl, hend _ _ (by assumption) (by assumption), below_drewN (hb1.alloc hB1 _) _⟩
          | refine bodyPost_ret (v := .tuple #[.float .f32 lw, .float .f32 sw, .float .f32 0, .bool true]) ?_ rfl ⟨_, _, _, rfl, hend _ _ (by assumption) (by assumption), below_drewN ((Below.refl _ _).alloc (Nat.le_refl _) _) _⟩
        simp [results, Try.results18, go_sem]
end Go.Proofs.Yticoikchcmmpfaa
