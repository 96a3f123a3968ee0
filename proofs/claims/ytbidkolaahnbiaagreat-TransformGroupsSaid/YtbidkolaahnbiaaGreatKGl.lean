/- Helping texts: Gl, Gm. -/
import Derived.Test.YtbidkolaahnbiaaGreatKGf
set_option linter.unusedSimpArgs false
set_option linter.unusedVariables false
set_option maxRecDepth 100000
set_option maxHeartbeats 16000000
open Nat (reduceAdd reduceLT reduceLeDiff reducePow reduceDiv reduceMod reduceEqDiff)
namespace Go.Av
open Go.RowKit
open Go.Proofs.Tryz (prog)
/-- A quiet call leaves our blocks as they are. -/
theorem SC_quiet {P : Program} {g : FuncId} {vs : List V} {H : Hp} {v : V} {F : List Nat} {K : V → Hp → Prop} (hf : flat 9 v = true) (h : QC P g vs H v none F) (hK : K v H) : SC P g vs H K := by
  intro φ I w xs hS hxs
  obtain ⟨h1, h2⟩ := h H (fun _ _ => rfl) φ I w xs hS hxs
  refine ⟨h1, h2.mono ?_⟩
  rintro e w' ⟨x, r, H', φ', I', rfl, ⟨rfl, hH⟩, hx, hS', hst⟩
  obtain ⟨k1, k2⟩ := hS.drop hS' hst (q := none) trivial hH rfl
  exact ⟨x, _, _, φ, I', rfl, hK, flat_VR 9 _ x hf hx, k1, k2⟩
theorem do_sc (X : List Pt) (Y : List (List Pt)) {b : Nat} {H : Hp} {K : V → Hp → Prop} (hb : get H b = some (.row 1 true [[.prim (.bool false)]])) (hK : ∀ H', Ext H H' → K (cgV X Y) H') :
    SC prog 38 [cgV X Y, .prim (.int .i64 (0)), .ptr b 0 0] H K := by
  have hbl := get_lt_len hb
  have hb2 : ∀ x y, get (H ++ [x] ++ [y]) b = some (.row 1 true [[.prim (.bool false)]]) := fun x y => get_app (get_app hb)
  have hs : ∀ x y, (H ++ [x] ++ [y]).set b (some (.row 1 true [[.prim (.bool false)]])) = H ++ [x] ++ [y] := fun x y => set_self (hb2 x y)
  refine SC_intro mixed (FnD.of (by kernel_rfl)) ?_
  conv in lcOf _ _ => cbv
  conv in ntOf _ _ => cbv
  conv in rsOf _ _ => cbv
  simp only [RN, Nat.reduceAdd, Nat.reduceSub]
  simp (maxSteps := 2000000) (disch := omega) only [↓RS, RZ, reduceCtorEq, reduceAdd, reduceLT, reduceLeDiff, List.reduceReplicate, reducePow, reduceDiv, reduceMod, reduceEqDiff, Nat.reduceBEq, cgV, psV, hb2, hs, get_app_len, get_app_len2, set_app_len]
  have := hK (H ++ [some (.row 2 true [[psV X, .lst 1 ((Y.map psV).map fun v => [v])]])] ++ [some (.row 2 true [[psV X, .lst 1 ((Y.map psV).map fun v => [v])]])]) ((Ext.app _).trans (Ext.app _))
  simp only [cgV, psV] at this
  exact this
theorem do_qc {X : List Pt} {Y : List (List Pt)} {b : Nat} {H : Hp} {F : List Nat} (hF : b ∈ F) (hb : get H b = some (.row 1 true [[.prim (.bool false)]])) :
    QC prog 38 [cgV X Y, .prim (.int .i64 (0)), .ptr b 0 0] H (cgV X Y) none F := by
  intro H0 h0
  exact do_sc X Y (by rw [h0 b hF]; exact hb) fun H' hE => ⟨rfl, fun c k h => hE.get h⟩
theorem mem_touchD {X : List Pt} {Y : List (List Pt)} {b : Nat} {H : Hp} : b ∈ [cgV X Y, .prim (.int .i64 (0)), .ptr b 0 0].flatMap (touch H 9) := by
  simp only [List.flatMap_cons, touch_ptr, List.mem_append, List.mem_cons, true_or, or_true]

/-- A valid polygon with few holes and short corners. -/
structure VP (L : List Pt) (Hs : List (List Pt)) (k : Nat) : Prop where
  v : Valid L Hs
  few : Hs.length ≤ 3
  hl : hlP L Hs k
/-- A map that keeps the parity, of short numbers. -/
structure MapK (t : Aff) (A : Nat) : Prop where
  p : Par t
  le : t.le A
variable {L : List Pt} {Hs : List (List Pt)} {k A : Nat} {t s r : Aff}
theorem VP.fits (h : VP L Hs k) (ht : MapK t A) (hk : 3 * A + 2 * k + 2 ≤ 2 ^ 16) : Fits t L Hs := h.hl.fits ht.le hk
theorem VP.img (h : VP L Hs k) (ht : MapK t A) (hk : 3 * A + 2 * k + 2 ≤ 2 ^ 16) : VP (imgL t L) (imgH t Hs) (3 * A + 2 * k + 2) :=
  ⟨h.v.img h.few ht.p (h.fits ht hk), by rw [imgH_length h.v h.few ht.p (h.fits ht hk)]; exact h.few, h.hl.img h.v h.few ht.le ht.p hk⟩
theorem VP.comp {B C : Nat} (h : VP L Hs k) (ht : MapK t A) (hs : MapK s B) (hr : MapK r C) (e : ∀ p, r.ap p = s.ap (t.ap p)) (h1 : 3 * A + 2 * k + 2 ≤ 2 ^ 16) (h2 : 3 * B + 2 * (3 * A + 2 * k + 2) + 2 ≤ 2 ^ 16) (h3 : 3 * C + 2 * k + 2 ≤ 2 ^ 16) :
    cgV (imgL s (imgL t L)) (imgH s (imgH t Hs)) = cgV (imgL r L) (imgH r Hs) := by
  rw [img_comp h.v.out ht.p.1 hs.p.1 e, imgH_comp h.v h.few ht.p hs.p e hr.p (h.fits ht h1) ((h.img ht h1).fits hs h2) (h.fits hr h3)]
theorem VP.id (h : VP L Hs k) (e : ∀ p, t.ap p = p) : cgV (imgL t L) (imgH t Hs) = cgV L Hs := by
  rw [img_id h.v.out e, imgH_id h.v h.few e]
theorem VP.same (h : VP L Hs k) : PC prog 40 [cgV L Hs, cgV L Hs] (.prim (.bool true)) :=
  same_pc L Hs (by have := h.v.out.hi; omega) (by have := h.few; omega) (fun l hl => by have := (h.v.holes l hl).hi; omega)
theorem rot_rot {R S : Pt} (h1 : isRot R) (h2 : isRot S) : isRot (rotP R S) := by
  unfold isRot at *; unfold rotP; simp only
  have e : (R.x * S.x + -(R.y * S.y)) * (R.x * S.x + -(R.y * S.y)) + (R.y * S.x + R.x * S.y) * (R.y * S.x + R.x * S.y) = (R.x * R.x + R.y * R.y) * (S.x * S.x + S.y * S.y) := by grind
  rw [e, h1, h2]; decide +kernel
theorem c_moves (v w p : Pt) : (moveA (v.add w)).ap p = (moveA w).ap ((moveA v).ap p) := by
  rw [moveA_ap, moveA_ap, moveA_ap]; refine Pt.ext ?_ ?_ <;> (unfold Pt.add; simp only; grind)
theorem c_turns (R S p : Pt) : (placeA (rotP R S) pt0).ap p = (placeA S pt0).ap ((placeA R pt0).ap p) := by
  rw [placeA_ap, placeA_ap, placeA_ap]; refine Pt.ext ?_ ?_ <;> (unfold Pt.add rotP pt0; simp only; grind)
theorem c_place (R v p : Pt) : (placeA R v).ap p = (moveA v).ap ((placeA R pt0).ap p) := by
  rw [placeA_ap, moveA_ap, placeA_ap]; refine Pt.ext ?_ ?_ <;> (unfold Pt.add rotP pt0; simp only; grind)
def idA : Aff := ⟨1, 0, 0, 1, 0, 0⟩
theorem idA_ap (p : Pt) : idA.ap p = p := by refine Pt.ext ?_ ?_ <;> (unfold idA Aff.ap; simp only; try grind)
theorem c_flip (p : Pt) : idA.ap p = (scaleA (-1)).ap ((scaleA (-1)).ap p) := by
  rw [idA_ap, scaleA_ap, scaleA_ap]; refine Pt.ext ?_ ?_ <;> (unfold Pt.smul; simp only; grind)
theorem c_mir (p : Pt) : idA.ap p = mirA.ap (mirA.ap p) := by
  rw [idA_ap, mirA_ap, mirA_ap]; refine Pt.ext ?_ ?_ <;> (simp only; try grind)
theorem c_shear (c : Rat) (p : Pt) : idA.ap p = (shA (-c)).ap ((shA c).ap p) := by
  rw [idA_ap, shA_ap, shA_ap]; refine Pt.ext ?_ ?_ <;> (simp only; try grind)
theorem tm_id : MapK idA 1 := ⟨par_move 0 0, by
  have := ht_zero; have := ht_one
  exact ⟨by simp only [idA]; omega, by simp only [idA]; omega, by simp only [idA]; omega, by simp only [idA]; omega, by simp only [idA]; omega, by simp only [idA]; omega⟩⟩
theorem tm_move {v : Pt} (h : hp v ≤ A) (hA : 1 ≤ A) : MapK (moveA v) A := ⟨par_move v.x v.y, le_move h hA⟩
theorem tm_place {R v : Pt} (hr : isRot R) (h0 : hp R ≤ A) (h : hp v ≤ A) : MapK (placeA R v) A := ⟨par_place hr v.x v.y, le_place h0 h⟩
theorem tm_mir : MapK mirA 1 := ⟨par_mirror, le_mir⟩
theorem tm_flip : MapK (scaleA (-1)) 1 := ⟨par_scale (by decide +kernel), le_scale ht_mone (Nat.le_refl _)⟩
theorem tm_sh {c : Rat} (h : ht c ≤ A) (hA : 1 ≤ A) : MapK (shA c) A := ⟨par_shx c, le_sh h hA⟩
theorem placeA_flip : placeA ⟨-1, 0⟩ pt0 = scaleA (-1) := by
  unfold placeA scaleA pt0; simp only
  rw [show (-(0 : Rat)) = 0 by decide +kernel]
end Go.Av
set_option maxRecDepth 100000
set_option maxHeartbeats 16000000
open Nat (reduceAdd reduceLT reduceLeDiff reducePow reduceDiv reduceMod reduceEqDiff)
namespace Go.Av
open Go.RowKit
open Go.Proofs.Tryz (prog)
theorem transformGroups_pc (O : List Rp) (hs : List (List Rp)) (r s v w : Rp) (hr : Read O hs) (f1 : r.fit) (f2 : s.fit) (f3 : v.fit) (f4 : w.fit) :
    PC prog 6 [pgV O hs, ptV r.x r.y, ptV s.x s.y, ptV v.x v.y, ptV w.x w.y] (.prim (.bool true)) := by
  have fz : Rt.fit ⟨false, [], []⟩ := ⟨Nat.zero_le _, Nat.zero_le _⟩
  obtain ⟨b, f, hb⟩ := fineT_pc O hs r v ⟨false, [], []⟩ hr f1 f3 fz
  obtain ⟨b2, f', hb'⟩ := fineT_pc O hs s w ⟨false, [], []⟩ hr f2 f4 fz
  have aw := awake14_pc
  cases b with
  | false =>
    refine PC_intro mixed (FnD.of (by kernel_rfl)) ?_
    simp only [lcOf, Go.Proofs.Tryz.func6, Go.Proofs.Tryz.f6, liteF]
    conv in (occs := *) opsL _ _ _ => all_goals cbv
    conv in ntOf _ _ => cbv
    conv in rsOf _ _ => cbv
    simp only [RN, Nat.reduceAdd, Nat.reduceSub]
    simp (maxSteps := 2000000) (disch := omega) only [↓RS, RZ, reduceCtorEq, reduceAdd, reduceLT, reduceLeDiff, List.reduceReplicate, reducePow, reduceDiv, reduceMod, reduceEqDiff, Nat.reduceBEq, pgV, hsV, rpsV, ptV, rV]
    first | refine cP (f) ?_ | refine cD (f) ?_
    simp (maxSteps := 2000000) (disch := omega) only [↓RS, RZ, reduceCtorEq, reduceAdd, reduceLT, reduceLeDiff, List.reduceReplicate, reducePow, reduceDiv, reduceMod, reduceEqDiff, Nat.reduceBEq]
    first | refine cP (aw) ?_ | refine cD (aw) ?_
    simp (maxSteps := 2000000) (disch := omega) only [↓RS, RZ, reduceCtorEq, reduceAdd, reduceLT, reduceLeDiff, List.reduceReplicate, reducePow, reduceDiv, reduceMod, reduceEqDiff, Nat.reduceBEq]
  | true =>
  cases b2 with
  | false =>
    refine PC_intro mixed (FnD.of (by kernel_rfl)) ?_
    simp only [lcOf, Go.Proofs.Tryz.func6, Go.Proofs.Tryz.f6, liteF]
    conv in (occs := *) opsL _ _ _ => all_goals cbv
    conv in ntOf _ _ => cbv
    conv in rsOf _ _ => cbv
    simp only [RN, Nat.reduceAdd, Nat.reduceSub]
    simp (maxSteps := 2000000) (disch := omega) only [↓RS, RZ, reduceCtorEq, reduceAdd, reduceLT, reduceLeDiff, List.reduceReplicate, reducePow, reduceDiv, reduceMod, reduceEqDiff, Nat.reduceBEq, pgV, hsV, rpsV, ptV, rV]
    first | refine cP (f) ?_ | refine cD (f) ?_
    simp (maxSteps := 2000000) (disch := omega) only [↓RS, RZ, reduceCtorEq, reduceAdd, reduceLT, reduceLeDiff, List.reduceReplicate, reducePow, reduceDiv, reduceMod, reduceEqDiff, Nat.reduceBEq, pgV, hsV, rpsV, ptV, rV]
    first | refine cP (f') ?_ | refine cD (f') ?_
    simp (maxSteps := 2000000) (disch := omega) only [↓RS, RZ, reduceCtorEq, reduceAdd, reduceLT, reduceLeDiff, List.reduceReplicate, reducePow, reduceDiv, reduceMod, reduceEqDiff, Nat.reduceBEq]
    first | refine cP (aw) ?_ | refine cD (aw) ?_
    simp (maxSteps := 2000000) (disch := omega) only [↓RS, RZ, reduceCtorEq, reduceAdd, reduceLT, reduceLeDiff, List.reduceReplicate, reducePow, reduceDiv, reduceMod, reduceEqDiff, Nat.reduceBEq]
  | true =>
    have hf := hb rfl
    have hf' := hb' rfl
    have vp : VP (pts O) (hs.map pts) 12 := ⟨hf.f.valid, by rw [List.length_map]; exact hf.few, hf.hlP⟩
    have hR := hp_raw hf.rc hf.rl
    have hV := hp_raw hf.vc hf.vl
    have hS := hp_raw hf'.rc hf'.rl
    have hW := hp_raw hf'.vc hf'.vl
    have rR := hf.rr
    have rS := hf'.rr
    rw [hf.f.val, ptV_pV hf.rc, ptV_pV hf.vc] at f
    rw [hf.f.val, ptV_pV hf'.rc, ptV_pV hf'.vc] at f'
    rw [hf.f.val, ptV_pV hf.rc, ptV_pV hf'.rc, ptV_pV hf.vc, ptV_pV hf'.vc]
    clear hb hf hb' hf' f1 f2 f3 f4 hr fz
    generalize hs.map pts = Hs at *
    generalize pts O = L at *
    generalize (⟨r.x.val, r.y.val⟩ : Pt) = R at *
    generalize (⟨s.x.val, s.y.val⟩ : Pt) = S at *
    generalize (⟨v.x.val, v.y.val⟩ : Pt) = V1 at *
    generalize (⟨w.x.val, w.y.val⟩ : Pt) = W at *
    have hz := hp_pt0
    have hwx := hp_x W
    have hRS := hp_rot R S
    have hVW := hp_add V1 W
    have hn := ht_neg W.x
    have rRS := rot_rot rR rS
    have rF : isRot ⟨-1, 0⟩ := by unfold isRot; decide +kernel
    have hF : hp ⟨-1, 0⟩ ≤ 1 := hp_mk ht_mone ht_zero
    have tV := @tm_move 30 V1 hV (by omega)
    have tW := @tm_move 30 W hW (by omega)
    have tVW := @tm_move 61 (V1.add W) (by omega) (by omega)
    have tR := @tm_place 30 R pt0 rR hR (by omega)
    have tS := @tm_place 30 S pt0 rS hS (by omega)
    have tRS := @tm_place 121 (rotP R S) pt0 rRS (by omega) (by omega)
    have tP := @tm_place 30 R V1 rR hR hV
    have tF := tm_flip
    have tM := tm_mir
    have tI := tm_id
    have tC := @tm_sh 30 W.x (by omega) (by omega)
    have tD := @tm_sh 30 (-W.x) (by omega) (by omega)
    -- the images
    have iV := vp.img tV (by omega)
    have iR := vp.img tR (by omega)
    have iF := vp.img tF (by omega)
    have iM := vp.img tM (by omega)
    have iC := vp.img tC (by omega)
    have iP := vp.img tP (by omega)
    have iVW := vp.img tVW (by omega)
    have iRS := vp.img tRS (by omega)
    have e1 := vp.comp tV tW tVW (c_moves V1 W) (by omega) (by omega) (by omega)
    have e2 := vp.comp tR tS tRS (c_turns R S) (by omega) (by omega) (by omega)
    have e3 := (vp.comp tF tF tI c_flip (by omega) (by omega) (by omega)).trans (vp.id idA_ap)
    have e4 := (vp.comp tM tM tI c_mir (by omega) (by omega) (by omega)).trans (vp.id idA_ap)
    have e5 := (vp.comp tC tD tI (c_shear W.x) (by omega) (by omega) (by omega)).trans (vp.id idA_ap)
    have e6 := vp.comp tR tV tP (c_place R V1) (by omega) (by omega) (by omega)
    -- the calls
    have d0 := thenE_pc R S (by omega) (by omega) rR rS
    have d1 := vadd_pc V1 W (by omega) (by omega)
    have d2 := negQ_pc W.x (by omega)
    have d3 : PC prog 43 [.prim (.int .i64 (-1))] (qV (-1)) := ofQ_pc (-1) (by omega) (by omega)
    have m1 := move_pc vp.v vp.few V1 (by omega) (vp.fits tV (by omega))
    have m2 := move_pc iV.v iV.few W (by omega) (iV.fits tW (by omega))
    have m3 := move_pc vp.v vp.few (V1.add W) (by omega) (vp.fits tVW (by omega))
    have u1 := turn_pc vp.v vp.few R rR (by omega) (vp.fits tR (by omega))
    have u2 := turn_pc iR.v iR.few S rS (by omega) (iR.fits tS (by omega))
    have u3 := turn_pc vp.v vp.few (rotP R S) rRS (by omega) (vp.fits tRS (by omega))
    have l1 := flip_pc vp.v vp.few (vp.fits tF (by omega))
    have l2 := flip_pc iF.v iF.few (iF.fits tF (by omega))
    have n1 := mirror_pc vp.v vp.few (vp.fits tM (by omega))
    have n2 := mirror_pc iM.v iM.few (iM.fits tM (by omega))
    have s1 := shear_pc vp.v vp.few W.x (by omega) (vp.fits tC (by omega))
    have s2 := shear_pc iC.v iC.few (-W.x) (by omega) (iC.fits tD (by omega))
    have p1 := place_pc vp.v vp.few R V1 rR (by omega) (by omega) (vp.fits tP (by omega))
    have m4 := move_pc iR.v iR.few V1 (by omega) (iR.fits tV (by omega))
    have u4 := turn_pc vp.v vp.few ⟨-1, 0⟩ rF (by omega) (by rw [placeA_flip]; exact vp.fits tF (by omega))
    have c4 := scale_pc vp.v vp.few (-1) (by have := ht_mone; omega) (by decide +kernel) (vp.fits tF (by omega))
    rw [placeA_flip] at u4
    rw [e1] at m2
    rw [e2] at u2
    rw [e3] at l2
    rw [e4] at n2
    rw [e5] at s2
    rw [e6] at m4
    have z0 := vp.same
    have z1 := iVW.same
    have z2 := iRS.same
    have z3 := iP.same
    have z4 := iF.same
    have eF : pV ⟨-1, 0⟩ = .agg [.prim (.bool (can (-1)).neg), .prim (.string (bs ((can (-1)).num))), .prim (.string (bs ((can (-1)).den))), .prim (.bool false), .prim (.string (bs ([]))), .prim (.string (bs ([])))] := by simp only [pV, ptV, can_zero]
    rw [eF] at u4
    clear e1 e2 e3 e4 e5 e6 tV tW tVW tR tS tRS tP tF tM tI tC tD iV iR iF iM iC iP iVW iRS eF
    refine PC_intro mixed (FnD.of (by kernel_rfl)) ?_
    simp only [lcOf, Go.Proofs.Tryz.func6, Go.Proofs.Tryz.f6, liteF]
    conv in (occs := *) opsL _ _ _ => all_goals cbv
    conv in ntOf _ _ => cbv
    conv in rsOf _ _ => cbv
    simp only [RN, Nat.reduceAdd, Nat.reduceSub]
    simp (maxSteps := 2000000) (disch := omega) only [↓RS, RZ, reduceCtorEq, reduceAdd, reduceLT, reduceLeDiff, List.reduceReplicate, reducePow, reduceDiv, reduceMod, reduceEqDiff, Nat.reduceBEq, cgV, psV, pV, ptV, rV]
    first | refine cP (f) ?_ | refine cD (f) ?_
    simp (maxSteps := 2000000) (disch := omega) only [↓RS, RZ, reduceCtorEq, reduceAdd, reduceLT, reduceLeDiff, List.reduceReplicate, reducePow, reduceDiv, reduceMod, reduceEqDiff, Nat.reduceBEq, cgV, psV, pV, ptV, rV]
    first | refine cP (f') ?_ | refine cD (f') ?_
    simp (maxSteps := 2000000) (disch := omega) only [↓RS, RZ, reduceCtorEq, reduceAdd, reduceLT, reduceLeDiff, List.reduceReplicate, reducePow, reduceDiv, reduceMod, reduceEqDiff, Nat.reduceBEq, cgV, psV, pV, ptV]
    first | refine cP (d0) ?_ | refine cD (d0) ?_
    simp (maxSteps := 2000000) (disch := omega) only [↓RS, RZ, reduceCtorEq, reduceAdd, reduceLT, reduceLeDiff, List.reduceReplicate, reducePow, reduceDiv, reduceMod, reduceEqDiff, Nat.reduceBEq, cgV, psV, pV, ptV]
    first | refine cP (m1) ?_ | refine cD (m1) ?_
    simp (maxSteps := 2000000) (disch := omega) only [↓RS, RZ, reduceCtorEq, reduceAdd, reduceLT, reduceLeDiff, List.reduceReplicate, reducePow, reduceDiv, reduceMod, reduceEqDiff, Nat.reduceBEq, cgV, psV, pV, ptV]
    first | refine callD_qc (cgV _ _) none ⟨rfl, trivial⟩ (do_qc mem_touchD rfl) ?_ | refine call_sc (SC_quiet (v := cgV _ _) rfl (do_qc (F := [5]) (List.mem_singleton_self _) rfl) ?_)
    simp (maxSteps := 2000000) (disch := omega) only [↓RS, RZ, reduceCtorEq, reduceAdd, reduceLT, reduceLeDiff, List.reduceReplicate, reducePow, reduceDiv, reduceMod, reduceEqDiff, Nat.reduceBEq, setO, cgV, psV, pV, ptV]
    first | refine cP (m2) ?_ | refine cD (m2) ?_
    simp (maxSteps := 2000000) (disch := omega) only [↓RS, RZ, reduceCtorEq, reduceAdd, reduceLT, reduceLeDiff, List.reduceReplicate, reducePow, reduceDiv, reduceMod, reduceEqDiff, Nat.reduceBEq, setO, cgV, psV, pV, ptV]
    first | refine callD_qc (cgV _ _) none ⟨rfl, trivial⟩ (do_qc mem_touchD rfl) ?_ | refine call_sc (SC_quiet (v := cgV _ _) rfl (do_qc (F := [5]) (List.mem_singleton_self _) rfl) ?_)
    simp (maxSteps := 2000000) (disch := omega) only [↓RS, RZ, reduceCtorEq, reduceAdd, reduceLT, reduceLeDiff, List.reduceReplicate, reducePow, reduceDiv, reduceMod, reduceEqDiff, Nat.reduceBEq, setO, cgV, psV, pV, ptV]
    first | refine cP (u1) ?_ | refine cD (u1) ?_
    simp (maxSteps := 2000000) (disch := omega) only [↓RS, RZ, reduceCtorEq, reduceAdd, reduceLT, reduceLeDiff, List.reduceReplicate, reducePow, reduceDiv, reduceMod, reduceEqDiff, Nat.reduceBEq, setO, cgV, psV, pV, ptV]
    first | refine callD_qc (cgV _ _) none ⟨rfl, trivial⟩ (do_qc mem_touchD rfl) ?_ | refine call_sc (SC_quiet (v := cgV _ _) rfl (do_qc (F := [5]) (List.mem_singleton_self _) rfl) ?_)
    simp (maxSteps := 2000000) (disch := omega) only [↓RS, RZ, reduceCtorEq, reduceAdd, reduceLT, reduceLeDiff, List.reduceReplicate, reducePow, reduceDiv, reduceMod, reduceEqDiff, Nat.reduceBEq, setO, cgV, psV, pV, ptV]
    first | refine cP (u2) ?_ | refine cD (u2) ?_
    simp (maxSteps := 2000000) (disch := omega) only [↓RS, RZ, reduceCtorEq, reduceAdd, reduceLT, reduceLeDiff, List.reduceReplicate, reducePow, reduceDiv, reduceMod, reduceEqDiff, Nat.reduceBEq, setO, cgV, psV, pV, ptV]
    first | refine callD_qc (cgV _ _) none ⟨rfl, trivial⟩ (do_qc mem_touchD rfl) ?_ | refine call_sc (SC_quiet (v := cgV _ _) rfl (do_qc (F := [5]) (List.mem_singleton_self _) rfl) ?_)
    simp (maxSteps := 2000000) (disch := omega) only [↓RS, RZ, reduceCtorEq, reduceAdd, reduceLT, reduceLeDiff, List.reduceReplicate, reducePow, reduceDiv, reduceMod, reduceEqDiff, Nat.reduceBEq, setO, cgV, psV, pV, ptV]
    first | refine cP (l1) ?_ | refine cD (l1) ?_
    simp (maxSteps := 2000000) (disch := omega) only [↓RS, RZ, reduceCtorEq, reduceAdd, reduceLT, reduceLeDiff, List.reduceReplicate, reducePow, reduceDiv, reduceMod, reduceEqDiff, Nat.reduceBEq, setO, cgV, psV, pV, ptV]
    first | refine callD_qc (cgV _ _) none ⟨rfl, trivial⟩ (do_qc mem_touchD rfl) ?_ | refine call_sc (SC_quiet (v := cgV _ _) rfl (do_qc (F := [5]) (List.mem_singleton_self _) rfl) ?_)
    simp (maxSteps := 2000000) (disch := omega) only [↓RS, RZ, reduceCtorEq, reduceAdd, reduceLT, reduceLeDiff, List.reduceReplicate, reducePow, reduceDiv, reduceMod, reduceEqDiff, Nat.reduceBEq, setO, cgV, psV, pV, ptV]
    first | refine cP (d1) ?_ | refine cD (d1) ?_
    simp (maxSteps := 2000000) (disch := omega) only [↓RS, RZ, reduceCtorEq, reduceAdd, reduceLT, reduceLeDiff, List.reduceReplicate, reducePow, reduceDiv, reduceMod, reduceEqDiff, Nat.reduceBEq, setO, cgV, psV, pV, ptV]
    first | refine cP (m3) ?_ | refine cD (m3) ?_
    simp (maxSteps := 2000000) (disch := omega) only [↓RS, RZ, reduceCtorEq, reduceAdd, reduceLT, reduceLeDiff, List.reduceReplicate, reducePow, reduceDiv, reduceMod, reduceEqDiff, Nat.reduceBEq, setO, cgV, psV, pV, ptV]
    first | refine callD_qc (cgV _ _) none ⟨rfl, trivial⟩ (do_qc mem_touchD rfl) ?_ | refine call_sc (SC_quiet (v := cgV _ _) rfl (do_qc (F := [5]) (List.mem_singleton_self _) rfl) ?_)
    simp (maxSteps := 2000000) (disch := omega) only [↓RS, RZ, reduceCtorEq, reduceAdd, reduceLT, reduceLeDiff, List.reduceReplicate, reducePow, reduceDiv, reduceMod, reduceEqDiff, Nat.reduceBEq, setO, cgV, psV, pV, ptV]
    first | refine cP (z1) ?_ | refine cD (z1) ?_
    simp (maxSteps := 2000000) (disch := omega) only [↓RS, RZ, reduceCtorEq, reduceAdd, reduceLT, reduceLeDiff, List.reduceReplicate, reducePow, reduceDiv, reduceMod, reduceEqDiff, Nat.reduceBEq, setO, cgV, psV, pV, ptV]
    first | refine cP (u3) ?_ | refine cD (u3) ?_
    simp (maxSteps := 2000000) (disch := omega) only [↓RS, RZ, reduceCtorEq, reduceAdd, reduceLT, reduceLeDiff, List.reduceReplicate, reducePow, reduceDiv, reduceMod, reduceEqDiff, Nat.reduceBEq, setO, cgV, psV, pV, ptV]
    first | refine callD_qc (cgV _ _) none ⟨rfl, trivial⟩ (do_qc mem_touchD rfl) ?_ | refine call_sc (SC_quiet (v := cgV _ _) rfl (do_qc (F := [5]) (List.mem_singleton_self _) rfl) ?_)
    simp (maxSteps := 2000000) (disch := omega) only [↓RS, RZ, reduceCtorEq, reduceAdd, reduceLT, reduceLeDiff, List.reduceReplicate, reducePow, reduceDiv, reduceMod, reduceEqDiff, Nat.reduceBEq, setO, cgV, psV, pV, ptV]
    first | refine cP (z2) ?_ | refine cD (z2) ?_
    simp (maxSteps := 2000000) (disch := omega) only [↓RS, RZ, reduceCtorEq, reduceAdd, reduceLT, reduceLeDiff, List.reduceReplicate, reducePow, reduceDiv, reduceMod, reduceEqDiff, Nat.reduceBEq, setO, cgV, psV, pV, ptV]
    first | refine cP (l2) ?_ | refine cD (l2) ?_
    simp (maxSteps := 2000000) (disch := omega) only [↓RS, RZ, reduceCtorEq, reduceAdd, reduceLT, reduceLeDiff, List.reduceReplicate, reducePow, reduceDiv, reduceMod, reduceEqDiff, Nat.reduceBEq, setO, cgV, psV, pV, ptV, qV, rV]
    first | refine callD_qc (cgV _ _) none ⟨rfl, trivial⟩ (do_qc mem_touchD rfl) ?_ | refine call_sc (SC_quiet (v := cgV _ _) rfl (do_qc (F := [5]) (List.mem_singleton_self _) rfl) ?_)
    simp (maxSteps := 2000000) (disch := omega) only [↓RS, RZ, reduceCtorEq, reduceAdd, reduceLT, reduceLeDiff, List.reduceReplicate, reducePow, reduceDiv, reduceMod, reduceEqDiff, Nat.reduceBEq, setO, cgV, psV, pV, ptV, qV, rV]
    first | refine cP (z0) ?_ | refine cD (z0) ?_
    simp (maxSteps := 2000000) (disch := omega) only [↓RS, RZ, reduceCtorEq, reduceAdd, reduceLT, reduceLeDiff, List.reduceReplicate, reducePow, reduceDiv, reduceMod, reduceEqDiff, Nat.reduceBEq, setO, cgV, psV, pV, ptV, qV, rV]
    first | refine cP (n1) ?_ | refine cD (n1) ?_
    simp (maxSteps := 2000000) (disch := omega) only [↓RS, RZ, reduceCtorEq, reduceAdd, reduceLT, reduceLeDiff, List.reduceReplicate, reducePow, reduceDiv, reduceMod, reduceEqDiff, Nat.reduceBEq, setO, cgV, psV, pV, ptV, qV, rV]
    first | refine callD_qc (cgV _ _) none ⟨rfl, trivial⟩ (do_qc mem_touchD rfl) ?_ | refine call_sc (SC_quiet (v := cgV _ _) rfl (do_qc (F := [5]) (List.mem_singleton_self _) rfl) ?_)
    simp (maxSteps := 2000000) (disch := omega) only [↓RS, RZ, reduceCtorEq, reduceAdd, reduceLT, reduceLeDiff, List.reduceReplicate, reducePow, reduceDiv, reduceMod, reduceEqDiff, Nat.reduceBEq, setO, cgV, psV, pV, ptV, qV, rV]
    first | refine cP (n2) ?_ | refine cD (n2) ?_
    simp (maxSteps := 2000000) (disch := omega) only [↓RS, RZ, reduceCtorEq, reduceAdd, reduceLT, reduceLeDiff, List.reduceReplicate, reducePow, reduceDiv, reduceMod, reduceEqDiff, Nat.reduceBEq, setO, cgV, psV, pV, ptV, qV, rV]
    first | refine callD_qc (cgV _ _) none ⟨rfl, trivial⟩ (do_qc mem_touchD rfl) ?_ | refine call_sc (SC_quiet (v := cgV _ _) rfl (do_qc (F := [5]) (List.mem_singleton_self _) rfl) ?_)
    simp (maxSteps := 2000000) (disch := omega) only [↓RS, RZ, reduceCtorEq, reduceAdd, reduceLT, reduceLeDiff, List.reduceReplicate, reducePow, reduceDiv, reduceMod, reduceEqDiff, Nat.reduceBEq, setO, cgV, psV, pV, ptV, qV, rV]
    first | refine cP (z0) ?_ | refine cD (z0) ?_
    simp (maxSteps := 2000000) (disch := omega) only [↓RS, RZ, reduceCtorEq, reduceAdd, reduceLT, reduceLeDiff, List.reduceReplicate, reducePow, reduceDiv, reduceMod, reduceEqDiff, Nat.reduceBEq, setO, cgV, psV, pV, ptV, qV, rV]
    first | refine cP (s1) ?_ | refine cD (s1) ?_
    simp (maxSteps := 2000000) (disch := omega) only [↓RS, RZ, reduceCtorEq, reduceAdd, reduceLT, reduceLeDiff, List.reduceReplicate, reducePow, reduceDiv, reduceMod, reduceEqDiff, Nat.reduceBEq, setO, cgV, psV, pV, ptV, qV, rV]
    first | refine callD_qc (cgV _ _) none ⟨rfl, trivial⟩ (do_qc mem_touchD rfl) ?_ | refine call_sc (SC_quiet (v := cgV _ _) rfl (do_qc (F := [5]) (List.mem_singleton_self _) rfl) ?_)
    simp (maxSteps := 2000000) (disch := omega) only [↓RS, RZ, reduceCtorEq, reduceAdd, reduceLT, reduceLeDiff, List.reduceReplicate, reducePow, reduceDiv, reduceMod, reduceEqDiff, Nat.reduceBEq, setO, cgV, psV, pV, ptV, qV, rV]
    first | refine cP (d2) ?_ | refine cD (d2) ?_
    simp (maxSteps := 2000000) (disch := omega) only [↓RS, RZ, reduceCtorEq, reduceAdd, reduceLT, reduceLeDiff, List.reduceReplicate, reducePow, reduceDiv, reduceMod, reduceEqDiff, Nat.reduceBEq, setO, cgV, psV, pV, ptV, qV, rV]
    first | refine cP (s2) ?_ | refine cD (s2) ?_
    simp (maxSteps := 2000000) (disch := omega) only [↓RS, RZ, reduceCtorEq, reduceAdd, reduceLT, reduceLeDiff, List.reduceReplicate, reducePow, reduceDiv, reduceMod, reduceEqDiff, Nat.reduceBEq, setO, cgV, psV, pV, ptV, qV, rV]
    first | refine callD_qc (cgV _ _) none ⟨rfl, trivial⟩ (do_qc mem_touchD rfl) ?_ | refine call_sc (SC_quiet (v := cgV _ _) rfl (do_qc (F := [5]) (List.mem_singleton_self _) rfl) ?_)
    simp (maxSteps := 2000000) (disch := omega) only [↓RS, RZ, reduceCtorEq, reduceAdd, reduceLT, reduceLeDiff, List.reduceReplicate, reducePow, reduceDiv, reduceMod, reduceEqDiff, Nat.reduceBEq, setO, cgV, psV, pV, ptV, qV, rV]
    first | refine cP (z0) ?_ | refine cD (z0) ?_
    simp (maxSteps := 2000000) (disch := omega) only [↓RS, RZ, reduceCtorEq, reduceAdd, reduceLT, reduceLeDiff, List.reduceReplicate, reducePow, reduceDiv, reduceMod, reduceEqDiff, Nat.reduceBEq, setO, cgV, psV, pV, ptV, qV, rV]
    first | refine cP (p1) ?_ | refine cD (p1) ?_
    simp (maxSteps := 2000000) (disch := omega) only [↓RS, RZ, reduceCtorEq, reduceAdd, reduceLT, reduceLeDiff, List.reduceReplicate, reducePow, reduceDiv, reduceMod, reduceEqDiff, Nat.reduceBEq, setO, cgV, psV, pV, ptV, qV, rV]
    first | refine callD_qc (cgV _ _) none ⟨rfl, trivial⟩ (do_qc mem_touchD rfl) ?_ | refine call_sc (SC_quiet (v := cgV _ _) rfl (do_qc (F := [5]) (List.mem_singleton_self _) rfl) ?_)
    simp (maxSteps := 2000000) (disch := omega) only [↓RS, RZ, reduceCtorEq, reduceAdd, reduceLT, reduceLeDiff, List.reduceReplicate, reducePow, reduceDiv, reduceMod, reduceEqDiff, Nat.reduceBEq, setO, cgV, psV, pV, ptV, qV, rV]
    first | refine cP (u1) ?_ | refine cD (u1) ?_
    simp (maxSteps := 2000000) (disch := omega) only [↓RS, RZ, reduceCtorEq, reduceAdd, reduceLT, reduceLeDiff, List.reduceReplicate, reducePow, reduceDiv, reduceMod, reduceEqDiff, Nat.reduceBEq, setO, cgV, psV, pV, ptV, qV, rV]
    first | refine callD_qc (cgV _ _) none ⟨rfl, trivial⟩ (do_qc mem_touchD rfl) ?_ | refine call_sc (SC_quiet (v := cgV _ _) rfl (do_qc (F := [5]) (List.mem_singleton_self _) rfl) ?_)
    simp (maxSteps := 2000000) (disch := omega) only [↓RS, RZ, reduceCtorEq, reduceAdd, reduceLT, reduceLeDiff, List.reduceReplicate, reducePow, reduceDiv, reduceMod, reduceEqDiff, Nat.reduceBEq, setO, cgV, psV, pV, ptV, qV, rV]
    first | refine cP (m4) ?_ | refine cD (m4) ?_
    simp (maxSteps := 2000000) (disch := omega) only [↓RS, RZ, reduceCtorEq, reduceAdd, reduceLT, reduceLeDiff, List.reduceReplicate, reducePow, reduceDiv, reduceMod, reduceEqDiff, Nat.reduceBEq, setO, cgV, psV, pV, ptV, qV, rV]
    first | refine callD_qc (cgV _ _) none ⟨rfl, trivial⟩ (do_qc mem_touchD rfl) ?_ | refine call_sc (SC_quiet (v := cgV _ _) rfl (do_qc (F := [5]) (List.mem_singleton_self _) rfl) ?_)
    simp (maxSteps := 2000000) (disch := omega) only [↓RS, RZ, reduceCtorEq, reduceAdd, reduceLT, reduceLeDiff, List.reduceReplicate, reducePow, reduceDiv, reduceMod, reduceEqDiff, Nat.reduceBEq, setO, cgV, psV, pV, ptV, qV, rV]
    first | refine cP (z3) ?_ | refine cD (z3) ?_
    simp (maxSteps := 2000000) (disch := omega) only [↓RS, RZ, reduceCtorEq, reduceAdd, reduceLT, reduceLeDiff, List.reduceReplicate, reducePow, reduceDiv, reduceMod, reduceEqDiff, Nat.reduceBEq, setO, cgV, psV, pV, ptV, qV, rV]
    first | refine cP (d3) ?_ | refine cD (d3) ?_
    simp (maxSteps := 2000000) (disch := omega) only [↓RS, RZ, reduceCtorEq, reduceAdd, reduceLT, reduceLeDiff, List.reduceReplicate, reducePow, reduceDiv, reduceMod, reduceEqDiff, Nat.reduceBEq, setO, cgV, psV, pV, ptV, qV, rV]
    first | refine cP (u4) ?_ | refine cD (u4) ?_
    simp (maxSteps := 2000000) (disch := omega) only [↓RS, RZ, reduceCtorEq, reduceAdd, reduceLT, reduceLeDiff, List.reduceReplicate, reducePow, reduceDiv, reduceMod, reduceEqDiff, Nat.reduceBEq, setO, cgV, psV, pV, ptV, qV, rV]
    first | refine callD_qc (cgV _ _) none ⟨rfl, trivial⟩ (do_qc mem_touchD rfl) ?_ | refine call_sc (SC_quiet (v := cgV _ _) rfl (do_qc (F := [5]) (List.mem_singleton_self _) rfl) ?_)
    simp (maxSteps := 2000000) (disch := omega) only [↓RS, RZ, reduceCtorEq, reduceAdd, reduceLT, reduceLeDiff, List.reduceReplicate, reducePow, reduceDiv, reduceMod, reduceEqDiff, Nat.reduceBEq, setO, cgV, psV, pV, ptV, qV, rV]
    first | refine cP (z4) ?_ | refine cD (z4) ?_
    simp (maxSteps := 2000000) (disch := omega) only [↓RS, RZ, reduceCtorEq, reduceAdd, reduceLT, reduceLeDiff, List.reduceReplicate, reducePow, reduceDiv, reduceMod, reduceEqDiff, Nat.reduceBEq, setO, cgV, psV, pV, ptV, qV, rV]
    first | refine cP (d3) ?_ | refine cD (d3) ?_
    simp (maxSteps := 2000000) (disch := omega) only [↓RS, RZ, reduceCtorEq, reduceAdd, reduceLT, reduceLeDiff, List.reduceReplicate, reducePow, reduceDiv, reduceMod, reduceEqDiff, Nat.reduceBEq, setO, cgV, psV, pV, ptV, qV, rV]
    first | refine cP (c4) ?_ | refine cD (c4) ?_
    simp (maxSteps := 2000000) (disch := omega) only [↓RS, RZ, reduceCtorEq, reduceAdd, reduceLT, reduceLeDiff, List.reduceReplicate, reducePow, reduceDiv, reduceMod, reduceEqDiff, Nat.reduceBEq, setO, cgV, psV, pV, ptV, qV, rV]
    first | refine callD_qc (cgV _ _) none ⟨rfl, trivial⟩ (do_qc mem_touchD rfl) ?_ | refine call_sc (SC_quiet (v := cgV _ _) rfl (do_qc (F := [5]) (List.mem_singleton_self _) rfl) ?_)
    simp (maxSteps := 2000000) (disch := omega) only [↓RS, RZ, reduceCtorEq, reduceAdd, reduceLT, reduceLeDiff, List.reduceReplicate, reducePow, reduceDiv, reduceMod, reduceEqDiff, Nat.reduceBEq, setO, cgV, psV, pV, ptV, qV, rV]
    first | refine cP (z4) ?_ | refine cD (z4) ?_
    simp (maxSteps := 2000000) (disch := omega) only [↓RS, RZ, reduceCtorEq, reduceAdd, reduceLT, reduceLeDiff, List.reduceReplicate, reducePow, reduceDiv, reduceMod, reduceEqDiff, Nat.reduceBEq, setO, cgV, psV, pV, ptV, qV, rV]
    first | refine cP (aw) ?_ | refine cD (aw) ?_
    simp (maxSteps := 2000000) (disch := omega) only [↓RS, RZ, reduceCtorEq, reduceAdd, reduceLT, reduceLeDiff, List.reduceReplicate, reducePow, reduceDiv, reduceMod, reduceEqDiff, Nat.reduceBEq]
end Go.Av
