/- Helping texts: Gj. -/
import Derived.Test.YtbidkolaahnbiaaGreatKGf
set_option linter.unusedSimpArgs false
set_option linter.unusedVariables false
set_option maxRecDepth 100000
set_option maxHeartbeats 16000000
open Nat (reduceAdd reduceLT reduceLeDiff reducePow reduceDiv reduceMod reduceEqDiff)
namespace Go.Av
open Go.RowKit
open Go.Proofs.Tryz (prog)
theorem sameP_sc {X : List Pt} {Y : List (List Pt)} {q : Pt} {a : Int} (ar : PC prog 44 [cgV X Y, pV q] (.tup [.prim (.int .i64 (a)), .prim (.int .i64 (0))])) {b : Nat} {H : Hp} {K : V → Hp → Prop} (hb : get H b = some (.row 1 true [[.prim (.int .i64 (a))]])) (hK : ∀ H', Ext H H' → K (.prim (.bool true)) H') :
    SC prog 45 [cgV X Y, pV q, .prim (.int .i64 (0)), .ptr b 0 0] H K := by
  have hb2 : ∀ x y, get (H ++ [x] ++ [y]) b = some (.row 1 true [[.prim (.int .i64 (a))]]) := fun x y => get_app (get_app hb)
  refine SC_intro mixed (FnD.of (by kernel_rfl)) ?_
  conv in lcOf _ _ => cbv
  conv in ntOf _ _ => cbv
  conv in rsOf _ _ => cbv
  simp only [RN, Nat.reduceAdd, Nat.reduceSub]
  simp (maxSteps := 2000000) (disch := omega) only [↓RS, RZ, reduceCtorEq, reduceAdd, reduceLT, reduceLeDiff, List.reduceReplicate, reducePow, reduceDiv, reduceMod, reduceEqDiff, Nat.reduceBEq, cgV, psV, pV, ptV, get_app_len, get_app_len2]
  first | refine cP (ar) ?_ | refine cD (ar) ?_
  simp (maxSteps := 2000000) (disch := omega) only [↓RS, RZ, reduceCtorEq, reduceAdd, reduceLT, reduceLeDiff, List.reduceReplicate, reducePow, reduceDiv, reduceMod, reduceEqDiff, Nat.reduceBEq, hb2]
  exact hK _ ((Ext.app _).trans (Ext.app _))
/-- The same, in a region whose order is drawn. -/
theorem sameP_qc {X : List Pt} {Y : List (List Pt)} {q : Pt} {a : Int} (ar : PC prog 44 [cgV X Y, pV q] (.tup [.prim (.int .i64 (a)), .prim (.int .i64 (0))])) {b : Nat} {H : Hp} {F : List Nat} (hF : b ∈ F) (hb : get H b = some (.row 1 true [[.prim (.int .i64 (a))]])) :
    QC prog 45 [cgV X Y, pV q, .prim (.int .i64 (0)), .ptr b 0 0] H (.prim (.bool true)) none F := by
  intro H0 h0
  exact sameP_sc ar (by rw [h0 b hF]; exact hb) fun H' hE => ⟨rfl, fun c k h => hE.get h⟩
theorem mem_touch {X : List Pt} {Y : List (List Pt)} {q : Pt} {b : Nat} {H : Hp} : b ∈ [cgV X Y, pV q, .prim (.int .i64 (0)), .ptr b 0 0].flatMap (touch H 9) := by
  simp only [List.flatMap_cons, touch_ptr, List.mem_append, List.mem_cons, true_or, or_true]

theorem transformPoints_pc (O : List Rp) (hs : List (List Rp)) (r v : Rp) (k : Rt) (q : Rp) (hr : Read O hs) (f1 : r.fit) (f2 : v.fit) (f3 : k.fit) (f4 : q.fit) :
    PC prog 7 [pgV O hs, ptV r.x r.y, ptV v.x v.y, rV k, ptV q.x q.y] (.prim (.bool true)) := by
  obtain ⟨b, f, hb⟩ := fineT_pc O hs r v k hr f1 f2 f3
  obtain ⟨b2, f', hb'⟩ := fineT_pc O hs r q k hr f1 f4 f3
  have aw := awake14_pc
  cases b with
  | false =>
    refine PC_intro mixed (FnD.of (by kernel_rfl)) ?_
    simp only [lcOf, Go.Proofs.Tryz.func7, Go.Proofs.Tryz.f7, liteF]
    conv in (occs := *) opsL _ _ _ => all_goals cbv
    conv in ntOf _ _ => cbv
    conv in rsOf _ _ => cbv
    simp only [RN, Nat.reduceAdd, Nat.reduceSub]
    simp (maxSteps := 2000000) (disch := omega) only [↓RS, RZ, reduceCtorEq, reduceAdd, reduceLT, reduceLeDiff, List.reduceReplicate, reducePow, reduceDiv, reduceMod, reduceEqDiff, Nat.reduceBEq, pgV, hsV, rpsV, ptV, rV]
    first | refine cP (f) ?_ | refine cD (f) ?_
    simp (maxSteps := 2000000) (disch := omega) only [↓RS, RZ, reduceCtorEq, reduceAdd, reduceLT, reduceLeDiff, List.reduceReplicate, reducePow, reduceDiv, reduceMod, reduceEqDiff, Nat.reduceBEq]
    first | refine cP (aw) ?_ | refine cD (aw) ?_
    simp (maxSteps := 2000000) (disch := omega) only [↓RS, RZ, reduceCtorEq, reduceAdd, reduceLT, reduceLeDiff, List.reduceReplicate, reducePow, reduceDiv, reduceMod, reduceEqDiff, Nat.reduceBEq]
  | true =>
  cases b2 with
  | false =>
    refine PC_intro mixed (FnD.of (by kernel_rfl)) ?_
    simp only [lcOf, Go.Proofs.Tryz.func7, Go.Proofs.Tryz.f7, liteF]
    conv in (occs := *) opsL _ _ _ => all_goals cbv
    conv in ntOf _ _ => cbv
    conv in rsOf _ _ => cbv
    simp only [RN, Nat.reduceAdd, Nat.reduceSub]
    simp (maxSteps := 2000000) (disch := omega) only [↓RS, RZ, reduceCtorEq, reduceAdd, reduceLT, reduceLeDiff, List.reduceReplicate, reducePow, reduceDiv, reduceMod, reduceEqDiff, Nat.reduceBEq, pgV, hsV, rpsV, ptV, rV]
    first | refine cP (f) ?_ | refine cD (f) ?_
    simp (maxSteps := 2000000) (disch := omega) only [↓RS, RZ, reduceCtorEq, reduceAdd, reduceLT, reduceLeDiff, List.reduceReplicate, reducePow, reduceDiv, reduceMod, reduceEqDiff, Nat.reduceBEq, pgV, hsV, rpsV, ptV, rV]
    first | refine cP (f') ?_ | refine cD (f') ?_
    simp (maxSteps := 2000000) (disch := omega) only [↓RS, RZ, reduceCtorEq, reduceAdd, reduceLT, reduceLeDiff, List.reduceReplicate, reducePow, reduceDiv, reduceMod, reduceEqDiff, Nat.reduceBEq]
    first | refine cP (aw) ?_ | refine cD (aw) ?_
    simp (maxSteps := 2000000) (disch := omega) only [↓RS, RZ, reduceCtorEq, reduceAdd, reduceLT, reduceLeDiff, List.reduceReplicate, reducePow, reduceDiv, reduceMod, reduceEqDiff, Nat.reduceBEq]
  | true =>
    have hf := hb rfl
    have hf' := hb' rfl
    have hv := hf.f.valid
    have h3 : (hs.map pts).length ≤ 3 := by rw [List.length_map]; exact hf.few
    have hl0 := hf.hlP
    have hR := hp_raw hf.rc hf.rl
    have hV := hp_raw hf.vc hf.vl
    have hQ := hp_raw hf'.vc hf'.vl
    have hk : ht k.val ≤ 30 := by have := hf.kl; rw [hf.kc] at this; exact ht_of_le this (by omega)
    have hrr := hf.rr
    have ek : rV k = qV k.val := by show rV k = rV (can k.val); rw [← hf.kc]
    rw [hf.f.val, ptV_pV hf.rc, ptV_pV hf.vc, ek] at f
    rw [hf.f.val, ptV_pV hf.rc, ptV_pV hf'.vc, ek] at f'
    rw [hf.f.val, ptV_pV hf.rc, ptV_pV hf.vc, ptV_pV hf'.vc, ek]
    clear hb hf hb' hf' ek f1 f2 f3 f4 hr
    generalize hs.map pts = Hs at *
    generalize pts O = L at *
    generalize (⟨r.x.val, r.y.val⟩ : Pt) = R at *
    generalize (⟨v.x.val, v.y.val⟩ : Pt) = W at *
    generalize (⟨q.x.val, q.y.val⟩ : Pt) = Q at *
    generalize k.val = c at *
    have ar := hv.inside_pc Q (by omega)
    have ft0 : Fits (moveA W) L Hs := hl0.fits (le_move hV (by omega)) (by omega)
    have ft1 : Fits (placeA R W) L Hs := hl0.fits (le_place hR hV) (by omega)
    have ft3 : Fits mirA L Hs := hl0.fits le_mir (by omega)
    have ft4 : Fits (shA c) L Hs := hl0.fits (le_sh hk (by omega)) (by omega)
    have w0 := where_img hv h3 (t := moveA W) (par_move W.x W.y) ft0 Q
    have w1 := where_img hv h3 (t := placeA R W) (par_place hrr W.x W.y) ft1 Q
    have w3 := where_img hv h3 (t := mirA) par_mirror ft3 Q
    have w4 := where_img hv h3 (t := shA c) (par_shx c) ft4 Q
    have a0 := Valid.inside_pc (hv.img h3 (t := moveA W) (par_move W.x W.y) ft0) ((moveA W).ap Q) (Nat.le_trans (hp_ap (le_move hV (by omega)) hQ) (by omega))
    have a1 := Valid.inside_pc (hv.img h3 (t := placeA R W) (par_place hrr W.x W.y) ft1) ((placeA R W).ap Q) (Nat.le_trans (hp_ap (le_place hR hV) hQ) (by omega))
    have a3 := Valid.inside_pc (hv.img h3 (t := mirA) par_mirror ft3) (mirA.ap Q) (Nat.le_trans (hp_ap le_mir hQ) (by omega))
    have a4 := Valid.inside_pc (hv.img h3 (t := shA c) (par_shx c) ft4) ((shA c).ap Q) (Nat.le_trans (hp_ap (le_sh hk (by omega)) hQ) (by omega))
    rw [w0, moveA_ap] at a0
    rw [w1, placeA_ap] at a1
    rw [w3, mirA_ap] at a3
    rw [w4, shA_ap] at a4
    clear w0 w1 w3 w4
    have eH : ∀ t : Aff, sortH (Hs.map (imgL t)) = imgH t Hs := fun _ => rfl
    rw [eH] at a0 a1 a3 a4
    have m0 := move_pc hv h3 W (by omega) ft0
    have m1 := place_pc hv h3 R W hrr (by omega) (by omega) ft1
    have m3 := mirror_pc hv h3 ft3
    have m4 := shear_pc hv h3 c (by omega) ft4
    have rp := hp_rot R Q
    have hx := hp_x Q
    have hy := hp_y Q
    have mk := ht_mul c Q.y
    have d1 := apply_pc R Q (by omega) (by omega) hrr
    have d2 := vadd_pc Q W (by omega) (by omega)
    have d3 := vadd_pc (rotP R Q) W (by omega) (by omega)
    have d4 := negQ_pc Q.x (by omega)
    have d5 := mulQ_pc c Q.y (by omega) (by omega)
    have d6 := addQ_pc Q.x (c * Q.y) (by omega) (by omega)
    have d7 := vscale_pc Q c (by omega) (by omega)
    have sg := signQ_pc c (by omega)
    generalize hz : whereS L Hs Q = z at *
    refine PC_intro mixed (FnD.of (by kernel_rfl)) ?_
    simp only [lcOf, Go.Proofs.Tryz.func7, Go.Proofs.Tryz.f7, liteF]
    conv in (occs := *) opsL _ _ _ => all_goals cbv
    conv in ntOf _ _ => cbv
    conv in rsOf _ _ => cbv
    simp only [RN, Nat.reduceAdd, Nat.reduceSub]
    simp (maxSteps := 2000000) (disch := omega) only [↓RS, RZ, reduceCtorEq, reduceAdd, reduceLT, reduceLeDiff, List.reduceReplicate, reducePow, reduceDiv, reduceMod, reduceEqDiff, Nat.reduceBEq, cgV, psV, pV, ptV, qV, rV]
    first | refine cP (f) ?_ | refine cD (f) ?_
    simp (maxSteps := 2000000) (disch := omega) only [↓RS, RZ, reduceCtorEq, reduceAdd, reduceLT, reduceLeDiff, List.reduceReplicate, reducePow, reduceDiv, reduceMod, reduceEqDiff, Nat.reduceBEq, cgV, psV, pV, ptV, qV, rV]
    first | refine cP (f') ?_ | refine cD (f') ?_
    simp (maxSteps := 2000000) (disch := omega) only [↓RS, RZ, reduceCtorEq, reduceAdd, reduceLT, reduceLeDiff, List.reduceReplicate, reducePow, reduceDiv, reduceMod, reduceEqDiff, Nat.reduceBEq, cgV, psV, pV, ptV]
    first | refine cP (ar) ?_ | refine cD (ar) ?_
    simp (maxSteps := 2000000) (disch := omega) only [↓RS, RZ, reduceCtorEq, reduceAdd, reduceLT, reduceLeDiff, List.reduceReplicate, reducePow, reduceDiv, reduceMod, reduceEqDiff, Nat.reduceBEq, cgV, psV, pV, ptV]
    first | refine cP (m0) ?_ | refine cD (m0) ?_
    simp (maxSteps := 2000000) (disch := omega) only [↓RS, RZ, reduceCtorEq, reduceAdd, reduceLT, reduceLeDiff, List.reduceReplicate, reducePow, reduceDiv, reduceMod, reduceEqDiff, Nat.reduceBEq, cgV, psV, pV, ptV]
    first | refine cP (d1) ?_ | refine cD (d1) ?_
    simp (maxSteps := 2000000) (disch := omega) only [↓RS, RZ, reduceCtorEq, reduceAdd, reduceLT, reduceLeDiff, List.reduceReplicate, reducePow, reduceDiv, reduceMod, reduceEqDiff, Nat.reduceBEq, cgV, psV, pV, ptV]
    first | refine cP (m1) ?_ | refine cD (m1) ?_
    simp (maxSteps := 2000000) (disch := omega) only [↓RS, RZ, reduceCtorEq, reduceAdd, reduceLT, reduceLeDiff, List.reduceReplicate, reducePow, reduceDiv, reduceMod, reduceEqDiff, Nat.reduceBEq, cgV, psV, pV, ptV]
    first | refine cP (m3) ?_ | refine cD (m3) ?_
    simp (maxSteps := 2000000) (disch := omega) only [↓RS, RZ, reduceCtorEq, reduceAdd, reduceLT, reduceLeDiff, List.reduceReplicate, reducePow, reduceDiv, reduceMod, reduceEqDiff, Nat.reduceBEq, cgV, psV, pV, ptV, qV, rV]
    first | refine cP (m4) ?_ | refine cD (m4) ?_
    simp (maxSteps := 2000000) (disch := omega) only [↓RS, RZ, reduceCtorEq, reduceAdd, reduceLT, reduceLeDiff, List.reduceReplicate, reducePow, reduceDiv, reduceMod, reduceEqDiff, Nat.reduceBEq, cgV, psV, pV, ptV, qV, rV]
    first | refine cP (d2) ?_ | refine cD (d2) ?_
    simp (maxSteps := 2000000) (disch := omega) only [↓RS, RZ, reduceCtorEq, reduceAdd, reduceLT, reduceLeDiff, List.reduceReplicate, reducePow, reduceDiv, reduceMod, reduceEqDiff, Nat.reduceBEq, cgV, psV, pV, ptV, qV, rV]
    refine callD_qc (.prim (.bool true)) none ⟨rfl, trivial⟩ (sameP_qc a0 mem_touch rfl) ?_
    simp (maxSteps := 2000000) (disch := omega) only [↓RS, RZ, reduceCtorEq, reduceAdd, reduceLT, reduceLeDiff, List.reduceReplicate, reducePow, reduceDiv, reduceMod, reduceEqDiff, Nat.reduceBEq, setO, cgV, psV, pV, ptV, qV, rV]
    first | refine cP (d3) ?_ | refine cD (d3) ?_
    simp (maxSteps := 2000000) (disch := omega) only [↓RS, RZ, reduceCtorEq, reduceAdd, reduceLT, reduceLeDiff, List.reduceReplicate, reducePow, reduceDiv, reduceMod, reduceEqDiff, Nat.reduceBEq, cgV, psV, pV, ptV, qV, rV]
    refine callD_qc (.prim (.bool true)) none ⟨rfl, trivial⟩ (sameP_qc a1 mem_touch rfl) ?_
    simp (maxSteps := 2000000) (disch := omega) only [↓RS, RZ, reduceCtorEq, reduceAdd, reduceLT, reduceLeDiff, List.reduceReplicate, reducePow, reduceDiv, reduceMod, reduceEqDiff, Nat.reduceBEq, setO, cgV, psV, pV, ptV, qV, rV]
    first | refine cP (d4) ?_ | refine cD (d4) ?_
    simp (maxSteps := 2000000) (disch := omega) only [↓RS, RZ, reduceCtorEq, reduceAdd, reduceLT, reduceLeDiff, List.reduceReplicate, reducePow, reduceDiv, reduceMod, reduceEqDiff, Nat.reduceBEq, cgV, psV, pV, ptV, qV, rV]
    refine callD_qc (.prim (.bool true)) none ⟨rfl, trivial⟩ (sameP_qc a3 mem_touch rfl) ?_
    simp (maxSteps := 2000000) (disch := omega) only [↓RS, RZ, reduceCtorEq, reduceAdd, reduceLT, reduceLeDiff, List.reduceReplicate, reducePow, reduceDiv, reduceMod, reduceEqDiff, Nat.reduceBEq, setO, cgV, psV, pV, ptV, qV, rV]
    first | refine cP (d5) ?_ | refine cD (d5) ?_
    simp (maxSteps := 2000000) (disch := omega) only [↓RS, RZ, reduceCtorEq, reduceAdd, reduceLT, reduceLeDiff, List.reduceReplicate, reducePow, reduceDiv, reduceMod, reduceEqDiff, Nat.reduceBEq, cgV, psV, pV, ptV, qV, rV]
    first | refine cP (d6) ?_ | refine cD (d6) ?_
    simp (maxSteps := 2000000) (disch := omega) only [↓RS, RZ, reduceCtorEq, reduceAdd, reduceLT, reduceLeDiff, List.reduceReplicate, reducePow, reduceDiv, reduceMod, reduceEqDiff, Nat.reduceBEq, cgV, psV, pV, ptV, qV, rV]
    refine call_sc (sameP_sc a4 rfl ?_)
    intro H1 hE1
    have e0 : get H1 0 = some (.row 2 true [[.lst 6 (L.map pc), .lst 1 ((Hs.map psV).map fun v => [v])]]) := hE1.get rfl
    have e3 : get H1 3 = some (.row 3 true [qc c]) := hE1.get rfl
    have e4 : get H1 4 = some (.row 6 true [pc Q]) := hE1.get rfl
    have e5 : get H1 5 = some (.row 1 true [[.prim (.int .i64 (z))]]) := hE1.get rfl
    clear hE1 a0 a1 a3 a4 m0 m1 m3 m4
    have j3 : ∀ x, get (H1 ++ [x]) 3 = some (.row 3 true [qc c]) := fun x => get_app e3
    have j4 : ∀ x, get (H1 ++ [x]) 4 = some (.row 6 true [pc Q]) := fun x => get_app e4
    have j5 : ∀ x, get (H1 ++ [x]) 5 = some (.row 1 true [[.prim (.int .i64 (z))]]) := fun x => get_app e5
    by_cases hc : c = 0
    · subst hc
      rw [show cmpQ 0 0 = 0 from cmpQ_zero.2 rfl] at sg
      have p5 := scale0_pc hv
      simp only [qc] at e3 j3
      simp (maxSteps := 2000000) (disch := omega) only [↓RS, RZ, reduceCtorEq, reduceAdd, reduceLT, reduceLeDiff, List.reduceReplicate, reducePow, reduceDiv, reduceMod, reduceEqDiff, Nat.reduceBEq, e0, e3, psV]
      first | refine cP (p5) ?_ | refine cD (p5) ?_
      simp (maxSteps := 2000000) (disch := omega) only [↓RS, RZ, reduceCtorEq, reduceAdd, reduceLT, reduceLeDiff, List.reduceReplicate, reducePow, reduceDiv, reduceMod, reduceEqDiff, Nat.reduceBEq, j3, set_app_len, get_app_len]
      first | refine cP (sg) ?_ | refine cD (sg) ?_
      simp (maxSteps := 2000000) (disch := omega) only [↓RS, RZ, reduceCtorEq, reduceAdd, reduceLT, reduceLeDiff, List.reduceReplicate, reducePow, reduceDiv, reduceMod, reduceEqDiff, Nat.reduceBEq, set_app_len, get_app_len]
      first | refine cP (aw) ?_ | refine cD (aw) ?_
      simp (maxSteps := 2000000) (disch := omega) only [↓RS, RZ, reduceCtorEq, reduceAdd, reduceLT, reduceLeDiff, List.reduceReplicate, reducePow, reduceDiv, reduceMod, reduceEqDiff, Nat.reduceBEq]
    · have hne : cmpQ c 0 ≠ 0 := fun e => hc (cmpQ_zero.1 e)
      have pr := par_scale hc
      have ft5 : Fits (scaleA c) L Hs := hl0.fits (le_scale hk (by omega)) (by omega)
      have p5 := scale_pc hv h3 c (by omega) hc ft5
      have w5 := where_img hv h3 (t := scaleA c) pr ft5 Q
      have a5 := Valid.inside_pc (hv.img h3 (t := scaleA c) pr ft5) ((scaleA c).ap Q) (Nat.le_trans (hp_ap (le_scale hk (by omega)) hQ) (by omega))
      rw [w5, scaleA_ap, eH, hz] at a5
      generalize cmpQ c 0 = y at *
      simp only [qc] at e3 j3
      simp only [pc] at j4
      simp (maxSteps := 2000000) (disch := omega) only [↓RS, RZ, reduceCtorEq, reduceAdd, reduceLT, reduceLeDiff, List.reduceReplicate, reducePow, reduceDiv, reduceMod, reduceEqDiff, Nat.reduceBEq, e0, e3, psV]
      first | refine cP (p5) ?_ | refine cD (p5) ?_
      simp (maxSteps := 2000000) (disch := omega) only [↓RS, RZ, reduceCtorEq, reduceAdd, reduceLT, reduceLeDiff, List.reduceReplicate, reducePow, reduceDiv, reduceMod, reduceEqDiff, Nat.reduceBEq, cgV, psV, j3, set_app_len, get_app_len]
      first | refine cP (sg) ?_ | refine cD (sg) ?_
      simp (maxSteps := 2000000) (disch := omega) only [↓RS, RZ, reduceCtorEq, reduceAdd, reduceLT, reduceLeDiff, List.reduceReplicate, reducePow, reduceDiv, reduceMod, reduceEqDiff, Nat.reduceBEq, psV, j3, j4, set_app_len, get_app_len]
      first | refine cP (d7) ?_ | refine cD (d7) ?_
      simp (maxSteps := 2000000) (disch := omega) only [↓RS, RZ, reduceCtorEq, reduceAdd, reduceLT, reduceLeDiff, List.reduceReplicate, reducePow, reduceDiv, reduceMod, reduceEqDiff, Nat.reduceBEq, pV, ptV]
      refine call_sc (sameP_sc a5 (j5 _) ?_)
      intro H2 _
      simp (maxSteps := 2000000) (disch := omega) only [↓RS, RZ, reduceCtorEq, reduceAdd, reduceLT, reduceLeDiff, List.reduceReplicate, reducePow, reduceDiv, reduceMod, reduceEqDiff, Nat.reduceBEq]
      first | refine cP (aw) ?_ | refine cD (aw) ?_
      simp (maxSteps := 2000000) (disch := omega) only [↓RS, RZ, reduceCtorEq, reduceAdd, reduceLT, reduceLeDiff, List.reduceReplicate, reducePow, reduceDiv, reduceMod, reduceEqDiff, Nat.reduceBEq]
end Go.Av
