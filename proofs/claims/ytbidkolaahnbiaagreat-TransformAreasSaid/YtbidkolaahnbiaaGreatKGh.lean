/- Helping texts: Gh. -/
import Derived.Test.YtbidkolaahnbiaaGreatKGf
set_option linter.unusedSimpArgs false
set_option linter.unusedVariables false
set_option maxRecDepth 100000
set_option maxHeartbeats 16000000
open Nat (reduceAdd reduceLT reduceLeDiff reducePow reduceDiv reduceMod reduceEqDiff)
namespace Go.Av
open Go.RowKit
open Go.Proofs.Tryz (prog)
theorem sameA_sc {X : List Pt} {Y : List (List Pt)} {a : Rat} (ar : PC prog 34 [cgV X Y] (.tup [qV a, .prim (.int .i64 (0))])) {b : Nat} {H : Hp} {K : V → Hp → Prop} (hb : get H b = some (.row 3 true [qc a])) (hK : ∀ H', Ext H H' → K (.prim (.bool true)) H') :
    SC prog 35 [cgV X Y, .prim (.int .i64 (0)), .ptr b 0 0] H K := by
  have hb2 : ∀ x y, get (H ++ [x] ++ [y]) b = some (.row 3 true [qc a]) := fun x y => get_app (get_app hb)
  have e := eqA_q a a
  rw [decide_eq_true rfl] at e
  simp only [qc] at hb2
  refine SC_intro mixed (FnD.of (by kernel_rfl)) ?_
  conv in lcOf _ _ => cbv
  conv in ntOf _ _ => cbv
  conv in rsOf _ _ => cbv
  simp only [RN, Nat.reduceAdd, Nat.reduceSub]
  simp (maxSteps := 2000000) (disch := omega) only [↓RS, RZ, reduceCtorEq, reduceAdd, reduceLT, reduceLeDiff, List.reduceReplicate, reducePow, reduceDiv, reduceMod, reduceEqDiff, Nat.reduceBEq, cgV, psV, get_app_len]
  first | refine cP (ar) ?_ | refine cD (ar) ?_
  simp (maxSteps := 2000000) (disch := omega) only [↓RS, RZ, reduceCtorEq, reduceAdd, reduceLT, reduceLeDiff, List.reduceReplicate, reducePow, reduceDiv, reduceMod, reduceEqDiff, Nat.reduceBEq, qV, rV, hb2, get_app_len, set_app_len, e]
  exact hK _ ((Ext.app _).trans (Ext.app _))

theorem transformAreas_pc (O : List Rp) (hs : List (List Rp)) (r v : Rp) (k : Rt) (hr : Read O hs) (f1 : r.fit) (f2 : v.fit) (f3 : k.fit) :
    PC prog 5 [pgV O hs, ptV r.x r.y, ptV v.x v.y, rV k] (.prim (.bool true)) := by
  obtain ⟨b, f, hb⟩ := fineT_pc O hs r v k hr f1 f2 f3
  have aw := awake14_pc
  cases b with
  | false =>
    refine PC_intro mixed (FnD.of (by kernel_rfl)) ?_
    conv in lcOf _ _ => cbv
    conv in ntOf _ _ => cbv
    conv in rsOf _ _ => cbv
    simp only [RN, Nat.reduceAdd, Nat.reduceSub]
    simp (maxSteps := 2000000) (disch := omega) only [↓RS, RZ, reduceCtorEq, reduceAdd, reduceLT, reduceLeDiff, List.reduceReplicate, reducePow, reduceDiv, reduceMod, reduceEqDiff, Nat.reduceBEq, pgV, hsV, rpsV, ptV, rV]
    first | refine cP (f) ?_ | refine cD (f) ?_
    simp (maxSteps := 2000000) (disch := omega) only [↓RS, RZ, reduceCtorEq, reduceAdd, reduceLT, reduceLeDiff, List.reduceReplicate, reducePow, reduceDiv, reduceMod, reduceEqDiff, Nat.reduceBEq]
    first | refine cP (aw) ?_ | refine cD (aw) ?_
    simp (maxSteps := 2000000) (disch := omega) only [↓RS, RZ, reduceCtorEq, reduceAdd, reduceLT, reduceLeDiff, List.reduceReplicate, reducePow, reduceDiv, reduceMod, reduceEqDiff, Nat.reduceBEq]
  | true =>
    have hf := hb rfl
    have hv := hf.f.valid
    have h3 : (hs.map pts).length ≤ 3 := by rw [List.length_map]; exact hf.few
    have hl0 := hf.hlP
    have hR := hp_raw hf.rc hf.rl
    have hV := hp_raw hf.vc hf.vl
    have hk : ht k.val ≤ 30 := by have := hf.kl; rw [hf.kc] at this; exact ht_of_le this (by omega)
    have hrr := hf.rr
    have ek : rV k = qV k.val := by show rV k = rV (can k.val); rw [← hf.kc]
    rw [hf.f.val, ptV_pV hf.rc, ptV_pV hf.vc, ek] at f ⊢
    clear hb hf ek f1 f2 f3 hr
    generalize hs.map pts = Hs at *
    generalize pts O = L at *
    generalize (⟨r.x.val, r.y.val⟩ : Pt) = R at *
    generalize (⟨v.x.val, v.y.val⟩ : Pt) = W at *
    generalize k.val = c at *
    have ar := hv.area_pc
    have ft1 : Fits (placeA R W) L Hs := hl0.fits (le_place hR hV) (by omega)
    have ft2 : Fits (scaleA (-1)) L Hs := hl0.fits (le_scale ht_mone (Nat.le_refl _)) (by omega)
    have ft3 : Fits mirA L Hs := hl0.fits le_mir (by omega)
    have ft4 : Fits (shA c) L Hs := hl0.fits (le_sh hk (by omega)) (by omega)
    have a1 := (hv.img h3 (par_place hrr W.x W.y) ft1).area_pc
    have a2 := (hv.img h3 (t := scaleA (-1)) (par_scale (k := -1) (by decide +kernel)) ft2).area_pc
    have a3 := (hv.img h3 (t := mirA) par_mirror ft3).area_pc
    have a4 := (hv.img h3 (t := shA c) (par_shx c) ft4).area_pc
    have s1 := area_same hv h3 (t := placeA R W) (par_place hrr W.x W.y) ft1 (.inl (det_place hrr W))
    have s2 := area_same hv h3 (t := scaleA (-1)) (par_scale (by decide +kernel)) ft2 (.inl det_flip)
    have s3 := area_same hv h3 (t := mirA) par_mirror ft3 (.inr det_mir)
    have s4 := area_same hv h3 (t := shA c) (par_shx c) ft4 (.inl (det_sh c))
    have a1 : PC prog 34 [cgV (imgL (placeA R W) L) (imgH (placeA R W) Hs)] (.tup [qV (areaPTo L Hs Hs.length), .prim (.int .i64 (0))]) := by rw [← s1]; exact a1
    have a2 : PC prog 34 [cgV (imgL (scaleA (-1)) L) (imgH (scaleA (-1)) Hs)] (.tup [qV (areaPTo L Hs Hs.length), .prim (.int .i64 (0))]) := by rw [← s2]; exact a2
    have a3 : PC prog 34 [cgV (imgL mirA L) (imgH mirA Hs)] (.tup [qV (areaPTo L Hs Hs.length), .prim (.int .i64 (0))]) := by rw [← s3]; exact a3
    have a4 : PC prog 34 [cgV (imgL (shA c) L) (imgH (shA c) Hs)] (.tup [qV (areaPTo L Hs Hs.length), .prim (.int .i64 (0))]) := by rw [← s4]; exact a4
    clear s1 s2 s3 s4
    have p1 := place_pc hv h3 R W hrr (by omega) (by omega) ft1
    have p2 := flip_pc hv h3 ft2
    have p3 := mirror_pc hv h3 ft3
    have p4 := shear_pc hv h3 c (by omega) ft4
    have tA := ht_areaP hv
    have sg := signQ_pc c (by omega)
    refine PC_intro mixed (FnD.of (by kernel_rfl)) ?_
    conv in lcOf _ _ => cbv
    conv in ntOf _ _ => cbv
    conv in rsOf _ _ => cbv
    simp only [RN, Nat.reduceAdd, Nat.reduceSub]
    simp (maxSteps := 2000000) (disch := omega) only [↓RS, RZ, reduceCtorEq, reduceAdd, reduceLT, reduceLeDiff, List.reduceReplicate, reducePow, reduceDiv, reduceMod, reduceEqDiff, Nat.reduceBEq, cgV, psV, pV, ptV, qV, rV]
    first | refine cP (f) ?_ | refine cD (f) ?_
    simp (maxSteps := 2000000) (disch := omega) only [↓RS, RZ, reduceCtorEq, reduceAdd, reduceLT, reduceLeDiff, List.reduceReplicate, reducePow, reduceDiv, reduceMod, reduceEqDiff, Nat.reduceBEq, psV]
    first | refine cP (ar) ?_ | refine cD (ar) ?_
    simp (maxSteps := 2000000) (disch := omega) only [↓RS, RZ, reduceCtorEq, reduceAdd, reduceLT, reduceLeDiff, List.reduceReplicate, reducePow, reduceDiv, reduceMod, reduceEqDiff, Nat.reduceBEq, qV, rV, psV]
    first | refine cP (p1) ?_ | refine cD (p1) ?_
    simp (maxSteps := 2000000) (disch := omega) only [↓RS, RZ, reduceCtorEq, reduceAdd, reduceLT, reduceLeDiff, List.reduceReplicate, reducePow, reduceDiv, reduceMod, reduceEqDiff, Nat.reduceBEq, cgV, psV]
    refine call_sc (sameA_sc a1 rfl ?_)
    intro H1 hE1
    have e0 : get H1 0 = some (.row 2 true [[.lst 6 (L.map pc), .lst 1 ((Hs.map psV).map fun v => [v])]]) := hE1.get rfl
    have e3 : get H1 3 = some (.row 3 true [qc c]) := hE1.get rfl
    have e4 : get H1 4 = some (.row 3 true [qc (areaPTo L Hs Hs.length)]) := hE1.get rfl
    clear hE1
    simp (maxSteps := 2000000) (disch := omega) only [↓RS, RZ, reduceCtorEq, reduceAdd, reduceLT, reduceLeDiff, List.reduceReplicate, reducePow, reduceDiv, reduceMod, reduceEqDiff, Nat.reduceBEq, e0, psV]
    first | refine cP (p2) ?_ | refine cD (p2) ?_
    simp (maxSteps := 2000000) (disch := omega) only [↓RS, RZ, reduceCtorEq, reduceAdd, reduceLT, reduceLeDiff, List.reduceReplicate, reducePow, reduceDiv, reduceMod, reduceEqDiff, Nat.reduceBEq, cgV, psV]
    refine call_sc (sameA_sc a2 e4 ?_)
    intro H2 hE2
    replace e0 := hE2.get e0
    replace e3 := hE2.get e3
    replace e4 := hE2.get e4
    clear hE2
    simp (maxSteps := 2000000) (disch := omega) only [↓RS, RZ, reduceCtorEq, reduceAdd, reduceLT, reduceLeDiff, List.reduceReplicate, reducePow, reduceDiv, reduceMod, reduceEqDiff, Nat.reduceBEq, e0, psV]
    first | refine cP (p3) ?_ | refine cD (p3) ?_
    simp (maxSteps := 2000000) (disch := omega) only [↓RS, RZ, reduceCtorEq, reduceAdd, reduceLT, reduceLeDiff, List.reduceReplicate, reducePow, reduceDiv, reduceMod, reduceEqDiff, Nat.reduceBEq, cgV, psV]
    refine call_sc (sameA_sc a3 e4 ?_)
    intro H3 hE3
    replace e0 := hE3.get e0
    replace e3 := hE3.get e3
    replace e4 := hE3.get e4
    clear hE3
    simp (maxSteps := 2000000) (disch := omega) only [↓RS, RZ, reduceCtorEq, reduceAdd, reduceLT, reduceLeDiff, List.reduceReplicate, reducePow, reduceDiv, reduceMod, reduceEqDiff, Nat.reduceBEq, e0, psV, e3, qc]
    first | refine cP (p4) ?_ | refine cD (p4) ?_
    simp (maxSteps := 2000000) (disch := omega) only [↓RS, RZ, reduceCtorEq, reduceAdd, reduceLT, reduceLeDiff, List.reduceReplicate, reducePow, reduceDiv, reduceMod, reduceEqDiff, Nat.reduceBEq, cgV, psV]
    refine call_sc (sameA_sc a4 e4 ?_)
    intro H4 hE4
    replace e0 := hE4.get e0
    replace e3 := hE4.get e3
    replace e4 := hE4.get e4
    clear hE4 p1 p2 p3 p4 a1 a2 a3 a4
    by_cases hc : c = 0
    · subst hc
      rw [show cmpQ 0 0 = 0 from cmpQ_zero.2 rfl] at sg
      have p5 := scale0_pc hv
      have k3 : ∀ x, get (H4 ++ [x]) 3 = some (.row 3 true [qc 0]) := fun x => get_app e3
      simp (maxSteps := 2000000) (disch := omega) only [↓RS, RZ, reduceCtorEq, reduceAdd, reduceLT, reduceLeDiff, List.reduceReplicate, reducePow, reduceDiv, reduceMod, reduceEqDiff, Nat.reduceBEq, e0, psV, e3, qc]
      first | refine cP (p5) ?_ | refine cD (p5) ?_
      simp (maxSteps := 2000000) (disch := omega) only [↓RS, RZ, reduceCtorEq, reduceAdd, reduceLT, reduceLeDiff, List.reduceReplicate, reducePow, reduceDiv, reduceMod, reduceEqDiff, Nat.reduceBEq, k3, qc, set_app_len, get_app_len]
      first | refine cP (sg) ?_ | refine cD (sg) ?_
      simp (maxSteps := 2000000) (disch := omega) only [↓RS, RZ, reduceCtorEq, reduceAdd, reduceLT, reduceLeDiff, List.reduceReplicate, reducePow, reduceDiv, reduceMod, reduceEqDiff, Nat.reduceBEq]
      first | refine cP (aw) ?_ | refine cD (aw) ?_
      simp (maxSteps := 2000000) (disch := omega) only [↓RS, RZ, reduceCtorEq, reduceAdd, reduceLT, reduceLeDiff, List.reduceReplicate, reducePow, reduceDiv, reduceMod, reduceEqDiff, Nat.reduceBEq]
    · have hne : cmpQ c 0 ≠ 0 := fun e => hc (cmpQ_zero.1 e)
      have pr := par_scale hc
      have ft5 : Fits (scaleA c) L Hs := hl0.fits (le_scale hk (by omega)) (by omega)
      have p5 := scale_pc hv h3 c (by omega) hc ft5
      have v5 := hv.img h3 (t := scaleA c) pr ft5
      have a5 := Valid.area_pc v5
      have s5 := areaP_img hv h3 (t := scaleA c) pr ft5
      have hd : (scaleA c).det = c * c := by unfold scaleA Aff.det; simp only; grind
      have hn : ¬ c * c < 0 := Rat.not_lt.2 (by
        rcases Rat.le_total (a := 0) (b := c) with h | h
        · exact Rat.mul_nonneg h h
        · have := Rat.mul_nonneg (show 0 ≤ -c by grind) (show 0 ≤ -c by grind); grind)
      rw [hd, if_neg hn] at s5
      rw [s5] at a5
      rw [show sortH (Hs.map (imgL (scaleA c))) = imgH (scaleA c) Hs from rfl] at a5
      have m1 := mulQ_pc c c (by omega) (by omega)
      have := ht_mul c c
      have m2 := mulQ_pc (areaPTo L Hs Hs.length) (c * c) (by omega) (by omega)
      rw [Rat.mul_comm] at m2
      rw [Rat.mul_comm] at a5
      have e := eqA_q (areaPTo L Hs Hs.length * (c * c)) (areaPTo L Hs Hs.length * (c * c))
      rw [decide_eq_true rfl] at e
      have k3 : ∀ x, get (H4 ++ [x]) 3 = some (.row 3 true [qc c]) := fun x => get_app e3
      have j3 : ∀ x y, get (H4 ++ [x] ++ [y]) 3 = some (.row 3 true [qc c]) := fun x y => get_app (get_app e3)
      have j4 : ∀ x y, get (H4 ++ [x] ++ [y]) 4 = some (.row 3 true [qc (areaPTo L Hs Hs.length)]) := fun x y => get_app (get_app e4)
      generalize cmpQ c 0 = z at *
      simp only [qc] at k3 j3 j4 e3 e
      simp (maxSteps := 2000000) (disch := omega) only [↓RS, RZ, reduceCtorEq, reduceAdd, reduceLT, reduceLeDiff, List.reduceReplicate, reducePow, reduceDiv, reduceMod, reduceEqDiff, Nat.reduceBEq, e0, psV, e3]
      first | refine cP (p5) ?_ | refine cD (p5) ?_
      simp (maxSteps := 2000000) (disch := omega) only [↓RS, RZ, reduceCtorEq, reduceAdd, reduceLT, reduceLeDiff, List.reduceReplicate, reducePow, reduceDiv, reduceMod, reduceEqDiff, Nat.reduceBEq, cgV, psV, k3, qc, set_app_len, get_app_len]
      first | refine cP (sg) ?_ | refine cD (sg) ?_
      simp (maxSteps := 2000000) (disch := omega) only [↓RS, RZ, reduceCtorEq, reduceAdd, reduceLT, reduceLeDiff, List.reduceReplicate, reducePow, reduceDiv, reduceMod, reduceEqDiff, Nat.reduceBEq, psV, set_app_len, get_app_len]
      first | refine cP (a5) ?_ | refine cD (a5) ?_
      simp (maxSteps := 2000000) (disch := omega) only [↓RS, RZ, reduceCtorEq, reduceAdd, reduceLT, reduceLeDiff, List.reduceReplicate, reducePow, reduceDiv, reduceMod, reduceEqDiff, Nat.reduceBEq, qV, rV, j3, j4, set_app_len, get_app_len]
      first | refine cP (m1) ?_ | refine cD (m1) ?_
      simp (maxSteps := 2000000) (disch := omega) only [↓RS, RZ, reduceCtorEq, reduceAdd, reduceLT, reduceLeDiff, List.reduceReplicate, reducePow, reduceDiv, reduceMod, reduceEqDiff, Nat.reduceBEq, qV, rV]
      first | refine cP (m2) ?_ | refine cD (m2) ?_
      simp (maxSteps := 2000000) (disch := omega) only [↓RS, RZ, reduceCtorEq, reduceAdd, reduceLT, reduceLeDiff, List.reduceReplicate, reducePow, reduceDiv, reduceMod, reduceEqDiff, Nat.reduceBEq, qV, rV, e]
      first | refine cP (aw) ?_ | refine cD (aw) ?_
      simp (maxSteps := 2000000) (disch := omega) only [↓RS, RZ, reduceCtorEq, reduceAdd, reduceLT, reduceLeDiff, List.reduceReplicate, reducePow, reduceDiv, reduceMod, reduceEqDiff, Nat.reduceBEq]
end Go.Av
