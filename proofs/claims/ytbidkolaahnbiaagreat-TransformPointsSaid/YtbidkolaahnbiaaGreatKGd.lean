/- Helping texts: Gd. -/
import Derived.Test.YtbidkolaahnbiaaGreatKGb
import Derived.Test.YtbidkolaahnbiaaGreatKGa
set_option linter.unusedSimpArgs false
set_option linter.unusedVariables false
set_option maxRecDepth 100000
set_option maxHeartbeats 16000000
open Nat (reduceAdd reduceLT reduceLeDiff reducePow reduceDiv reduceMod reduceEqDiff)
namespace Go.Av
open Go.RowKit
open Go.Proofs.Tryz (prog)
def moveA (v : Pt) : Aff := ⟨1, 0, 0, 1, v.x, v.y⟩
def placeA (r v : Pt) : Aff := ⟨r.x, -r.y, r.y, r.x, v.x, v.y⟩
def mirA : Aff := ⟨-1, 0, 0, 1, 0, 0⟩
def scaleA (k : Rat) : Aff := ⟨k, 0, 0, k, 0, 0⟩
def shA (k : Rat) : Aff := ⟨1, k, 0, 1, 0, 0⟩
theorem moveA_ap (v q : Pt) : (moveA v).ap q = q.add v := by refine Pt.ext ?_ ?_ <;> (unfold moveA Aff.ap Pt.add; simp only; try grind)
theorem placeA_ap (r v q : Pt) : (placeA r v).ap q = (rotP r q).add v := by refine Pt.ext ?_ ?_ <;> (unfold placeA Aff.ap Pt.add rotP; simp only; try grind)
theorem mirA_ap (q : Pt) : mirA.ap q = ⟨-q.x, q.y⟩ := by refine Pt.ext ?_ ?_ <;> (unfold mirA Aff.ap; simp only; try grind)
theorem scaleA_ap (k : Rat) (q : Pt) : (scaleA k).ap q = q.smul k := by refine Pt.ext ?_ ?_ <;> (unfold scaleA Aff.ap Pt.smul; simp only; try grind)
theorem shA_ap (k : Rat) (q : Pt) : (shA k).ap q = ⟨q.x + k * q.y, q.y⟩ := by refine Pt.ext ?_ ?_ <;> (unfold shA Aff.ap; simp only; try grind)
theorem vcheck0_pc (v : Pt) (h : hp v ≤ 2 ^ 20) : PC prog 57 [pV v] (.prim (.int .i64 (0))) := by
  have h1 := hp_x v
  have h2 := hp_y v
  have c := vcheck_pc (can v.x) (can v.y) (can_le (by omega)) (can_le (by omega))
  rwa [if_pos ⟨by rw [can_val], by rw [can_val]⟩] at c
theorem rcheck0_pc (k : Rat) (h : ht k ≤ 2 ^ 20) : PC prog 93 [qV k] (.prim (.int .i64 (0))) := by
  have c := checkR2_pc (can k) (can_le (by omega))
  rwa [if_pos (by rw [can_val])] at c

theorem move1_sc (v q : Pt) (h1 : hp v ≤ 2 ^ 20) (h2 : hp q ≤ 2 ^ 20) {b : Nat} {H : Hp} {K : V → Hp → Prop} (hb : get H b = some (.row 6 true [pc v])) (hK : ∀ H', Ext H H' → K (pV ((moveA v).ap q)) H') : SC prog 82 [pV q, .ptr b 0 0] H K := by
  have hb2 : ∀ k l, get (H ++ [k] ++ [l]) b = some (.row 6 true [pc v]) := fun k l => get_app (get_app hb)
  have c := vadd_pc q v (by omega) (by omega)
  have fin := hK (H ++ [some (.row 6 true [pc q])] ++ [some (.row 6 true [pc (q.add v)])]) ((Ext.app _).trans (Ext.app _))
  rw [moveA_ap] at fin
  simp only [pV, ptV, pc] at fin
  refine SC_intro mixed (FnD.of (by kernel_rfl)) ?_
  conv in lcOf _ _ => cbv
  conv in ntOf _ _ => cbv
  conv in rsOf _ _ => cbv
  simp only [RN, Nat.reduceAdd, Nat.reduceSub]
  simp (maxSteps := 2000000) (disch := omega) only [↓RS, RZ, reduceCtorEq, reduceAdd, reduceLT, reduceLeDiff, List.reduceReplicate, reducePow, reduceDiv, reduceMod, reduceEqDiff, Nat.reduceBEq, pV, ptV, hb2, pc, get_app_len2, set_app_len]
  first | refine cP (c) ?_ | refine cD (c) ?_
  simp (maxSteps := 2000000) (disch := omega) only [↓RS, RZ, reduceCtorEq, reduceAdd, reduceLT, reduceLeDiff, List.reduceReplicate, reducePow, reduceDiv, reduceMod, reduceEqDiff, Nat.reduceBEq, pV, ptV, hb2, pc, get_app_len2, set_app_len]
  exact fin
theorem scale1_sc (k : Rat) (q : Pt) (h1 : ht k ≤ 2 ^ 20) (h2 : hp q ≤ 2 ^ 20) {b : Nat} {H : Hp} {K : V → Hp → Prop} (hb : get H b = some (.row 3 true [qc k])) (hK : ∀ H', Ext H H' → K (pV ((scaleA k).ap q)) H') : SC prog 94 [pV q, .ptr b 0 0] H K := by
  have hb2 : ∀ x l, get (H ++ [x] ++ [l]) b = some (.row 3 true [qc k]) := fun x l => get_app (get_app hb)
  have c := vscale_pc q k (by omega) (by omega)
  have fin := hK (H ++ [some (.row 6 true [pc q])] ++ [some (.row 6 true [pc (q.smul k)])]) ((Ext.app _).trans (Ext.app _))
  rw [scaleA_ap] at fin
  simp only [pV, ptV, pc] at fin
  refine SC_intro mixed (FnD.of (by kernel_rfl)) ?_
  conv in lcOf _ _ => cbv
  conv in ntOf _ _ => cbv
  conv in rsOf _ _ => cbv
  simp only [RN, Nat.reduceAdd, Nat.reduceSub]
  simp (maxSteps := 2000000) (disch := omega) only [↓RS, RZ, reduceCtorEq, reduceAdd, reduceLT, reduceLeDiff, List.reduceReplicate, reducePow, reduceDiv, reduceMod, reduceEqDiff, Nat.reduceBEq, pV, ptV, hb2, pc, qc, get_app_len2, set_app_len]
  first | refine cP (c) ?_ | refine cD (c) ?_
  simp (maxSteps := 2000000) (disch := omega) only [↓RS, RZ, reduceCtorEq, reduceAdd, reduceLT, reduceLeDiff, List.reduceReplicate, reducePow, reduceDiv, reduceMod, reduceEqDiff, Nat.reduceBEq, pV, ptV, hb2, pc, get_app_len2, set_app_len]
  exact fin
theorem mirror1_sc (q : Pt) (h2 : hp q ≤ 2 ^ 20) {H : Hp} {K : V → Hp → Prop} (hK : ∀ H', Ext H H' → K (pV (mirA.ap q)) H') : SC prog 92 [pV q] H K := by
  have := hp_x q
  have c := negQ_pc q.x (by omega)
  have fin := hK (H ++ [some (.row 6 true [pc q])] ++ [some (.row 6 true [pc ⟨-q.x, q.y⟩])]) ((Ext.app _).trans (Ext.app _))
  rw [mirA_ap] at fin
  simp only [pV, ptV, pc] at fin
  refine SC_intro mixed (FnD.of (by kernel_rfl)) ?_
  conv in lcOf _ _ => cbv
  conv in ntOf _ _ => cbv
  conv in rsOf _ _ => cbv
  simp only [RN, Nat.reduceAdd, Nat.reduceSub]
  simp (maxSteps := 2000000) (disch := omega) only [↓RS, RZ, reduceCtorEq, reduceAdd, reduceLT, reduceLeDiff, List.reduceReplicate, reducePow, reduceDiv, reduceMod, reduceEqDiff, Nat.reduceBEq, pV, ptV, pc, get_app_len2, set_app_len]
  first | refine cP (c) ?_ | refine cD (c) ?_
  simp (maxSteps := 2000000) (disch := omega) only [↓RS, RZ, reduceCtorEq, reduceAdd, reduceLT, reduceLeDiff, List.reduceReplicate, reducePow, reduceDiv, reduceMod, reduceEqDiff, Nat.reduceBEq, qV, rV, pV, ptV, pc, get_app_len2, set_app_len]
  exact fin
theorem shear1_sc (k : Rat) (q : Pt) (h1 : ht k ≤ 2 ^ 20) (h2 : hp q ≤ 2 ^ 20) {b : Nat} {H : Hp} {K : V → Hp → Prop} (hb : get H b = some (.row 3 true [qc k])) (hK : ∀ H', Ext H H' → K (pV ((shA k).ap q)) H') : SC prog 97 [pV q, .ptr b 0 0] H K := by
  have hb2 : ∀ x l, get (H ++ [x] ++ [l]) b = some (.row 3 true [qc k]) := fun x l => get_app (get_app hb)
  have := hp_x q
  have := hp_y q
  have := ht_mul k q.y
  have m := mulQ_pc k q.y (by omega) (by omega)
  have c := addQ_pc q.x (k * q.y) (by omega) (by omega)
  have fin := hK (H ++ [some (.row 6 true [pc q])] ++ [some (.row 6 true [pc ⟨q.x + k * q.y, q.y⟩])]) ((Ext.app _).trans (Ext.app _))
  rw [shA_ap] at fin
  simp only [pV, ptV, pc] at fin
  refine SC_intro mixed (FnD.of (by kernel_rfl)) ?_
  conv in lcOf _ _ => cbv
  conv in ntOf _ _ => cbv
  conv in rsOf _ _ => cbv
  simp only [RN, Nat.reduceAdd, Nat.reduceSub]
  simp (maxSteps := 2000000) (disch := omega) only [↓RS, RZ, reduceCtorEq, reduceAdd, reduceLT, reduceLeDiff, List.reduceReplicate, reducePow, reduceDiv, reduceMod, reduceEqDiff, Nat.reduceBEq, pV, ptV, hb2, pc, qc, get_app_len2, set_app_len]
  first | refine cP (m) ?_ | refine cD (m) ?_
  simp (maxSteps := 2000000) (disch := omega) only [↓RS, RZ, reduceCtorEq, reduceAdd, reduceLT, reduceLeDiff, List.reduceReplicate, reducePow, reduceDiv, reduceMod, reduceEqDiff, Nat.reduceBEq, qV, rV, pV, ptV, hb2, pc, get_app_len2, set_app_len]
  first | refine cP (c) ?_ | refine cD (c) ?_
  simp (maxSteps := 2000000) (disch := omega) only [↓RS, RZ, reduceCtorEq, reduceAdd, reduceLT, reduceLeDiff, List.reduceReplicate, reducePow, reduceDiv, reduceMod, reduceEqDiff, Nat.reduceBEq, qV, rV, pV, ptV, hb2, pc, get_app_len2, set_app_len]
  exact fin
theorem place1_sc (r v q : Pt) (hr : isRot r) (h0 : hp r ≤ 2 ^ 20) (h1 : hp v ≤ 2 ^ 20) (h2 : hp q ≤ 2 ^ 20) {b c : Nat} {H : Hp} {K : V → Hp → Prop} (hb : get H b = some (.row 6 true [pc r])) (hc : get H c = some (.row 6 true [pc v]))
    (hK : ∀ H', Ext H H' → K (pV ((placeA r v).ap q)) H') : SC prog 87 [pV q, .ptr b 0 0, .ptr c 0 0] H K := by
  have hb2 : ∀ k l, get (H ++ [k] ++ [l]) b = some (.row 6 true [pc r]) := fun k l => get_app (get_app hb)
  have hc3 : ∀ k l m, get (H ++ [k] ++ [l] ++ [m]) c = some (.row 6 true [pc v]) := fun k l m => get_app (get_app (get_app hc))
  have a := apply_pc r q h0 h2 hr
  have := hp_rot r q
  have d := vadd_pc (rotP r q) v (by omega) (by omega)
  have fin := hK (H ++ [some (.row 6 true [pc q])] ++ [some (.row 6 true [pc ((rotP r q).add v)])] ++ [some (.row 6 true [pc (rotP r q)])]) (((Ext.app _).trans (Ext.app _)).trans (Ext.app _))
  rw [placeA_ap] at fin
  simp only [pV, ptV, pc] at fin
  refine SC_intro mixed (FnD.of (by kernel_rfl)) ?_
  conv in lcOf _ _ => cbv
  conv in ntOf _ _ => cbv
  conv in rsOf _ _ => cbv
  simp only [RN, Nat.reduceAdd, Nat.reduceSub]
  simp (maxSteps := 2000000) (disch := omega) only [↓RS, RZ, reduceCtorEq, reduceAdd, reduceLT, reduceLeDiff, List.reduceReplicate, reducePow, reduceDiv, reduceMod, reduceEqDiff, Nat.reduceBEq, pV, ptV, hb2, pc, get_app_len2, set_app_len]
  first | refine cP (a) ?_ | refine cD (a) ?_
  simp (maxSteps := 2000000) (disch := omega) only [↓RS, RZ, reduceCtorEq, reduceAdd, reduceLT, reduceLeDiff, List.reduceReplicate, reducePow, reduceDiv, reduceMod, reduceEqDiff, Nat.reduceBEq, pV, ptV, hc3, pc, get_app_len2, set_app_len, set_app_len2]
  first | refine cP (d) ?_ | refine cD (d) ?_
  simp (maxSteps := 2000000) (disch := omega) only [↓RS, RZ, reduceCtorEq, reduceAdd, reduceLT, reduceLeDiff, List.reduceReplicate, reducePow, reduceDiv, reduceMod, reduceEqDiff, Nat.reduceBEq, pV, ptV, pc, get_app_len2, set_app_len, set_app_len2]
  exact fin
theorem touch_pc {n : Nat} {H : Hp} (p : Pt) : (pc p).flatMap (touch H (n + 1)) = [] := by
  simp only [pc, List.flatMap_cons, List.flatMap_nil, touch_prim, List.append_nil]
theorem touch_qc {n : Nat} {H : Hp} (p : Rat) : (qc p).flatMap (touch H (n + 1)) = [] := by
  simp only [qc, List.flatMap_cons, List.flatMap_nil, touch_prim, List.append_nil]

variable {L : List Pt} {Hs : List (List Pt)}
theorem move_pc (hv : Valid L Hs) (h3 : Hs.length ≤ 3) (v : Pt) (h1 : hp v ≤ 2 ^ 20) (hf : Fits (moveA v) L Hs) : PC prog 18 [cgV L Hs, pV v] (.tup [cgV (imgL (moveA v) L) (imgH (moveA v) Hs), .prim (.int .i64 (0))]) := by
  have c := vcheck0_pc v h1
  refine PC_intro mixed (FnD.of (by kernel_rfl)) ?_
  conv in lcOf _ _ => cbv
  conv in ntOf _ _ => cbv
  conv in rsOf _ _ => cbv
  simp only [RN, Nat.reduceAdd, Nat.reduceSub]
  simp (maxSteps := 2000000) (disch := omega) only [↓RS, RZ, reduceCtorEq, reduceAdd, reduceLT, reduceLeDiff, List.reduceReplicate, reducePow, reduceDiv, reduceMod, reduceEqDiff, Nat.reduceBEq, cgV, psV, pV, ptV]
  first | refine cP (c) ?_ | refine cD (c) ?_
  simp (maxSteps := 2000000) (disch := omega) only [↓RS, RZ, reduceCtorEq, reduceAdd, reduceLT, reduceLeDiff, List.reduceReplicate, reducePow, reduceDiv, reduceMod, reduceEqDiff, Nat.reduceBEq]
  refine callD_qc (.tup [cgV (imgL (moveA v) L) (imgH (moveA v) Hs), .prim (.int .i64 (0))]) none ⟨rfl, trivial⟩ ?_ ?_
  · intro H0 h0
    have q1 : get H0 1 = some (.row 6 true [pc v]) := by rw [h0 1 (by simp [touch])]; rfl
    refine mapped_sc hv h3 (par_move v.x v.y) hf (B := [1]) ?_ ?_ ?_ (fun H' hE' => ⟨rfl, fun c k h => hE'.get h⟩)
    · intro H' hE
      simp only [List.flatMap_cons, List.flatMap_nil, touch_ptr, hE.get q1, touchB_row, List.getD_cons_zero, touch_pc, List.append_nil]
    · intro b hb
      rw [List.mem_singleton.1 hb]; exact ⟨_, q1⟩
    · intro H' _ hb H'' hE q hq K hK
      have := hb 1 (List.mem_cons_self ..)
      rw [q1] at this
      exact move1_sc v q h1 (by omega) (hE.get this) hK
  · simp (maxSteps := 2000000) (disch := omega) only [↓RS, RZ, reduceCtorEq, reduceAdd, reduceLT, reduceLeDiff, List.reduceReplicate, reducePow, reduceDiv, reduceMod, reduceEqDiff, Nat.reduceBEq, setO, cgV, psV]
theorem mirror_pc (hv : Valid L Hs) (h3 : Hs.length ≤ 3) (hf : Fits mirA L Hs) : PC prog 27 [cgV L Hs] (.tup [cgV (imgL mirA L) (imgH mirA Hs), .prim (.int .i64 (0))]) := by
  refine PC_intro mixed (FnD.of (by kernel_rfl)) ?_
  conv in lcOf _ _ => cbv
  conv in ntOf _ _ => cbv
  conv in rsOf _ _ => cbv
  simp only [RN, Nat.reduceAdd, Nat.reduceSub]
  simp (maxSteps := 2000000) (disch := omega) only [↓RS, RZ, reduceCtorEq, reduceAdd, reduceLT, reduceLeDiff, List.reduceReplicate, reducePow, reduceDiv, reduceMod, reduceEqDiff, Nat.reduceBEq, cgV, psV]
  refine call_sc (mapped_sc (t := mirA) hv h3 par_mirror hf (B := []) (fun _ _ => rfl) (fun b hb => by cases hb) (fun H' _ _ H'' _ q hq K hK => mirror1_sc q (by omega) hK) ?_)
  intro H' hE
  have e1 : get H' 1 = some (.row 2 true [[.prim (.slice none 0 0), .prim (.slice none 0 0)]]) := hE.get rfl
  have s1 : ∀ x, get (H'.set 1 x) 1 = x := fun x => get_eq (get_lt_len e1)
  simp (maxSteps := 2000000) (disch := omega) only [↓RS, RZ, reduceCtorEq, reduceAdd, reduceLT, reduceLeDiff, List.reduceReplicate, reducePow, reduceDiv, reduceMod, reduceEqDiff, Nat.reduceBEq, cgV, psV, e1, s1]
theorem scale_pc (hv : Valid L Hs) (h3 : Hs.length ≤ 3) (k : Rat) (h1 : ht k ≤ 2 ^ 20) (h0 : k ≠ 0) (hf : Fits (scaleA k) L Hs) : PC prog 29 [cgV L Hs, qV k] (.tup [cgV (imgL (scaleA k) L) (imgH (scaleA k) Hs), .prim (.int .i64 (0))]) := by
  have c := rcheck0_pc k h1
  have sg := signQ_pc k (by omega)
  have hne : cmpQ k 0 ≠ 0 := fun e => h0 (cmpQ_zero.1 e)
  generalize cmpQ k 0 = z at *
  refine PC_intro mixed (FnD.of (by kernel_rfl)) ?_
  conv in lcOf _ _ => cbv
  conv in ntOf _ _ => cbv
  conv in rsOf _ _ => cbv
  simp only [RN, Nat.reduceAdd, Nat.reduceSub]
  simp (maxSteps := 2000000) (disch := omega) only [↓RS, RZ, reduceCtorEq, reduceAdd, reduceLT, reduceLeDiff, List.reduceReplicate, reducePow, reduceDiv, reduceMod, reduceEqDiff, Nat.reduceBEq, cgV, psV, qV, rV]
  first | refine cP (c) ?_ | refine cD (c) ?_
  simp (maxSteps := 2000000) (disch := omega) only [↓RS, RZ, reduceCtorEq, reduceAdd, reduceLT, reduceLeDiff, List.reduceReplicate, reducePow, reduceDiv, reduceMod, reduceEqDiff, Nat.reduceBEq]
  first | refine cP (sg) ?_ | refine cD (sg) ?_
  simp (maxSteps := 2000000) (disch := omega) only [↓RS, RZ, reduceCtorEq, reduceAdd, reduceLT, reduceLeDiff, List.reduceReplicate, reducePow, reduceDiv, reduceMod, reduceEqDiff, Nat.reduceBEq]
  refine call_sc (mapped_sc (t := scaleA k) hv h3 (par_scale h0) hf (B := [1]) ?_ ?_ ?_ ?_)
  · intro H' hE
    have q1 : get H' 1 = some (.row 3 true [qc k]) := hE.get rfl
    simp only [List.flatMap_cons, List.flatMap_nil, touch_ptr, q1, touchB_row, List.getD_cons_zero, touch_qc, List.append_nil]
  · intro b hb
    rw [List.mem_singleton.1 hb]; exact ⟨_, rfl⟩
  · intro H' _ hb H'' hE q hq K hK
    have := hb 1 (List.mem_cons_self ..)
    exact scale1_sc k q h1 (by omega) (hE.get this) hK
  · intro H' hE
    have e1 : get H' 2 = some (.row 2 true [[.prim (.slice none 0 0), .prim (.slice none 0 0)]]) := hE.get rfl
    have s1 : ∀ x, get (H'.set 2 x) 2 = x := fun x => get_eq (get_lt_len e1)
    simp (maxSteps := 2000000) (disch := omega) only [↓RS, RZ, reduceCtorEq, reduceAdd, reduceLT, reduceLeDiff, List.reduceReplicate, reducePow, reduceDiv, reduceMod, reduceEqDiff, Nat.reduceBEq, cgV, psV, e1, s1]
theorem scale0_pc (hv : Valid L Hs) : PC prog 29 [cgV L Hs, qV 0] (.tup [.agg [.prim (.slice none 0 0), .prim (.slice none 0 0)], .prim (.int .i64 (12))]) := by
  have z := ht_zero
  have c := rcheck0_pc 0 (by omega)
  have sg := signQ_pc 0 (by omega)
  rw [show cmpQ 0 0 = 0 from cmpQ_zero.2 rfl] at sg
  have ck := hv.check_pc
  refine PC_intro mixed (FnD.of (by kernel_rfl)) ?_
  conv in lcOf _ _ => cbv
  conv in ntOf _ _ => cbv
  conv in rsOf _ _ => cbv
  simp only [RN, Nat.reduceAdd, Nat.reduceSub]
  simp (maxSteps := 2000000) (disch := omega) only [↓RS, RZ, reduceCtorEq, reduceAdd, reduceLT, reduceLeDiff, List.reduceReplicate, reducePow, reduceDiv, reduceMod, reduceEqDiff, Nat.reduceBEq, cgV, psV, qV, rV]
  first | refine cP (c) ?_ | refine cD (c) ?_
  simp (maxSteps := 2000000) (disch := omega) only [↓RS, RZ, reduceCtorEq, reduceAdd, reduceLT, reduceLeDiff, List.reduceReplicate, reducePow, reduceDiv, reduceMod, reduceEqDiff, Nat.reduceBEq]
  first | refine cP (sg) ?_ | refine cD (sg) ?_
  simp (maxSteps := 2000000) (disch := omega) only [↓RS, RZ, reduceCtorEq, reduceAdd, reduceLT, reduceLeDiff, List.reduceReplicate, reducePow, reduceDiv, reduceMod, reduceEqDiff, Nat.reduceBEq]
  first | refine cP (ck) ?_ | refine cD (ck) ?_
  simp (maxSteps := 2000000) (disch := omega) only [↓RS, RZ, reduceCtorEq, reduceAdd, reduceLT, reduceLeDiff, List.reduceReplicate, reducePow, reduceDiv, reduceMod, reduceEqDiff, Nat.reduceBEq]
theorem shear_pc (hv : Valid L Hs) (h3 : Hs.length ≤ 3) (k : Rat) (h1 : ht k ≤ 2 ^ 20) (hf : Fits (shA k) L Hs) : PC prog 31 [cgV L Hs, qV k] (.tup [cgV (imgL (shA k) L) (imgH (shA k) Hs), .prim (.int .i64 (0))]) := by
  have c := rcheck0_pc k h1
  refine PC_intro mixed (FnD.of (by kernel_rfl)) ?_
  conv in lcOf _ _ => cbv
  conv in ntOf _ _ => cbv
  conv in rsOf _ _ => cbv
  simp only [RN, Nat.reduceAdd, Nat.reduceSub]
  simp (maxSteps := 2000000) (disch := omega) only [↓RS, RZ, reduceCtorEq, reduceAdd, reduceLT, reduceLeDiff, List.reduceReplicate, reducePow, reduceDiv, reduceMod, reduceEqDiff, Nat.reduceBEq, cgV, psV, qV, rV]
  first | refine cP (c) ?_ | refine cD (c) ?_
  simp (maxSteps := 2000000) (disch := omega) only [↓RS, RZ, reduceCtorEq, reduceAdd, reduceLT, reduceLeDiff, List.reduceReplicate, reducePow, reduceDiv, reduceMod, reduceEqDiff, Nat.reduceBEq]
  refine callD_qc (.tup [cgV (imgL (shA k) L) (imgH (shA k) Hs), .prim (.int .i64 (0))]) none ⟨rfl, trivial⟩ ?_ ?_
  · intro H0 h0
    have q1 : get H0 1 = some (.row 3 true [qc k]) := by rw [h0 1 (by simp [touch])]; rfl
    refine mapped_sc hv h3 (par_shx k) hf (B := [1]) ?_ ?_ ?_ (fun H' hE' => ⟨rfl, fun c k h => hE'.get h⟩)
    · intro H' hE
      simp only [List.flatMap_cons, List.flatMap_nil, touch_ptr, hE.get q1, touchB_row, List.getD_cons_zero, touch_qc, List.append_nil]
    · intro b hb
      rw [List.mem_singleton.1 hb]; exact ⟨_, q1⟩
    · intro H' _ hb H'' hE q hq K hK
      have := hb 1 (List.mem_cons_self ..)
      rw [q1] at this
      exact shear1_sc k q h1 (by omega) (hE.get this) hK
  · simp (maxSteps := 2000000) (disch := omega) only [↓RS, RZ, reduceCtorEq, reduceAdd, reduceLT, reduceLeDiff, List.reduceReplicate, reducePow, reduceDiv, reduceMod, reduceEqDiff, Nat.reduceBEq, setO, cgV, psV]
theorem place_pc (hv : Valid L Hs) (h3 : Hs.length ≤ 3) (r v : Pt) (hr : isRot r) (h0 : hp r ≤ 2 ^ 20) (h1 : hp v ≤ 2 ^ 20) (hf : Fits (placeA r v) L Hs) :
    PC prog 22 [cgV L Hs, pV r, pV v] (.tup [cgV (imgL (placeA r v) L) (imgH (placeA r v) Hs), .prim (.int .i64 (0))]) := by
  have c := vcheck0_pc v h1
  have rc := rotCheck0_pc r h0 hr
  refine PC_intro mixed (FnD.of (by kernel_rfl)) ?_
  conv in lcOf _ _ => cbv
  conv in ntOf _ _ => cbv
  conv in rsOf _ _ => cbv
  simp only [RN, Nat.reduceAdd, Nat.reduceSub]
  simp (maxSteps := 2000000) (disch := omega) only [↓RS, RZ, reduceCtorEq, reduceAdd, reduceLT, reduceLeDiff, List.reduceReplicate, reducePow, reduceDiv, reduceMod, reduceEqDiff, Nat.reduceBEq, cgV, psV, pV, ptV]
  first | refine cP (rc) ?_ | refine cD (rc) ?_
  simp (maxSteps := 2000000) (disch := omega) only [↓RS, RZ, reduceCtorEq, reduceAdd, reduceLT, reduceLeDiff, List.reduceReplicate, reducePow, reduceDiv, reduceMod, reduceEqDiff, Nat.reduceBEq]
  first | refine cP (c) ?_ | refine cD (c) ?_
  simp (maxSteps := 2000000) (disch := omega) only [↓RS, RZ, reduceCtorEq, reduceAdd, reduceLT, reduceLeDiff, List.reduceReplicate, reducePow, reduceDiv, reduceMod, reduceEqDiff, Nat.reduceBEq]
  refine callD_qc (.tup [cgV (imgL (placeA r v) L) (imgH (placeA r v) Hs), .prim (.int .i64 (0))]) none ⟨rfl, trivial⟩ ?_ ?_
  · intro H0 h0'
    have q1 : get H0 1 = some (.row 6 true [pc r]) := by rw [h0' 1 (by simp [touch])]; rfl
    have q2 : get H0 2 = some (.row 6 true [pc v]) := by rw [h0' 2 (by simp [touch])]; rfl
    refine mapped_sc hv h3 (par_place hr v.x v.y) hf (B := [1, 2]) ?_ ?_ ?_ (fun H' hE' => ⟨rfl, fun c k h => hE'.get h⟩)
    · intro H' hE
      simp only [List.flatMap_cons, List.flatMap_nil, touch_ptr, hE.get q1, hE.get q2, touchB_row, List.getD_cons_zero, touch_pc, List.append_nil, List.cons_append, List.nil_append]
    · intro b hb
      rcases List.mem_cons.1 hb with rfl | hb
      · exact ⟨_, q1⟩
      · rw [List.mem_singleton.1 hb]; exact ⟨_, q2⟩
    · intro H' _ hb H'' hE q hq K hK
      have b1 := hb 1 (List.mem_cons_self ..)
      have b2 := hb 2 (List.mem_cons_of_mem _ (List.mem_cons_self ..))
      rw [q1] at b1
      rw [q2] at b2
      exact place1_sc r v q hr h0 h1 (by omega) (hE.get b1) (hE.get b2) hK
  · simp (maxSteps := 2000000) (disch := omega) only [↓RS, RZ, reduceCtorEq, reduceAdd, reduceLT, reduceLeDiff, List.reduceReplicate, reducePow, reduceDiv, reduceMod, reduceEqDiff, Nat.reduceBEq, setO, cgV, psV]
theorem turn_pc (hv : Valid L Hs) (h3 : Hs.length ≤ 3) (r : Pt) (hr : isRot r) (h0 : hp r ≤ 2 ^ 20) (hf : Fits (placeA r pt0) L Hs) :
    PC prog 20 [cgV L Hs, pV r] (.tup [cgV (imgL (placeA r pt0) L) (imgH (placeA r pt0) Hs), .prim (.int .i64 (0))]) := by
  have z := hp_pt0
  have p := place_pc hv h3 r pt0 hr h0 (by omega) hf
  have e : pV pt0 = ptV ⟨false, [], []⟩ ⟨false, [], []⟩ := by simp only [pV, pt0, can_zero]
  rw [e] at p
  refine PC_intro mixed (FnD.of (by kernel_rfl)) ?_
  conv in lcOf _ _ => cbv
  conv in ntOf _ _ => cbv
  conv in rsOf _ _ => cbv
  simp only [RN, Nat.reduceAdd, Nat.reduceSub]
  simp (maxSteps := 2000000) (disch := omega) only [↓RS, RZ, reduceCtorEq, reduceAdd, reduceLT, reduceLeDiff, List.reduceReplicate, reducePow, reduceDiv, reduceMod, reduceEqDiff, Nat.reduceBEq, cgV, psV, pV, ptV]
  first | refine cP (p) ?_ | refine cD (p) ?_
  simp (maxSteps := 2000000) (disch := omega) only [↓RS, RZ, reduceCtorEq, reduceAdd, reduceLT, reduceLeDiff, List.reduceReplicate, reducePow, reduceDiv, reduceMod, reduceEqDiff, Nat.reduceBEq, cgV, psV]
theorem flip_pc (hv : Valid L Hs) (h3 : Hs.length ≤ 3) (hf : Fits (scaleA (-1)) L Hs) : PC prog 25 [cgV L Hs] (.tup [cgV (imgL (scaleA (-1)) L) (imgH (scaleA (-1)) Hs), .prim (.int .i64 (0))]) := by
  have o := ofQ_pc (-1) (by omega) (by omega)
  have e : (((-1 : Int)) : Rat) = -1 := rfl
  rw [e] at o
  have := @ht_int (-1) (by omega)
  rw [e] at this
  have s := scale_pc hv h3 (-1) (by omega) (by decide +kernel) hf
  refine PC_intro mixed (FnD.of (by kernel_rfl)) ?_
  conv in lcOf _ _ => cbv
  conv in ntOf _ _ => cbv
  conv in rsOf _ _ => cbv
  simp only [RN, Nat.reduceAdd, Nat.reduceSub]
  simp (maxSteps := 2000000) (disch := omega) only [↓RS, RZ, reduceCtorEq, reduceAdd, reduceLT, reduceLeDiff, List.reduceReplicate, reducePow, reduceDiv, reduceMod, reduceEqDiff, Nat.reduceBEq, cgV, psV]
  first | refine cP (o) ?_ | refine cD (o) ?_
  simp (maxSteps := 2000000) (disch := omega) only [↓RS, RZ, reduceCtorEq, reduceAdd, reduceLT, reduceLeDiff, List.reduceReplicate, reducePow, reduceDiv, reduceMod, reduceEqDiff, Nat.reduceBEq, qV, rV]
  first | refine cP (s) ?_ | refine cD (s) ?_
  simp (maxSteps := 2000000) (disch := omega) only [↓RS, RZ, reduceCtorEq, reduceAdd, reduceLT, reduceLeDiff, List.reduceReplicate, reducePow, reduceDiv, reduceMod, reduceEqDiff, Nat.reduceBEq, cgV, psV]
end Go.Av
