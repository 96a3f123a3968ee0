/- Helping texts: Dx, Dy. -/
import Derived.Test.YtbidkolaahnbiaaGreatKDv
set_option linter.unusedSimpArgs false
set_option linter.unusedVariables false
namespace Go.Av
open Go.RowKit
open Go.Proofs.Tryz (prog)
def sqL (a b : Int) : List Pt := [⟨a, a⟩, ⟨b, a⟩, ⟨b, b⟩, ⟨a, b⟩]
set_option maxHeartbeats 4000000 in
theorem square_pc (a b : Int) (ha : a.natAbs < 256) (hb : b.natAbs < 256) : PC prog 199 [.prim (.int .i64 (a)), .prim (.int .i64 (b))] (psV (sqL a b)) := by
  have c1 := vof_pc a a ha ha
  have c2 := vof_pc b a hb ha
  have c3 := vof_pc b b hb hb
  have c4 := vof_pc a b ha hb
  refine PC_intro mixed (FnD.of (by kernel_rfl)) ?_
  conv in lcOf _ _ => cbv
  conv in ntOf _ _ => cbv
  conv in rsOf _ _ => cbv
  simp only [RN, Nat.reduceAdd, Nat.reduceSub]
  simp (maxSteps := 2000000) (disch := omega) only [↓RS, RW, RB, RX, RE, RK, RT, evN, evA, evL, binV, unV, intOfV, lenV, TK.isAgg, sliceV, reduceCtorEq, Nat.reduceAdd, Nat.reduceLT, Nat.reduceLeDiff, List.reduceReplicate, elemsOf, added, view, view.viewL, view.viewLL, Nat.reducePow, Nat.reduceDiv, Nat.reduceMod, Nat.reduceEqDiff, Nat.reduceBEq]
  first | refine cP (c1) ?_ | refine cD (c1) ?_
  simp (maxSteps := 2000000) (disch := omega) only [↓RS, RW, RB, RX, RE, RK, RT, evN, evA, evL, binV, unV, intOfV, lenV, TK.isAgg, sliceV, reduceCtorEq, Nat.reduceAdd, Nat.reduceLT, Nat.reduceLeDiff, List.reduceReplicate, elemsOf, added, view, view.viewL, view.viewLL, Nat.reducePow, Nat.reduceDiv, Nat.reduceMod, Nat.reduceEqDiff, Nat.reduceBEq, pV, ptV]
  first | refine cP (c2) ?_ | refine cD (c2) ?_
  simp (maxSteps := 2000000) (disch := omega) only [↓RS, RW, RB, RX, RE, RK, RT, evN, evA, evL, binV, unV, intOfV, lenV, TK.isAgg, sliceV, reduceCtorEq, Nat.reduceAdd, Nat.reduceLT, Nat.reduceLeDiff, List.reduceReplicate, elemsOf, added, view, view.viewL, view.viewLL, Nat.reducePow, Nat.reduceDiv, Nat.reduceMod, Nat.reduceEqDiff, Nat.reduceBEq, pV, ptV]
  first | refine cP (c3) ?_ | refine cD (c3) ?_
  simp (maxSteps := 2000000) (disch := omega) only [↓RS, RW, RB, RX, RE, RK, RT, evN, evA, evL, binV, unV, intOfV, lenV, TK.isAgg, sliceV, reduceCtorEq, Nat.reduceAdd, Nat.reduceLT, Nat.reduceLeDiff, List.reduceReplicate, elemsOf, added, view, view.viewL, view.viewLL, Nat.reducePow, Nat.reduceDiv, Nat.reduceMod, Nat.reduceEqDiff, Nat.reduceBEq, pV, ptV]
  first | refine cP (c4) ?_ | refine cD (c4) ?_
  simp (maxSteps := 2000000) (disch := omega) only [↓RS, RW, RB, RX, RE, RK, RT, evN, evA, evL, binV, unV, intOfV, lenV, TK.isAgg, sliceV, reduceCtorEq, Nat.reduceAdd, Nat.reduceLT, Nat.reduceLeDiff, List.reduceReplicate, elemsOf, added, view, view.viewL, view.viewLL, Nat.reducePow, Nat.reduceDiv, Nat.reduceMod, Nat.reduceEqDiff, Nat.reduceBEq, pV, ptV]
  rfl
def exO : List Pt := sqL 0 6
def exH : List Pt := sqL 2 4
set_option maxHeartbeats 4000000 in
theorem Example_pc : PC prog 120 [] (cgV exO [exH]) := by
  have c1 := square_pc 0 6 (by decide) (by decide)
  have c2 := square_pc 2 4 (by decide) (by decide)
  have e1 : psV (sqL 0 6) = .lst 6 (exO.map pc) := rfl
  have e2 : psV (sqL 2 4) = .lst 6 (exH.map pc) := rfl
  rw [e1] at c1
  rw [e2] at c2
  generalize exO = A at *
  generalize exH = B at *
  refine PC_intro mixed (FnD.of (by kernel_rfl)) ?_
  conv in lcOf _ _ => cbv
  conv in ntOf _ _ => cbv
  conv in rsOf _ _ => cbv
  simp only [RN, Nat.reduceAdd, Nat.reduceSub]
  simp (maxSteps := 2000000) (disch := omega) only [↓RS, RW, RB, RX, RE, RK, RT, evN, evA, evL, binV, unV, intOfV, lenV, TK.isAgg, sliceV, reduceCtorEq, Nat.reduceAdd, Nat.reduceLT, Nat.reduceLeDiff, List.reduceReplicate, elemsOf, added, view, view.viewL, view.viewLL, Nat.reducePow, Nat.reduceDiv, Nat.reduceMod, Nat.reduceEqDiff, Nat.reduceBEq]
  first | refine cP (c1) ?_ | refine cD (c1) ?_
  simp (maxSteps := 2000000) (disch := omega) only [↓RS, RW, RB, RX, RE, RK, RT, evN, evA, evL, binV, unV, intOfV, lenV, TK.isAgg, sliceV, reduceCtorEq, Nat.reduceAdd, Nat.reduceLT, Nat.reduceLeDiff, List.reduceReplicate, elemsOf, added, view, view.viewL, view.viewLL, Nat.reducePow, Nat.reduceDiv, Nat.reduceMod, Nat.reduceEqDiff, Nat.reduceBEq]
  first | refine cP (c2) ?_ | refine cD (c2) ?_
  simp (maxSteps := 2000000) (disch := omega) only [↓RS, RW, RB, RX, RE, RK, RT, evN, evA, evL, binV, unV, intOfV, lenV, TK.isAgg, sliceV, reduceCtorEq, Nat.reduceAdd, Nat.reduceLT, Nat.reduceLeDiff, List.reduceReplicate, elemsOf, added, view, view.viewL, view.viewLL, Nat.reducePow, Nat.reduceDiv, Nat.reduceMod, Nat.reduceEqDiff, Nat.reduceBEq]
  rfl

theorem hl_of {L : List Pt} {k : Nat} (hk : 1 ≤ k) (h : ∀ p ∈ L, ∃ x y : Int, p = ⟨x, y⟩ ∧ x.natAbs < 256 ∧ y.natAbs < 256) : hl L k := by
  intro p hp
  obtain ⟨x, y, rfl, hx, hy⟩ := h p hp
  exact Nat.le_trans (hp_mk (ht_int hx) (ht_int hy)) hk
theorem hl_sq {a b : Int} (ha : a.natAbs < 256) (hb : b.natAbs < 256) : hl (sqL a b) (2 ^ 16) := by
  refine hl_of (by omega) fun p hp => ?_
  simp only [sqL, List.mem_cons, List.not_mem_nil, or_false] at hp
  rcases hp with rfl | rfl | rfl | rfl
  · exact ⟨a, a, rfl, ha, ha⟩
  · exact ⟨b, a, rfl, hb, ha⟩
  · exact ⟨b, b, rfl, hb, hb⟩
  · exact ⟨a, b, rfl, ha, hb⟩
theorem chk_O : chkC exO = 0 := by decide +kernel
theorem chk_H : chkC exH = 0 := by decide +kernel
theorem ex_meet : meetB exH exO = false := by decide +kernel
theorem ex_in : withinB exH exO = true := by decide +kernel
def exOr : List Rp := exO.map Pt.rp
def exHr : List (List Rp) := [exH.map Pt.rp]
theorem exO_pts : pts exOr = exO := pts_rp _
theorem exH_pts : exHr.map pts = [exH] := by unfold exHr; rw [List.map_cons, List.map_nil, pts_rp]
theorem ex_fine : Fine exOr exHr := by
  have rO : chkR exOr = 0 := by unfold exOr; rw [chkR_rp (by decide) (by decide), chk_O]
  have rH : chkR (exH.map Pt.rp) = 0 := by rw [chkR_rp (by decide) (by decide), chk_H]
  refine ⟨?_, rp_le (hl_sq (by decide) (by decide)), ?_⟩
  · unfold chkP
    rw [if_neg (fun h => h rO), if_neg (by decide)]
    refine firstNz_none fun j hj => ?_
    have hj0 : j = 0 := by simp only [exHr, List.length_cons, List.length_nil] at hj; omega
    subst hj0
    have e : exHr.getD 0 [] = exH.map Pt.rp := rfl
    unfold chkH
    rw [e, if_neg (fun h => h rH), pts_rp, exO_pts, ex_meet, if_neg (by simp [anyTo]), ex_in, if_neg (by simp), if_neg (by simp [anyTo]), if_neg (by omega)]
  · intro l hl
    simp only [exHr, List.mem_cons, List.not_mem_nil, or_false] at hl
    subst hl
    exact ⟨by decide, rp_le (hl_sq (by decide) (by decide))⟩
theorem ex_area : areaPTo exO [exH] 1 = 32 := by decide +kernel
theorem ex_in1 : whereS exO [exH] ⟨1, 1⟩ = 1 := by decide +kernel
theorem ex_in2 : whereS exO [exH] ⟨3, 3⟩ = -1 := by decide +kernel
theorem ex_d1 : diagS exO [exH] ⟨⟨0, 0⟩, ⟨2, 2⟩⟩ = (true, 0) := by decide +kernel
theorem ex_d2 : diagS exO [exH] ⟨⟨0, 0⟩, ⟨6, 6⟩⟩ = (false, 0) := by decide +kernel
theorem ex_xs : isortTo (xsTo (cornersTo (exO :: [exH]) 2) 8) 7 = [0, 0, 2, 2, 4, 4, 6, 6] := by decide +kernel
theorem ex_ys : ysTo (edgesTo (exO :: [exH]) 2) ((0 + 2) / 2) (edgesTo (exO :: [exH]) 2).length = [0, 6] := by decide +kernel
end Go.Av
namespace Go.Av
open Go.RowKit
open Go.Proofs.Tryz (prog)
theorem ex_area_pc : PC prog 34 [cgV exO [exH]] (.tup [qV 32, .prim (.int .i64 (0))]) := by
  have h := AreaP_pc ex_fine
  rw [exO_pts, exH_pts, show exHr.length = 1 from rfl, ex_area] at h
  exact h
theorem ex_in1_pc : PC prog 44 [cgV exO [exH], pV ⟨1, 1⟩] (.tup [.prim (.int .i64 (1)), .prim (.int .i64 (0))]) := by
  have h := InsideP_pc ex_fine ⟨1, 1⟩ (Nat.le_trans (hp_mk (@ht_int 1 (by omega)) (@ht_int 1 (by omega))) (by omega))
  rw [exO_pts, exH_pts, ex_in1] at h
  exact h
theorem ex_in2_pc : PC prog 44 [cgV exO [exH], pV ⟨3, 3⟩] (.tup [.prim (.int .i64 (-1)), .prim (.int .i64 (0))]) := by
  have h := InsideP_pc ex_fine ⟨3, 3⟩ (Nat.le_trans (hp_mk (@ht_int 3 (by omega)) (@ht_int 3 (by omega))) (by omega))
  rw [exO_pts, exH_pts, ex_in2] at h
  exact h
theorem hp_ints {x y : Int} (hx : x.natAbs < 256) (hy : y.natAbs < 256) : hp ⟨x, y⟩ ≤ 1 := hp_mk (ht_int hx) (ht_int hy)
theorem ex_d1_pc : PC prog 70 [cgV exO [exH], sgV ⟨⟨0, 0⟩, ⟨2, 2⟩⟩] (.tup [.prim (.bool true), .prim (.int .i64 (0))]) := by
  have h := Diagonal_pc ex_fine ⟨⟨0, 0⟩, ⟨2, 2⟩⟩ (Nat.le_trans (hs_mk (@hp_ints 0 0 (by omega) (by omega)) (@hp_ints 2 2 (by omega) (by omega))) (by omega))
  rw [exO_pts, exH_pts, ex_d1] at h
  exact h
theorem ex_d2_pc : PC prog 70 [cgV exO [exH], sgV ⟨⟨0, 0⟩, ⟨6, 6⟩⟩] (.tup [.prim (.bool false), .prim (.int .i64 (0))]) := by
  have h := Diagonal_pc ex_fine ⟨⟨0, 0⟩, ⟨6, 6⟩⟩ (Nat.le_trans (hs_mk (@hp_ints 0 0 (by omega) (by omega)) (@hp_ints 6 6 (by omega) (by omega))) (by omega))
  rw [exO_pts, exH_pts, ex_d2] at h
  exact h
theorem ex_mid : (⟨(0 + 2) / 2, ((isortTo [0, 6] 1).getD 0 0 + (isortTo [0, 6] 1).getD 1 0) / 2⟩ : Pt) = ⟨1, 3⟩ := by
  refine Pt.ext ?_ ?_ <;> decide +kernel
theorem ex_int_pc : PC prog 55 [cgV exO [exH]] (.tup [pV ⟨1, 3⟩, .prim (.int .i64 (0))]) := by
  have hys : ysTo (edgesTo (exO :: [exH]) 2) ((0 + 2) / 2) (edgesTo (exO :: [exH]) 2).length = [0, 6] := ex_ys
  have hg := ex_fine.rgs
  rw [exO_pts, exH_pts] at hg
  have h := Interior_pc ex_fine (cornersTo (exO :: [exH]) 2) (edgesTo (exO :: [exH]) 2) (by rw [exO_pts, exH_pts]; rfl) (by rw [exO_pts, exH_pts]; rfl) (by decide +kernel) 0 2 4 6 ex_xs (by decide +kernel) (by decide +kernel) (by decide +kernel)
    (hl_corners hg 2 (Nat.le_refl _)) (Nat.le_trans (@ht_int 0 (by omega)) (by omega)) (Nat.le_trans (@ht_int 2 (by omega)) (by omega)) (by decide +kernel) (fun s hs => Nat.le_trans (hs_edges hg 2 (Nat.le_refl _) s hs) (by omega))
    (by rw [hys]; decide) (by
      rw [hys]
      intro i hi
      match i, hi with
      | 0, _ => exact Nat.le_trans (@ht_int 0 (by omega)) (by omega)
      | 1, _ => exact Nat.le_trans (@ht_int 6 (by omega)) (by omega)) (isortTo [0, 6] 1) (by rw [hys]; rfl)
  rw [exO_pts, exH_pts, ex_mid] at h
  exact h

set_option maxRecDepth 100000 in
set_option maxHeartbeats 16000000 in
theorem awake_pc : PC prog 52 [] (.prim (.bool true)) := by
  have ce := Example_pc
  have c1 := ex_area_pc
  have c2 := ex_in1_pc
  have c3 := ex_in2_pc
  have c4 := ex_int_pc
  have c5 := ex_d1_pc
  have c6 := ex_d2_pc
  have v11 : PC prog 80 [.prim (.int .i64 (1)), .prim (.int .i64 (1))] (pV ⟨1, 1⟩) := vof_pc 1 1 (by omega) (by omega)
  have v33 : PC prog 80 [.prim (.int .i64 (3)), .prim (.int .i64 (3))] (pV ⟨3, 3⟩) := vof_pc 3 3 (by omega) (by omega)
  have v00 : PC prog 80 [.prim (.int .i64 (0)), .prim (.int .i64 (0))] (pV ⟨0, 0⟩) := vof_pc 0 0 (by omega) (by omega)
  have v22 : PC prog 80 [.prim (.int .i64 (2)), .prim (.int .i64 (2))] (pV ⟨2, 2⟩) := vof_pc 2 2 (by omega) (by omega)
  have v66 : PC prog 80 [.prim (.int .i64 (6)), .prim (.int .i64 (6))] (pV ⟨6, 6⟩) := vof_pc 6 6 (by omega) (by omega)
  have v13 : PC prog 80 [.prim (.int .i64 (1)), .prim (.int .i64 (3))] (pV ⟨1, 3⟩) := vof_pc 1 3 (by omega) (by omega)
  have o32 : PC prog 43 [.prim (.int .i64 (32))] (qV 32) := ofQ_pc 32 (by omega) (by omega)
  have k1 : decide ((32 : Rat) = 32) = true := decide_eq_true rfl
  have k2 : decide ((⟨1, 3⟩ : Pt) = ⟨1, 3⟩) = true := decide_eq_true rfl
  have k3 : decide ((⟨1, 3⟩ : Pt) = ⟨0, 0⟩) = false := decide_eq_false (fun h => by have := congrArg Pt.x h; revert this; decide +kernel)
  have e1 := eqA_q 32 32
  have e2 := eqA_p ⟨1, 3⟩ ⟨1, 3⟩
  have e3 := eqA_p ⟨1, 3⟩ ⟨0, 0⟩
  rw [k1] at e1
  rw [k2] at e2
  rw [k3] at e3
  simp only at e2 e3
  have ex : cgV exO [exH] = .agg [.lst 6 (exO.map pc), .lst 1 [[.lst 6 (exH.map pc)]]] := rfl
  rw [ex] at ce c1 c2 c3 c4 c5 c6
  clear ex k1 k2 k3
  simp only [pV, ptV, qV, rV, sgV, s4V] at c1 c2 c3 c4 c5 c6 v11 v33 v00 v22 v66 v13 o32
  generalize exO.map pc = A at ce c1 c2 c3 c4 c5 c6
  generalize exH.map pc = B at ce c1 c2 c3 c4 c5 c6
  refine PC_intro mixed (FnD.of (by kernel_rfl)) ?_
  conv in lcOf _ _ => cbv
  conv in ntOf _ _ => cbv
  conv in rsOf _ _ => cbv
  simp only [RN, Nat.reduceAdd, Nat.reduceSub]
  simp (maxSteps := 2000000) (disch := omega) only [↓RS, RW, RB, RX, RE, RK, RT, evN, evA, evL, binV, unV, intOfV, lenV, TK.isAgg, sliceV, reduceCtorEq, Nat.reduceAdd, Nat.reduceLT, Nat.reduceLeDiff, List.reduceReplicate, elemsOf, added, view, view.viewL, view.viewLL, Nat.reducePow, Nat.reduceDiv, Nat.reduceMod, Nat.reduceEqDiff, Nat.reduceBEq]
  first | refine cP (ce) ?_ | refine cD (ce) ?_
  simp (maxSteps := 2000000) (disch := omega) only [↓RS, RW, RB, RX, RE, RK, RT, evN, evA, evL, binV, unV, intOfV, lenV, TK.isAgg, sliceV, reduceCtorEq, Nat.reduceAdd, Nat.reduceLT, Nat.reduceLeDiff, List.reduceReplicate, elemsOf, added, view, view.viewL, view.viewLL, Nat.reducePow, Nat.reduceDiv, Nat.reduceMod, Nat.reduceEqDiff, Nat.reduceBEq]
  first | refine cP (c1) ?_ | refine cD (c1) ?_
  simp (maxSteps := 2000000) (disch := omega) only [↓RS, RW, RB, RX, RE, RK, RT, evN, evA, evL, binV, unV, intOfV, lenV, TK.isAgg, sliceV, reduceCtorEq, Nat.reduceAdd, Nat.reduceLT, Nat.reduceLeDiff, List.reduceReplicate, elemsOf, added, view, view.viewL, view.viewLL, Nat.reducePow, Nat.reduceDiv, Nat.reduceMod, Nat.reduceEqDiff, Nat.reduceBEq]
  first | refine cP (v11) ?_ | refine cD (v11) ?_
  simp (maxSteps := 2000000) (disch := omega) only [↓RS, RW, RB, RX, RE, RK, RT, evN, evA, evL, binV, unV, intOfV, lenV, TK.isAgg, sliceV, reduceCtorEq, Nat.reduceAdd, Nat.reduceLT, Nat.reduceLeDiff, List.reduceReplicate, elemsOf, added, view, view.viewL, view.viewLL, Nat.reducePow, Nat.reduceDiv, Nat.reduceMod, Nat.reduceEqDiff, Nat.reduceBEq]
  first | refine cP (c2) ?_ | refine cD (c2) ?_
  simp (maxSteps := 2000000) (disch := omega) only [↓RS, RW, RB, RX, RE, RK, RT, evN, evA, evL, binV, unV, intOfV, lenV, TK.isAgg, sliceV, reduceCtorEq, Nat.reduceAdd, Nat.reduceLT, Nat.reduceLeDiff, List.reduceReplicate, elemsOf, added, view, view.viewL, view.viewLL, Nat.reducePow, Nat.reduceDiv, Nat.reduceMod, Nat.reduceEqDiff, Nat.reduceBEq]
  first | refine cP (v33) ?_ | refine cD (v33) ?_
  simp (maxSteps := 2000000) (disch := omega) only [↓RS, RW, RB, RX, RE, RK, RT, evN, evA, evL, binV, unV, intOfV, lenV, TK.isAgg, sliceV, reduceCtorEq, Nat.reduceAdd, Nat.reduceLT, Nat.reduceLeDiff, List.reduceReplicate, elemsOf, added, view, view.viewL, view.viewLL, Nat.reducePow, Nat.reduceDiv, Nat.reduceMod, Nat.reduceEqDiff, Nat.reduceBEq]
  first | refine cP (c3) ?_ | refine cD (c3) ?_
  simp (maxSteps := 2000000) (disch := omega) only [↓RS, RW, RB, RX, RE, RK, RT, evN, evA, evL, binV, unV, intOfV, lenV, TK.isAgg, sliceV, reduceCtorEq, Nat.reduceAdd, Nat.reduceLT, Nat.reduceLeDiff, List.reduceReplicate, elemsOf, added, view, view.viewL, view.viewLL, Nat.reducePow, Nat.reduceDiv, Nat.reduceMod, Nat.reduceEqDiff, Nat.reduceBEq]
  first | refine cP (c4) ?_ | refine cD (c4) ?_
  simp (maxSteps := 2000000) (disch := omega) only [↓RS, RW, RB, RX, RE, RK, RT, evN, evA, evL, binV, unV, intOfV, lenV, TK.isAgg, sliceV, reduceCtorEq, Nat.reduceAdd, Nat.reduceLT, Nat.reduceLeDiff, List.reduceReplicate, elemsOf, added, view, view.viewL, view.viewLL, Nat.reducePow, Nat.reduceDiv, Nat.reduceMod, Nat.reduceEqDiff, Nat.reduceBEq]
  first | refine cP (v00) ?_ | refine cD (v00) ?_
  simp (maxSteps := 2000000) (disch := omega) only [↓RS, RW, RB, RX, RE, RK, RT, evN, evA, evL, binV, unV, intOfV, lenV, TK.isAgg, sliceV, reduceCtorEq, Nat.reduceAdd, Nat.reduceLT, Nat.reduceLeDiff, List.reduceReplicate, elemsOf, added, view, view.viewL, view.viewLL, Nat.reducePow, Nat.reduceDiv, Nat.reduceMod, Nat.reduceEqDiff, Nat.reduceBEq]
  first | refine cP (v22) ?_ | refine cD (v22) ?_
  simp (maxSteps := 2000000) (disch := omega) only [↓RS, RW, RB, RX, RE, RK, RT, evN, evA, evL, binV, unV, intOfV, lenV, TK.isAgg, sliceV, reduceCtorEq, Nat.reduceAdd, Nat.reduceLT, Nat.reduceLeDiff, List.reduceReplicate, elemsOf, added, view, view.viewL, view.viewLL, Nat.reducePow, Nat.reduceDiv, Nat.reduceMod, Nat.reduceEqDiff, Nat.reduceBEq]
  first | refine cP (c5) ?_ | refine cD (c5) ?_
  simp (maxSteps := 2000000) (disch := omega) only [↓RS, RW, RB, RX, RE, RK, RT, evN, evA, evL, binV, unV, intOfV, lenV, TK.isAgg, sliceV, reduceCtorEq, Nat.reduceAdd, Nat.reduceLT, Nat.reduceLeDiff, List.reduceReplicate, elemsOf, added, view, view.viewL, view.viewLL, Nat.reducePow, Nat.reduceDiv, Nat.reduceMod, Nat.reduceEqDiff, Nat.reduceBEq]
  first | refine cP (v00) ?_ | refine cD (v00) ?_
  simp (maxSteps := 2000000) (disch := omega) only [↓RS, RW, RB, RX, RE, RK, RT, evN, evA, evL, binV, unV, intOfV, lenV, TK.isAgg, sliceV, reduceCtorEq, Nat.reduceAdd, Nat.reduceLT, Nat.reduceLeDiff, List.reduceReplicate, elemsOf, added, view, view.viewL, view.viewLL, Nat.reducePow, Nat.reduceDiv, Nat.reduceMod, Nat.reduceEqDiff, Nat.reduceBEq]
  first | refine cP (v66) ?_ | refine cD (v66) ?_
  simp (maxSteps := 2000000) (disch := omega) only [↓RS, RW, RB, RX, RE, RK, RT, evN, evA, evL, binV, unV, intOfV, lenV, TK.isAgg, sliceV, reduceCtorEq, Nat.reduceAdd, Nat.reduceLT, Nat.reduceLeDiff, List.reduceReplicate, elemsOf, added, view, view.viewL, view.viewLL, Nat.reducePow, Nat.reduceDiv, Nat.reduceMod, Nat.reduceEqDiff, Nat.reduceBEq]
  first | refine cP (c6) ?_ | refine cD (c6) ?_
  simp (maxSteps := 2000000) (disch := omega) only [↓RS, RW, RB, RX, RE, RK, RT, evN, evA, evL, binV, unV, intOfV, lenV, TK.isAgg, sliceV, reduceCtorEq, Nat.reduceAdd, Nat.reduceLT, Nat.reduceLeDiff, List.reduceReplicate, elemsOf, added, view, view.viewL, view.viewLL, Nat.reducePow, Nat.reduceDiv, Nat.reduceMod, Nat.reduceEqDiff, Nat.reduceBEq]
  first | refine cP (o32) ?_ | refine cD (o32) ?_
  simp (maxSteps := 2000000) (disch := omega) only [↓RS, RW, RB, RX, RE, RK, RT, evN, evA, evL, binV, unV, intOfV, lenV, TK.isAgg, sliceV, reduceCtorEq, Nat.reduceAdd, Nat.reduceLT, Nat.reduceLeDiff, List.reduceReplicate, elemsOf, added, view, view.viewL, view.viewLL, Nat.reducePow, Nat.reduceDiv, Nat.reduceMod, Nat.reduceEqDiff, Nat.reduceBEq, e1]
  first | refine cP (v13) ?_ | refine cD (v13) ?_
  simp (maxSteps := 2000000) (disch := omega) only [↓RS, RW, RB, RX, RE, RK, RT, evN, evA, evL, binV, unV, intOfV, lenV, TK.isAgg, sliceV, reduceCtorEq, Nat.reduceAdd, Nat.reduceLT, Nat.reduceLeDiff, List.reduceReplicate, elemsOf, added, view, view.viewL, view.viewLL, Nat.reducePow, Nat.reduceDiv, Nat.reduceMod, Nat.reduceEqDiff, Nat.reduceBEq, e2]
  first | refine cP (v00) ?_ | refine cD (v00) ?_
  simp (maxSteps := 2000000) (disch := omega) only [↓RS, RW, RB, RX, RE, RK, RT, evN, evA, evL, binV, unV, intOfV, lenV, TK.isAgg, sliceV, reduceCtorEq, Nat.reduceAdd, Nat.reduceLT, Nat.reduceLeDiff, List.reduceReplicate, elemsOf, added, view, view.viewL, view.viewLL, Nat.reducePow, Nat.reduceDiv, Nat.reduceMod, Nat.reduceEqDiff, Nat.reduceBEq, e3]
end Go.Av
