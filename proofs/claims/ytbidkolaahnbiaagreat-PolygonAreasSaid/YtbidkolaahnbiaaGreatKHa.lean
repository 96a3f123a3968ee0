/- Helping texts: Ha. -/
import Derived.Test.YtbidkolaahnbiaaGreatKMm
import Derived.Test.YtbidkolaahnbiaaGreatKDz
set_option linter.unusedSimpArgs false
set_option linter.unusedVariables false
namespace Go.Av
open Go.RowKit
open Go.Proofs.Tryz (prog)
def backTo (A : Rat) (Hs : List (List Pt)) : Nat → Rat
  | 0 => A
  | i + 1 => backTo A Hs i + areaL (Hs.getD i [])
theorem backTo_sum (A : Rat) (Hs : List (List Pt)) : backTo A Hs Hs.length = A + lsum areaL Hs := by
  have : ∀ i, i ≤ Hs.length → backTo A Hs i = A + lsum areaL (Hs.take i) := by
    intro i
    induction i with
    | zero => intro _; simp only [backTo, List.take_zero, lsum]; grind
    | succ i ih =>
      intro hi
      rw [List.take_add_one, List.getElem?_eq_getElem (by omega), lsum_app]
      simp only [backTo, ih (by omega), Option.toList, lsum]
      rw [List.getD_eq_getElem?_getD, List.getElem?_eq_getElem (by omega)]
      simp only [Option.getD_some]
      grind
  have h := this Hs.length (Nat.le_refl _)
  rwa [List.take_length] at h
theorem ht_backTo {L : List Pt} {Hs : List (List Pt)} (h : Rgs L Hs) {A : Rat} (hA : ht A ≤ 2 ^ 29) : ∀ i, i ≤ Hs.length → ht (backTo A Hs i) ≤ 2 ^ 29 + i * (2 ^ 25 + 1)
  | 0, _ => by simp only [backTo]; omega
  | i + 1, hi => by
    have h1 := ht_backTo h hA i (by omega)
    have h2 := ht_areaL (h.hole hi)
    have h3 := ht_add (backTo A Hs i) (areaL (Hs.getD i []))
    simp only [backTo]
    omega

set_option maxRecDepth 100000 in
set_option maxHeartbeats 16000000 in
theorem polygonAreas_pc (O : List Rp) (hs : List (List Rp)) (hr : Read O hs) : PC prog 9 [pgV O hs] (.prim (.bool true)) := by
  obtain ⟨b, f, hb⟩ := fine_pc O hs hr
  have aw := awake_pc
  cases b with
  | false =>
    refine PC_intro mixed (FnD.of (by kernel_rfl)) ?_
    conv in lcOf _ _ => cbv
    conv in ntOf _ _ => cbv
    conv in rsOf _ _ => cbv
    simp only [RN, Nat.reduceAdd, Nat.reduceSub]
    simp (maxSteps := 2000000) (disch := omega) only [↓RS, RW, RB, RX, RE, RK, RT, evN, evA, evL, binV, unV, intOfV, lenV, TK.isAgg, sliceV, reduceCtorEq, Nat.reduceAdd, Nat.reduceLT, Nat.reduceLeDiff, List.reduceReplicate, elemsOf, added, view, view.viewL, view.viewLL, Nat.reducePow, Nat.reduceDiv, Nat.reduceMod, Nat.reduceEqDiff, Nat.reduceBEq, pgV, hsV, rpsV]
    first | refine cP (f) ?_ | refine cD (f) ?_
    simp (maxSteps := 2000000) (disch := omega) only [↓RS, RW, RB, RX, RE, RK, RT, evN, evA, evL, binV, unV, intOfV, lenV, TK.isAgg, sliceV, reduceCtorEq, Nat.reduceAdd, Nat.reduceLT, Nat.reduceLeDiff, List.reduceReplicate, elemsOf, added, view, view.viewL, view.viewLL, Nat.reducePow, Nat.reduceDiv, Nat.reduceMod, Nat.reduceEqDiff, Nat.reduceBEq]
    first | refine cP (aw) ?_ | refine cD (aw) ?_
    simp (maxSteps := 2000000) (disch := omega) only [↓RS, RW, RB, RX, RE, RK, RT, evN, evA, evL, binV, unV, intOfV, lenV, TK.isAgg, sliceV, reduceCtorEq, Nat.reduceAdd, Nat.reduceLT, Nat.reduceLeDiff, List.reduceReplicate, elemsOf, added, view, view.viewL, view.viewLL, Nat.reducePow, Nat.reduceDiv, Nat.reduceMod, Nat.reduceEqDiff, Nat.reduceBEq]
  | true =>
    have hf := hb rfl
    have ar := AreaP_pc hf
    have hp := hf.valid.areaPos
    have hg := hf.rgs
    have hlen : (hs.map pts).length = hs.length := List.length_map ..
    rw [← hlen] at ar
    rw [hf.val] at f ⊢
    clear hb hf
    generalize hs.map pts = Hs at *
    generalize pts O = L at *
    rw [← areaP_sum] at hp
    have h8 := hg.few
    have hi := hg.out.hi
    have t0 := ht_areaPTo hg Hs.length (Nat.le_refl _)
    have t1 : (Hs.length + 1) * (2 ^ 25 + 1) ≤ 9 * (2 ^ 25 + 1) := Nat.mul_le_mul_right _ (by omega)
    have e := backTo_sum (areaPTo L Hs Hs.length) Hs
    rw [areaP_sum] at e
    have e : backTo (areaPTo L Hs Hs.length) Hs Hs.length = areaL L := by rw [areaP_sum, e]; grind
    generalize areaPTo L Hs Hs.length = A at *
    have sg := signQ_pc A (by omega)
    have bk := @ht_backTo L Hs hg A (by omega)
    have aO := Area_pc L (by omega) hg.out.ht
    have tO := ht_areaL hg.out
    have cq := cmpQ_pc (areaL L) (areaL L) (by omega) (by omega)
    have c1 : cmpQ A 0 = 1 := by unfold cmpQ; rw [if_neg (by grind), if_pos hp]
    have c2 : cmpQ (areaL L) (areaL L) = 0 := cmpQ_zero.2 rfl
    rw [c1] at sg
    rw [c2] at cq
    refine PC_intro mixed (FnD.of (by kernel_rfl)) ?_
    conv in lcOf _ _ => cbv
    conv in ntOf _ _ => cbv
    conv in rsOf _ _ => cbv
    simp only [RN, Nat.reduceAdd, Nat.reduceSub]
    simp (maxSteps := 2000000) (disch := omega) only [↓RS, RW, RB, RX, RE, RK, RT, evN, evA, evL, binV, unV, intOfV, lenV, TK.isAgg, sliceV, reduceCtorEq, Nat.reduceAdd, Nat.reduceLT, Nat.reduceLeDiff, List.reduceReplicate, elemsOf, added, view, view.viewL, view.viewLL, Nat.reducePow, Nat.reduceDiv, Nat.reduceMod, Nat.reduceEqDiff, Nat.reduceBEq, cgV, psV]
    first | refine cP (f) ?_ | refine cD (f) ?_
    simp (maxSteps := 2000000) (disch := omega) only [↓RS, RW, RB, RX, RE, RK, RT, evN, evA, evL, binV, unV, intOfV, lenV, TK.isAgg, sliceV, reduceCtorEq, Nat.reduceAdd, Nat.reduceLT, Nat.reduceLeDiff, List.reduceReplicate, elemsOf, added, view, view.viewL, view.viewLL, Nat.reducePow, Nat.reduceDiv, Nat.reduceMod, Nat.reduceEqDiff, Nat.reduceBEq, psV]
    first | refine cP (ar) ?_ | refine cD (ar) ?_
    simp (maxSteps := 2000000) (disch := omega) only [↓RS, RW, RB, RX, RE, RK, RT, evN, evA, evL, binV, unV, intOfV, lenV, TK.isAgg, sliceV, reduceCtorEq, Nat.reduceAdd, Nat.reduceLT, Nat.reduceLeDiff, List.reduceReplicate, elemsOf, added, view, view.viewL, view.viewLL, Nat.reducePow, Nat.reduceDiv, Nat.reduceMod, Nat.reduceEqDiff, Nat.reduceBEq, qV, rV]
    first | refine cP (sg) ?_ | refine cD (sg) ?_
    simp (maxSteps := 2000000) (disch := omega) only [↓RS, RW, RB, RX, RE, RK, RT, evN, evA, evL, binV, unV, intOfV, lenV, TK.isAgg, sliceV, reduceCtorEq, Nat.reduceAdd, Nat.reduceLT, Nat.reduceLeDiff, List.reduceReplicate, elemsOf, added, view, view.viewL, view.viewLL, Nat.reducePow, Nat.reduceDiv, Nat.reduceMod, Nat.reduceEqDiff, Nat.reduceBEq, one_length, pgs_length]
    refine wp_lp (fun (i : Nat) J => J 0 :: .ptr 0 0 0 :: .prim (.bool false) :: .ptr 1 0 0 :: .prim (.int .i64 (0)) :: J 5 :: J 6 :: J 7 :: J 8 :: J 9 :: J 10 :: J 11 :: J 12 :: J 13 :: J 14 :: J 15 :: J 16 :: J 17 :: J 18 :: J 19 :: J 20 :: J 21 :: J 22 :: J 23 :: .lst 1 ((Hs.map psV).map fun v => [v]) :: .prim (.int .i64 ((Hs.length : Nat) : Int)) :: .prim (.int .i64 ((i : Nat) : Int)) :: J 27 :: J 28 :: J 29 :: J 30 :: J 31 :: J 32 :: J 33 :: J 34 :: J 35 :: J 36 :: J 37 :: J 38 :: J 39 :: J 40 :: J 41 :: J 42 :: J 43 :: []) (fun i H => i ≤ Hs.length ∧ H = [some (.row 2 true [[.lst 6 (L.map pc), .lst 1 ((Hs.map psV).map fun v => [v])]]), some (.row 3 true [qc (backTo A Hs i)])]) (fun i => Hs.length - i) 0 rfl ⟨Nat.zero_le _, rfl⟩ ?_
    rintro i J _ ⟨hi, rfl⟩
    rcases Nat.lt_or_ge i Hs.length with hlt | hge
    · have g := pg_getD hlt
      have rh := hg.hole hlt
      have r2 := rh.hi
      have a := Area_pc (Hs.getD i []) (by omega) rh.ht
      have t3 := bk i (by omega)
      have t2 := ht_areaL rh
      have t4 : i * (2 ^ 25 + 1) ≤ 9 * (2 ^ 25 + 1) := Nat.mul_le_mul_right _ (by omega)
      have s := addQ_pc (backTo A Hs i) (areaL (Hs.getD i [])) (by omega) (by omega)
      simp (maxSteps := 2000000) (disch := omega) only [↓RS, RW, RB, RX, RE, RK, RT, evN, evA, evL, binV, unV, intOfV, lenV, TK.isAgg, sliceV, reduceCtorEq, Nat.reduceAdd, Nat.reduceLT, Nat.reduceLeDiff, List.reduceReplicate, elemsOf, added, view, view.viewL, view.viewLL, Nat.reducePow, Nat.reduceDiv, Nat.reduceMod, Nat.reduceEqDiff, Nat.reduceBEq, one_length, pgs_length, g, qc, psV]
      first | refine cP (a) ?_ | refine cD (a) ?_
      simp (maxSteps := 2000000) (disch := omega) only [↓RS, RW, RB, RX, RE, RK, RT, evN, evA, evL, binV, unV, intOfV, lenV, TK.isAgg, sliceV, reduceCtorEq, Nat.reduceAdd, Nat.reduceLT, Nat.reduceLeDiff, List.reduceReplicate, elemsOf, added, view, view.viewL, view.viewLL, Nat.reducePow, Nat.reduceDiv, Nat.reduceMod, Nat.reduceEqDiff, Nat.reduceBEq, qV, rV]
      first | refine cP (s) ?_ | refine cD (s) ?_
      simp (maxSteps := 2000000) (disch := omega) only [↓RS, RW, RB, RX, RE, RK, RT, evN, evA, evL, binV, unV, intOfV, lenV, TK.isAgg, sliceV, reduceCtorEq, Nat.reduceAdd, Nat.reduceLT, Nat.reduceLeDiff, List.reduceReplicate, elemsOf, added, view, view.viewL, view.viewLL, Nat.reducePow, Nat.reduceDiv, Nat.reduceMod, Nat.reduceEqDiff, Nat.reduceBEq, qV, rV, qc]
      exact lp_next (i + 1) rfl ⟨hlt, rfl⟩ (by omega)
    · have hia : i = Hs.length := by omega
      subst hia
      rw [e]
      simp (maxSteps := 2000000) (disch := omega) only [↓RS, RW, RB, RX, RE, RK, RT, evN, evA, evL, binV, unV, intOfV, lenV, TK.isAgg, sliceV, reduceCtorEq, Nat.reduceAdd, Nat.reduceLT, Nat.reduceLeDiff, List.reduceReplicate, elemsOf, added, view, view.viewL, view.viewLL, Nat.reducePow, Nat.reduceDiv, Nat.reduceMod, Nat.reduceEqDiff, Nat.reduceBEq, one_length, pgs_length, qc, psV]
      first | refine cP (aO) ?_ | refine cD (aO) ?_
      simp (maxSteps := 2000000) (disch := omega) only [↓RS, RW, RB, RX, RE, RK, RT, evN, evA, evL, binV, unV, intOfV, lenV, TK.isAgg, sliceV, reduceCtorEq, Nat.reduceAdd, Nat.reduceLT, Nat.reduceLeDiff, List.reduceReplicate, elemsOf, added, view, view.viewL, view.viewLL, Nat.reducePow, Nat.reduceDiv, Nat.reduceMod, Nat.reduceEqDiff, Nat.reduceBEq, qV, rV]
      first | refine cP (cq) ?_ | refine cD (cq) ?_
      simp (maxSteps := 2000000) (disch := omega) only [↓RS, RW, RB, RX, RE, RK, RT, evN, evA, evL, binV, unV, intOfV, lenV, TK.isAgg, sliceV, reduceCtorEq, Nat.reduceAdd, Nat.reduceLT, Nat.reduceLeDiff, List.reduceReplicate, elemsOf, added, view, view.viewL, view.viewLL, Nat.reducePow, Nat.reduceDiv, Nat.reduceMod, Nat.reduceEqDiff, Nat.reduceBEq]
      first | refine cP (aw) ?_ | refine cD (aw) ?_
      simp (maxSteps := 2000000) (disch := omega) only [↓RS, RW, RB, RX, RE, RK, RT, evN, evA, evL, binV, unV, intOfV, lenV, TK.isAgg, sliceV, reduceCtorEq, Nat.reduceAdd, Nat.reduceLT, Nat.reduceLeDiff, List.reduceReplicate, elemsOf, added, view, view.viewL, view.viewLL, Nat.reducePow, Nat.reduceDiv, Nat.reduceMod, Nat.reduceEqDiff, Nat.reduceBEq]
end Go.Av
