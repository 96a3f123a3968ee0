/- Helping texts: Dz. -/
import Derived.Test.YtbidkolaahnbiaaGreatKDx
import Derived.Test.YtbidkolaahnbiaaGreatKMb
set_option linter.unusedSimpArgs false
set_option linter.unusedVariables false
namespace Go.Av
open Go.RowKit
open Go.Proofs.Tryz (prog)
/-- What is known of a polygon as it is read. -/
structure Read (O : List Rp) (hs : List (List Rp)) : Prop where
  o : O.length ≤ maxLen ∧ ∀ p ∈ O, p.fit
  n : hs.length ≤ maxLen
  h : ∀ l ∈ hs, l.length ≤ maxLen ∧ ∀ p ∈ l, p.fit
theorem big_le {p : Rp} (h : bigP p = false) : p.le (2 ^ 16) := by
  unfold bigP at h
  simp only [Bool.or_eq_false_iff, decide_eq_false_iff_not] at h
  exact ⟨⟨by omega, by omega⟩, ⟨by omega, by omega⟩⟩
theorem greatL_le {l : List Rp} (h : greatL l = false) : ∀ p ∈ l, p.le (2 ^ 16) := by
  intro p hp
  obtain ⟨i, hi, rfl⟩ := List.mem_iff_getElem.1 hp
  have := anyTo_get h hi
  rw [List.getD_eq_getElem?_getD, List.getElem?_eq_getElem hi] at this
  exact big_le this
theorem greatP_small {O : List Rp} {hs : List (List Rp)} (h : greatP O hs = false) : O.length ≤ 67 ∧ (∀ p ∈ O, p.le (2 ^ 16)) ∧ hs.length ≤ 10 ∧ ∀ l ∈ hs, l.length < 2 ^ 50 ∧ ∀ p ∈ l, p.le (2 ^ 16) := by
  unfold greatP at h
  simp only [Bool.or_eq_false_iff, decide_eq_false_iff_not] at h
  obtain ⟨h1, h2, h3, h4, h5, h6⟩ := h
  refine ⟨by omega, greatL_le h3, by omega, ?_⟩
  intro l hl
  obtain ⟨i, hi, rfl⟩ := List.mem_iff_getElem.1 hl
  have := anyTo_get h4 (show i < min hs.length 11 by omega)
  rw [List.getD_eq_getElem?_getD, List.getElem?_eq_getElem hi] at this
  simp only [Option.getD_some, Bool.or_eq_false_iff, decide_eq_false_iff_not] at this
  exact ⟨by omega, greatL_le this.2⟩

set_option maxHeartbeats 4000000 in
theorem fine_pc (O : List Rp) (hs : List (List Rp)) (hr : Read O hs) : ∃ b, PC prog 51 [pgV O hs] (.prim (.bool b)) ∧ (b = true → Fine O hs) := by
  have hm : maxLen < 2 ^ 63 := by decide
  have g := greatP_pc O hs (by have := hr.n; omega) (by have := hr.o.1; omega) hr.o.2 (fun l hl => ⟨by have := (hr.h l hl).1; omega, (hr.h l hl).2⟩)
  cases hg : greatP O hs with
  | true =>
    rw [hg] at g
    refine ⟨false, ?_, fun h => by cases h⟩
    refine PC_intro mixed (FnD.of (by kernel_rfl)) ?_
    conv in lcOf _ _ => cbv
    conv in ntOf _ _ => cbv
    conv in rsOf _ _ => cbv
    simp only [RN, Nat.reduceAdd, Nat.reduceSub]
    simp (maxSteps := 2000000) (disch := omega) only [↓RS, RW, RB, RX, RE, RK, RT, evN, evA, evL, binV, unV, intOfV, lenV, TK.isAgg, sliceV, reduceCtorEq, Nat.reduceAdd, Nat.reduceLT, Nat.reduceLeDiff, List.reduceReplicate, elemsOf, added, view, view.viewL, view.viewLL, Nat.reducePow, Nat.reduceDiv, Nat.reduceMod, Nat.reduceEqDiff, Nat.reduceBEq, pgV, hsV, rpsV]
    first | refine cP (g) ?_ | refine cD (g) ?_
    simp (maxSteps := 2000000) (disch := omega) only [↓RS, RW, RB, RX, RE, RK, RT, evN, evA, evL, binV, unV, intOfV, lenV, TK.isAgg, sliceV, reduceCtorEq, Nat.reduceAdd, Nat.reduceLT, Nat.reduceLeDiff, List.reduceReplicate, elemsOf, added, view, view.viewL, view.viewLL, Nat.reducePow, Nat.reduceDiv, Nat.reduceMod, Nat.reduceEqDiff, Nat.reduceBEq]
  | false =>
    rw [hg] at g
    obtain ⟨h1, h2, h3, h4⟩ := greatP_small hg
    have c := Pcheck_pc O hs (by omega) (by omega) h2 h4
    by_cases hz : chkP O hs = 0
    · rw [hz] at c
      refine ⟨true, ?_, fun _ => ⟨hz, h2, h4⟩⟩
      refine PC_intro mixed (FnD.of (by kernel_rfl)) ?_
      conv in lcOf _ _ => cbv
      conv in ntOf _ _ => cbv
      conv in rsOf _ _ => cbv
      simp only [RN, Nat.reduceAdd, Nat.reduceSub]
      simp (maxSteps := 2000000) (disch := omega) only [↓RS, RW, RB, RX, RE, RK, RT, evN, evA, evL, binV, unV, intOfV, lenV, TK.isAgg, sliceV, reduceCtorEq, Nat.reduceAdd, Nat.reduceLT, Nat.reduceLeDiff, List.reduceReplicate, elemsOf, added, view, view.viewL, view.viewLL, Nat.reducePow, Nat.reduceDiv, Nat.reduceMod, Nat.reduceEqDiff, Nat.reduceBEq, pgV, hsV, rpsV]
      first | refine cP (g) ?_ | refine cD (g) ?_
      simp (maxSteps := 2000000) (disch := omega) only [↓RS, RW, RB, RX, RE, RK, RT, evN, evA, evL, binV, unV, intOfV, lenV, TK.isAgg, sliceV, reduceCtorEq, Nat.reduceAdd, Nat.reduceLT, Nat.reduceLeDiff, List.reduceReplicate, elemsOf, added, view, view.viewL, view.viewLL, Nat.reducePow, Nat.reduceDiv, Nat.reduceMod, Nat.reduceEqDiff, Nat.reduceBEq, pgV, hsV, rpsV]
      first | refine cP (c) ?_ | refine cD (c) ?_
      simp (maxSteps := 2000000) (disch := omega) only [↓RS, RW, RB, RX, RE, RK, RT, evN, evA, evL, binV, unV, intOfV, lenV, TK.isAgg, sliceV, reduceCtorEq, Nat.reduceAdd, Nat.reduceLT, Nat.reduceLeDiff, List.reduceReplicate, elemsOf, added, view, view.viewL, view.viewLL, Nat.reducePow, Nat.reduceDiv, Nat.reduceMod, Nat.reduceEqDiff, Nat.reduceBEq]
    · refine ⟨false, ?_, fun h => by cases h⟩
      refine PC_intro mixed (FnD.of (by kernel_rfl)) ?_
      conv in lcOf _ _ => cbv
      conv in ntOf _ _ => cbv
      conv in rsOf _ _ => cbv
      simp only [RN, Nat.reduceAdd, Nat.reduceSub]
      simp (maxSteps := 2000000) (disch := omega) only [↓RS, RW, RB, RX, RE, RK, RT, evN, evA, evL, binV, unV, intOfV, lenV, TK.isAgg, sliceV, reduceCtorEq, Nat.reduceAdd, Nat.reduceLT, Nat.reduceLeDiff, List.reduceReplicate, elemsOf, added, view, view.viewL, view.viewLL, Nat.reducePow, Nat.reduceDiv, Nat.reduceMod, Nat.reduceEqDiff, Nat.reduceBEq, pgV, hsV, rpsV]
      first | refine cP (g) ?_ | refine cD (g) ?_
      simp (maxSteps := 2000000) (disch := omega) only [↓RS, RW, RB, RX, RE, RK, RT, evN, evA, evL, binV, unV, intOfV, lenV, TK.isAgg, sliceV, reduceCtorEq, Nat.reduceAdd, Nat.reduceLT, Nat.reduceLeDiff, List.reduceReplicate, elemsOf, added, view, view.viewL, view.viewLL, Nat.reducePow, Nat.reduceDiv, Nat.reduceMod, Nat.reduceEqDiff, Nat.reduceBEq, pgV, hsV, rpsV]
      first | refine cP (c) ?_ | refine cD (c) ?_
      simp (maxSteps := 2000000) (disch := omega) only [↓RS, RW, RB, RX, RE, RK, RT, evN, evA, evL, binV, unV, intOfV, lenV, TK.isAgg, sliceV, reduceCtorEq, Nat.reduceAdd, Nat.reduceLT, Nat.reduceLeDiff, List.reduceReplicate, elemsOf, added, view, view.viewL, view.viewLL, Nat.reducePow, Nat.reduceDiv, Nat.reduceMod, Nat.reduceEqDiff, Nat.reduceBEq]

end Go.Av
