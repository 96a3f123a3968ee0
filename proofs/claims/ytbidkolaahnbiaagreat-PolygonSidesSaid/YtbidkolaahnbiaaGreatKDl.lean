/- Helping texts: Dl. -/
import Derived.Test.YtbidkolaahnbiaaGreatKDj
set_option linter.unusedSimpArgs false
set_option linter.unusedVariables false
set_option maxRecDepth 100000
set_option maxHeartbeats 16000000
open Nat (reduceAdd reduceLT reduceLeDiff reducePow reduceDiv reduceMod reduceEqDiff)
namespace Go.Av
open Go.RowKit
open Go.Proofs.Tryz (prog)
def meetB (A B : List Pt) : Bool := (List.range A.length).any fun i => (List.range B.length).any fun k => (meetM (segOf A i) (segOf B k)).isSome
theorem meetB_true {A B : List Pt} {i k : Nat} (hi : i < A.length) (hk : k < B.length) (h : (meetM (segOf A i) (segOf B k)).isSome = true) : meetB A B = true :=
  List.any_eq_true.2 ⟨i, by simpa using hi, List.any_eq_true.2 ⟨k, by simpa using hk, h⟩⟩
theorem meetB_false {A B : List Pt} (h : ∀ i, i < A.length → ∀ k, k < B.length → (meetM (segOf A i) (segOf B k)).isSome = false) : meetB A B = false := by
  unfold meetB
  rw [List.any_eq_false]
  intro i hi
  simp only [List.mem_range] at hi
  rw [Bool.not_eq_true, List.any_eq_false]
  intro k hk
  simp only [List.mem_range] at hk
  rw [h i hi k hk]; simp

theorem meet_pc (A B : List Pt) (hA : Ring A) (hB : Ring B) : PC prog 232 [psV A, psV B] (.prim (.bool (meetB A B))) := by
  have a1 := hA.lo; have a2 := hA.hi; have a3 := hB.lo; have a4 := hB.hi
  have hLA : hl A (2 ^ 20) := hA.le (by omega)
  have hLB : hl B (2 ^ 20) := hB.le (by omega)
  have ea := Edges_pc A (by omega) hA.ne
  have eb := Edges_pc B (by omega) hB.ne
  refine PC_intro mixed (FnD.of (by kernel_rfl)) ?_
  conv in lcOf _ _ => cbv
  conv in ntOf _ _ => cbv
  conv in rsOf _ _ => cbv
  simp only [RN, Nat.reduceAdd, Nat.reduceSub]
  simp (maxSteps := 2000000) (disch := omega) only [↓RS, RZ, reduceCtorEq, reduceAdd, reduceLT, reduceLeDiff, List.reduceReplicate, reducePow, reduceDiv, reduceMod, reduceEqDiff, Nat.reduceBEq, psV]
  first | refine cP (ea) ?_ | refine cD (ea) ?_
  simp (maxSteps := 2000000) (disch := omega) only [↓RS, RZ, reduceCtorEq, reduceAdd, reduceLT, reduceLeDiff, List.reduceReplicate, reducePow, reduceDiv, reduceMod, reduceEqDiff, Nat.reduceBEq, ssV, sgc_length, edgesL_length]
  refine wp_lp (fun (i : Nat) J => ov [(0, psV A), (1, psV B), (13, ssV (edgesL A)), (14, .prim (.int .i64 ((A.length : Nat) : Int))), (15, .prim (.int .i64 ((i : Nat) : Int)))] J 0 36) (fun i _ => i ≤ A.length ∧ ∀ j, j < i → ∀ k, k < B.length → (meetM (segOf A j) (segOf B k)).isSome = false) (fun i => A.length - i) 0 rfl ⟨Nat.zero_le _, fun j hj => absurd hj (Nat.not_lt_zero j)⟩ ?_
  rintro i J H ⟨hi, hp⟩
  try conv in ov _ _ _ _ => simp only [ov, List.lookup, Option.getD_some, Option.getD_none, Nat.reduceAdd, Nat.reduceBEq]
  rcases Nat.lt_or_ge i A.length with hlt | hge
  · have g1 := edges_getD hlt
    simp (maxSteps := 2000000) (disch := omega) only [↓RS, RZ, reduceCtorEq, reduceAdd, reduceLT, reduceLeDiff, List.reduceReplicate, reducePow, reduceDiv, reduceMod, reduceEqDiff, Nat.reduceBEq, ssV, sgc_length, edgesL_length, g1, sgc, psV, set_app_len]
    first | refine cP (eb) ?_ | refine cD (eb) ?_
    simp (maxSteps := 2000000) (disch := omega) only [↓RS, RZ, reduceCtorEq, reduceAdd, reduceLT, reduceLeDiff, List.reduceReplicate, reducePow, reduceDiv, reduceMod, reduceEqDiff, Nat.reduceBEq, ssV, sgc_length, edgesL_length]
    refine wp_lp (fun (k : Nat) J => ov [(0, psV A), (1, psV B), (6, .ptr H.length 0 0), (13, ssV (edgesL A)), (14, .prim (.int .i64 ((A.length : Nat) : Int))), (15, .prim (.int .i64 ((i : Nat) : Int))), (20, ssV (edgesL B)), (21, .prim (.int .i64 ((B.length : Nat) : Int))), (22, .prim (.int .i64 ((k : Nat) : Int)))] J 0 36) (fun k H' => (k ≤ B.length ∧ ∀ j, j < k → (meetM (segOf A i) (segOf B j)).isSome = false) ∧ get H' H.length = some (.row 12 true [sgc (segOf A i)])) (fun k => B.length - k) 0 rfl ⟨⟨Nat.zero_le _, fun j hj => absurd hj (Nat.not_lt_zero j)⟩, get_app_len⟩ ?_
    rintro k J H' ⟨⟨hk, hq⟩, hg⟩
    try conv in ov _ _ _ _ => simp only [ov, List.lookup, Option.getD_some, Option.getD_none, Nat.reduceAdd, Nat.reduceBEq]
    rcases Nat.lt_or_ge k B.length with hkl | hkg
    · have g2 := edges_getD hkl
      have m := Smeet_pc (segOf A i) (segOf B k) (hs_seg hLA hlt) (hs_seg hLB hkl)
      have hg1 : ∀ x, get (H' ++ [x]) H.length = some (.row 12 true [sgc (segOf A i)]) := fun x => get_app hg
      have hg2 : ∀ x y, get (H' ++ [x] ++ [y]) H.length = some (.row 12 true [sgc (segOf A i)]) := fun x y => get_app (get_app hg)
      simp (maxSteps := 2000000) (disch := omega) only [↓RS, RZ, reduceCtorEq, reduceAdd, reduceLT, reduceLeDiff, List.reduceReplicate, reducePow, reduceDiv, reduceMod, reduceEqDiff, Nat.reduceBEq, ssV, sgc_length, edgesL_length, g2, sgc, set_app_len, hg1]
      first | refine cP (m) ?_ | refine cD (m) ?_
      cases hm : (meetM (segOf A i) (segOf B k)).isSome with
      | true =>
        rw [meetB_true hlt hkl hm]
        simp (maxSteps := 2000000) (disch := omega) only [↓RS, RZ, reduceCtorEq, reduceAdd, reduceLT, reduceLeDiff, List.reduceReplicate, reducePow, reduceDiv, reduceMod, reduceEqDiff, Nat.reduceBEq, sgV, s4V, set_app_len]
      | false =>
        simp (maxSteps := 2000000) (disch := omega) only [↓RS, RZ, reduceCtorEq, reduceAdd, reduceLT, reduceLeDiff, List.reduceReplicate, reducePow, reduceDiv, reduceMod, reduceEqDiff, Nat.reduceBEq, sgV, s4V, set_app_len]
        exact lp_next (k + 1) rfl ⟨⟨hkl, fun j hj => by
          rcases Nat.lt_or_ge j k with h | h
          · exact hq j h
          · rw [show j = k by omega]; exact hm⟩, hg2 _ _⟩ (by omega)
    · simp (maxSteps := 2000000) (disch := omega) only [↓RS, RZ, reduceCtorEq, reduceAdd, reduceLT, reduceLeDiff, List.reduceReplicate, reducePow, reduceDiv, reduceMod, reduceEqDiff, Nat.reduceBEq]
      exact lp_next (i + 1) rfl ⟨hlt, fun j hj k' hk' => by
        rcases Nat.lt_or_ge j i with h | h
        · exact hp j h k' hk'
        · rw [show j = i by omega]; exact hq k' (by omega)⟩ (by omega)
  · have hia : i = A.length := by omega
    subst hia
    rw [meetB_false hp]
    simp (maxSteps := 2000000) (disch := omega) only [↓RS, RZ, reduceCtorEq, reduceAdd, reduceLT, reduceLeDiff, List.reduceReplicate, reducePow, reduceDiv, reduceMod, reduceEqDiff, Nat.reduceBEq]

/-- Whether the first corner of a ring lies within another one. -/
def withinB (A B : List Pt) : Bool := decide (0 < sideS B (A.getD 0 default))
theorem within_pc (A B : List Pt) (hA : Ring A) (hB : Ring B) : PC prog 235 [psV A, psV B] (.prim (.bool (withinB A B))) := by
  have a1 := hA.lo
  have g := pc_getD (l := A) (k := 0) (by omega)
  have c := Inside_pc B (A.getD 0 default) hB (Nat.le_trans (hl_get hA.ht (by omega)) (by omega))
  refine PC_intro mixed (FnD.of (by kernel_rfl)) ?_
  conv in lcOf _ _ => cbv
  conv in ntOf _ _ => cbv
  conv in rsOf _ _ => cbv
  simp only [RN, Nat.reduceAdd, Nat.reduceSub]
  unfold withinB
  simp (maxSteps := 2000000) (disch := omega) only [↓RS, RZ, reduceCtorEq, reduceAdd, reduceLT, reduceLeDiff, List.reduceReplicate, reducePow, reduceDiv, reduceMod, reduceEqDiff, Nat.reduceBEq, psV, pc_length, g, pc]
  first | refine cP (c) ?_ | refine cD (c) ?_
  by_cases h : 0 < sideS B (A.getD 0 default)
  · rw [decide_eq_true h]
    simp (maxSteps := 2000000) (disch := omega) only [↓RS, RZ, reduceCtorEq, reduceAdd, reduceLT, reduceLeDiff, List.reduceReplicate, reducePow, reduceDiv, reduceMod, reduceEqDiff, Nat.reduceBEq]
  · rw [decide_eq_false h]
    simp (maxSteps := 2000000) (disch := omega) only [↓RS, RZ, reduceCtorEq, reduceAdd, reduceLT, reduceLeDiff, List.reduceReplicate, reducePow, reduceDiv, reduceMod, reduceEqDiff, Nat.reduceBEq]

theorem hole1_sc (h x : List Pt) (h1 : Ring h) (h2 : Ring x) {b : Nat} {H : Hp} {K : V → Hp → Prop} (hb : get H b = some (.row 1 true [[psV h]])) (hK : K (.prim (.bool (meetB h x))) H) : SC prog 234 [psV x, .ptr b 0 0] H K := by
  have c := meet_pc h x h1 h2
  refine SC_intro mixed (FnD.of (by kernel_rfl)) ?_
  conv in lcOf _ _ => cbv
  conv in ntOf _ _ => cbv
  conv in rsOf _ _ => cbv
  simp only [RN, Nat.reduceAdd, Nat.reduceSub]
  simp (maxSteps := 2000000) (disch := omega) only [↓RS, RZ, reduceCtorEq, reduceAdd, reduceLT, reduceLeDiff, List.reduceReplicate, reducePow, reduceDiv, reduceMod, reduceEqDiff, Nat.reduceBEq, hb, psV]
  first | refine cP (c) ?_ | refine cD (c) ?_
  simp (maxSteps := 2000000) (disch := omega) only [↓RS, RZ, reduceCtorEq, reduceAdd, reduceLT, reduceLeDiff, List.reduceReplicate, reducePow, reduceDiv, reduceMod, reduceEqDiff, Nat.reduceBEq]
  exact hK
theorem hole2_sc (h x : List Pt) (h1 : Ring h) (h2 : Ring x) {b : Nat} {H : Hp} {K : V → Hp → Prop} (hb : get H b = some (.row 1 true [[psV h]])) (hK : K (.prim (.bool (withinB h x || withinB x h))) H) : SC prog 236 [psV x, .ptr b 0 0] H K := by
  have c := within_pc h x h1 h2
  have d := within_pc x h h2 h1
  refine SC_intro mixed (FnD.of (by kernel_rfl)) ?_
  conv in lcOf _ _ => cbv
  conv in ntOf _ _ => cbv
  conv in rsOf _ _ => cbv
  simp only [RN, Nat.reduceAdd, Nat.reduceSub]
  simp (maxSteps := 2000000) (disch := omega) only [↓RS, RZ, reduceCtorEq, reduceAdd, reduceLT, reduceLeDiff, List.reduceReplicate, reducePow, reduceDiv, reduceMod, reduceEqDiff, Nat.reduceBEq, hb, psV]
  first | refine cP (c) ?_ | refine cD (c) ?_
  cases hw : withinB h x with
  | true =>
    rw [hw, Bool.true_or] at hK
    simp (maxSteps := 2000000) (disch := omega) only [↓RS, RZ, reduceCtorEq, reduceAdd, reduceLT, reduceLeDiff, List.reduceReplicate, reducePow, reduceDiv, reduceMod, reduceEqDiff, Nat.reduceBEq]
    exact hK
  | false =>
    rw [hw, Bool.false_or] at hK
    simp (maxSteps := 2000000) (disch := omega) only [↓RS, RZ, reduceCtorEq, reduceAdd, reduceLT, reduceLeDiff, List.reduceReplicate, reducePow, reduceDiv, reduceMod, reduceEqDiff, Nat.reduceBEq, hb, psV]
    first | refine cP (d) ?_ | refine cD (d) ?_
    simp (maxSteps := 2000000) (disch := omega) only [↓RS, RZ, reduceCtorEq, reduceAdd, reduceLT, reduceLeDiff, List.reduceReplicate, reducePow, reduceDiv, reduceMod, reduceEqDiff, Nat.reduceBEq]
    exact hK
end Go.Av
