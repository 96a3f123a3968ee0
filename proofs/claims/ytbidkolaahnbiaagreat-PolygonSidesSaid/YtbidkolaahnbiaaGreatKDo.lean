/- Helping texts: Do. -/
import Derived.Test.YtbidkolaahnbiaaGreatKDm
set_option linter.unusedSimpArgs false
set_option linter.unusedVariables false
set_option maxRecDepth 100000
set_option maxHeartbeats 16000000
open Nat (reduceAdd reduceLT reduceLeDiff reducePow reduceDiv reduceMod reduceEqDiff)
namespace Go.Av
open Go.RowKit
open Go.Proofs.Tryz (prog)
def bigP (p : Rp) : Bool := decide (12 < p.x.num.length) || (decide (12 < p.x.den.length) || (decide (12 < p.y.num.length) || decide (12 < p.y.den.length)))
def greatL (l : List Rp) : Bool := anyTo l.length fun i => bigP (l.getD i default)
theorem anyTo_true {n i : Nat} {p : Nat → Bool} (hi : i < n) (h : p i = true) : anyTo n p = true := List.any_eq_true.2 ⟨i, by simpa using hi, h⟩
theorem anyTo_false {n : Nat} {p : Nat → Bool} (h : ∀ i, i < n → p i = false) : anyTo n p = false := by
  unfold anyTo; rw [List.any_eq_false]; intro i hi; rw [h i (by simpa using hi)]; simp
theorem anyTo_get {n i : Nat} {p : Nat → Bool} (h : anyTo n p = false) (hi : i < n) : p i = false := by
  cases hp : p i with
  | false => rfl
  | true => rw [anyTo_true hi hp] at h; cases h

theorem great_pc (l : List Rp) (hn : l.length < 2 ^ 63) (hf : ∀ p ∈ l, p.fit) : PC prog 56 [rpsV l] (.prim (.bool (greatL l))) := by
  refine PC_intro mixed (FnD.of (by kernel_rfl)) ?_
  conv in lcOf _ _ => cbv
  conv in ntOf _ _ => cbv
  conv in rsOf _ _ => cbv
  simp only [RN, Nat.reduceAdd, Nat.reduceSub]
  simp (maxSteps := 2000000) (disch := omega) only [↓RS, RZ, reduceCtorEq, reduceAdd, reduceLT, reduceLeDiff, List.reduceReplicate, reducePow, reduceDiv, reduceMod, reduceEqDiff, Nat.reduceBEq]
  refine wp_lp (fun (i : Nat) J => ov [(0, rpsV l), (3, .prim (.int .i64 ((i : Nat) : Int)))] J 0 48) (fun i H => (i ≤ l.length ∧ ∀ j, j < i → bigP (l.getD j default) = false) ∧ H = []) (fun i => l.length - i) 0 rfl ⟨⟨Nat.zero_le _, fun j hj => absurd hj (Nat.not_lt_zero j)⟩, rfl⟩ ?_
  rintro i J _ ⟨⟨hi, hp⟩, rfl⟩
  try conv in ov _ _ _ _ => simp only [ov, List.lookup, Option.getD_some, Option.getD_none, Nat.reduceAdd, Nat.reduceBEq]
  rcases Nat.lt_or_ge i l.length with hlt | hge
  · have g := rpc_getD hlt
    have hmem : l.getD i default ∈ l := by rw [List.getD_eq_getElem?_getD, List.getElem?_eq_getElem hlt]; exact List.getElem_mem hlt
    have hfit := hf _ hmem
    generalize hp' : l.getD i default = p at g hfit
    obtain ⟨⟨f1, f2⟩, f3, f4⟩ := hfit
    have hm : maxLen < 2 ^ 63 := by decide
    by_cases c1 : 12 < p.x.num.length
    · rw [show greatL l = true from anyTo_true hlt (by rw [hp']; simp only [bigP, decide_eq_true_eq, Bool.or_eq_true]; omega)]
      simp (maxSteps := 2000000) (disch := omega) only [↓RS, RZ, reduceCtorEq, reduceAdd, reduceLT, reduceLeDiff, List.reduceReplicate, reducePow, reduceDiv, reduceMod, reduceEqDiff, Nat.reduceBEq, rpsV, rpc_length, g, rpc, bs_size]
    · by_cases c2 : 12 < p.x.den.length
      · rw [show greatL l = true from anyTo_true hlt (by rw [hp']; simp only [bigP, decide_eq_true_eq, Bool.or_eq_true]; omega)]
        simp (maxSteps := 2000000) (disch := omega) only [↓RS, RZ, reduceCtorEq, reduceAdd, reduceLT, reduceLeDiff, List.reduceReplicate, reducePow, reduceDiv, reduceMod, reduceEqDiff, Nat.reduceBEq, rpsV, rpc_length, g, rpc, bs_size]
      · by_cases c3 : 12 < p.y.num.length
        · rw [show greatL l = true from anyTo_true hlt (by rw [hp']; simp only [bigP, decide_eq_true_eq, Bool.or_eq_true]; omega)]
          simp (maxSteps := 2000000) (disch := omega) only [↓RS, RZ, reduceCtorEq, reduceAdd, reduceLT, reduceLeDiff, List.reduceReplicate, reducePow, reduceDiv, reduceMod, reduceEqDiff, Nat.reduceBEq, rpsV, rpc_length, g, rpc, bs_size]
        · by_cases c4 : 12 < p.y.den.length
          · rw [show greatL l = true from anyTo_true hlt (by rw [hp']; simp only [bigP, decide_eq_true_eq, Bool.or_eq_true]; omega)]
            simp (maxSteps := 2000000) (disch := omega) only [↓RS, RZ, reduceCtorEq, reduceAdd, reduceLT, reduceLeDiff, List.reduceReplicate, reducePow, reduceDiv, reduceMod, reduceEqDiff, Nat.reduceBEq, rpsV, rpc_length, g, rpc, bs_size]
          · simp (maxSteps := 2000000) (disch := omega) only [↓RS, RZ, reduceCtorEq, reduceAdd, reduceLT, reduceLeDiff, List.reduceReplicate, reducePow, reduceDiv, reduceMod, reduceEqDiff, Nat.reduceBEq, rpsV, rpc_length, g, rpc, bs_size]
            exact lp_next (i + 1) rfl ⟨⟨hlt, fun j hj => by
              rcases Nat.lt_or_ge j i with h | h
              · exact hp j h
              · rw [show j = i by omega, hp']; simp only [bigP, decide_eq_false c1, decide_eq_false c2, decide_eq_false c3, decide_eq_false c4]; rfl⟩, rfl⟩ (by omega)
  · have hia : i = l.length := by omega
    subst hia
    have : greatL l = false := anyTo_false hp
    rw [this]
    simp (maxSteps := 2000000) (disch := omega) only [↓RS, RZ, reduceCtorEq, reduceAdd, reduceLT, reduceLeDiff, List.reduceReplicate, reducePow, reduceDiv, reduceMod, reduceEqDiff, Nat.reduceBEq, rpsV, rpc_length]

/-- Whether a polygon is larger than the statements examine. -/
def greatP (O : List Rp) (hs : List (List Rp)) : Bool :=
  decide (10 < O.length ∧ O.length ≤ 64) || (decide (67 < O.length) || (greatL O || (anyTo (min hs.length 11) (fun i => decide (6 < (hs.getD i []).length) || greatL (hs.getD i [])) || (decide (3 < hs.length ∧ hs.length ≤ 8) || decide (10 < hs.length)))))
theorem greatP_pc (O : List Rp) (hs : List (List Rp)) (hn : hs.length < 2 ^ 63) (nO : O.length < 2 ^ 63) (kO : ∀ p ∈ O, p.fit) (kh : ∀ l ∈ hs, l.length < 2 ^ 63 ∧ ∀ p ∈ l, p.fit) :
    PC prog 61 [pgV O hs] (.prim (.bool (greatP O hs))) := by
  have c := great_pc O nO kO
  have mem : ∀ j, j < hs.length → hs.getD j [] ∈ hs := fun j hj => by
    rw [List.getD_eq_getElem?_getD, List.getElem?_eq_getElem hj]; exact List.getElem_mem hj
  refine PC_intro mixed (FnD.of (by kernel_rfl)) ?_
  conv in lcOf _ _ => cbv
  conv in ntOf _ _ => cbv
  conv in rsOf _ _ => cbv
  simp only [RN, Nat.reduceAdd, Nat.reduceSub]
  by_cases c1 : 10 < O.length ∧ O.length ≤ 64
  · obtain ⟨c1, c1'⟩ := c1
    rw [show greatP O hs = true by unfold greatP; rw [decide_eq_true (show 10 < O.length ∧ O.length ≤ 64 from ⟨c1, c1'⟩)]; rfl]
    simp (maxSteps := 2000000) (disch := omega) only [↓RS, RZ, reduceCtorEq, reduceAdd, reduceLT, reduceLeDiff, List.reduceReplicate, reducePow, reduceDiv, reduceMod, reduceEqDiff, Nat.reduceBEq, pgV, hsV, rpsV, rpc_length, one_length, hs_length]
  have d1 : decide (10 < O.length ∧ O.length ≤ 64) = false := decide_eq_false c1
  by_cases c2 : 67 < O.length
  · rw [show greatP O hs = true by unfold greatP; rw [decide_eq_true c2]; simp]
    simp (maxSteps := 2000000) (disch := omega) only [↓RS, RZ, reduceCtorEq, reduceAdd, reduceLT, reduceLeDiff, List.reduceReplicate, reducePow, reduceDiv, reduceMod, reduceEqDiff, Nat.reduceBEq, pgV, hsV, rpsV, rpc_length, one_length, hs_length]
  have d2 : decide (67 < O.length) = false := decide_eq_false c2
  cases c3 : greatL O with
  | true =>
    rw [show greatP O hs = true by unfold greatP; rw [c3]; simp]
    rw [c3] at c
    rcases Nat.lt_or_ge 10 O.length with hl1 | hl1
    · have hl2 : 64 < O.length := by omega
      simp (maxSteps := 2000000) (disch := omega) only [↓RS, RZ, reduceCtorEq, reduceAdd, reduceLT, reduceLeDiff, List.reduceReplicate, reducePow, reduceDiv, reduceMod, reduceEqDiff, Nat.reduceBEq, pgV, hsV, rpsV, rpc_length, one_length, hs_length]
      first | refine cP (c) ?_ | refine cD (c) ?_
      simp (maxSteps := 2000000) (disch := omega) only [↓RS, RZ, reduceCtorEq, reduceAdd, reduceLT, reduceLeDiff, List.reduceReplicate, reducePow, reduceDiv, reduceMod, reduceEqDiff, Nat.reduceBEq]
    · simp (maxSteps := 2000000) (disch := omega) only [↓RS, RZ, reduceCtorEq, reduceAdd, reduceLT, reduceLeDiff, List.reduceReplicate, reducePow, reduceDiv, reduceMod, reduceEqDiff, Nat.reduceBEq, pgV, hsV, rpsV, rpc_length, one_length, hs_length]
      first | refine cP (c) ?_ | refine cD (c) ?_
      simp (maxSteps := 2000000) (disch := omega) only [↓RS, RZ, reduceCtorEq, reduceAdd, reduceLT, reduceLeDiff, List.reduceReplicate, reducePow, reduceDiv, reduceMod, reduceEqDiff, Nat.reduceBEq]
  | false =>
    rw [c3] at c
    have fin : ∀ (b : Bool), (anyTo (min hs.length 11) (fun i => decide (6 < (hs.getD i []).length) || greatL (hs.getD i [])) || (decide (3 < hs.length ∧ hs.length ≤ 8) || decide (10 < hs.length))) = b → greatP O hs = b := by
      intro b hb; unfold greatP; rw [d1, d2, c3, hb]; rfl
    rcases Nat.lt_or_ge 10 O.length with hl1 | hl1
    · have hl2 : 64 < O.length := by omega
      simp (maxSteps := 2000000) (disch := omega) only [↓RS, RZ, reduceCtorEq, reduceAdd, reduceLT, reduceLeDiff, List.reduceReplicate, reducePow, reduceDiv, reduceMod, reduceEqDiff, Nat.reduceBEq, pgV, hsV, rpsV, rpc_length, one_length, hs_length]
      first | refine cP (c) ?_ | refine cD (c) ?_
      simp (maxSteps := 2000000) (disch := omega) only [↓RS, RZ, reduceCtorEq, reduceAdd, reduceLT, reduceLeDiff, List.reduceReplicate, reducePow, reduceDiv, reduceMod, reduceEqDiff, Nat.reduceBEq]
      refine wp_lp (fun (i : Nat) J => ov [(1, .ptr 0 0 0), (4, .prim (.int .i64 ((i : Nat) : Int)))] J 0 65) (fun i H => (i ≤ min hs.length 11 ∧ ∀ j, j < i → (decide (6 < (hs.getD j []).length) || greatL (hs.getD j [])) = false) ∧ H = [some (.row 2 true [[rpsV O, hsV hs]])]) (fun i => 11 - i) 0 rfl ⟨⟨Nat.zero_le _, fun j hj => absurd hj (Nat.not_lt_zero j)⟩, rfl⟩ ?_
      rintro i J _ ⟨⟨hi, hp⟩, rfl⟩
      try conv in ov _ _ _ _ => simp only [ov, List.lookup, Option.getD_some, Option.getD_none, Nat.reduceAdd, Nat.reduceBEq]
      rcases Nat.lt_or_ge i (min hs.length 11) with hlt | hge
      · have hi1 : i < hs.length := by omega
        have hi2 : i < 11 := by omega
        have g : ((hs.map rpsV).map fun v => [v]).getD i [] = [rpsV (hs.getD i [])] := by rw [one_getD (by rw [hs_length]; exact hi1), hs_getD hi1]
        have d := great_pc (hs.getD i []) (kh _ (mem i hi1)).1 (kh _ (mem i hi1)).2
        have hll := (kh _ (mem i hi1)).1
        by_cases h6 : 6 < (hs.getD i []).length
        · rw [fin true (by rw [anyTo_true hlt (by rw [decide_eq_true h6]; rfl)]; rfl)]
          simp (maxSteps := 2000000) (disch := omega) only [↓RS, RZ, reduceCtorEq, reduceAdd, reduceLT, reduceLeDiff, List.reduceReplicate, reducePow, reduceDiv, reduceMod, reduceEqDiff, Nat.reduceBEq, pgV, hsV, rpsV, rpc_length, one_length, hs_length, g]
        · cases hg : greatL (hs.getD i []) with
          | true =>
            rw [fin true (by rw [anyTo_true hlt (by rw [hg]; simp)]; rfl)]
            rw [hg] at d
            simp (maxSteps := 2000000) (disch := omega) only [↓RS, RZ, reduceCtorEq, reduceAdd, reduceLT, reduceLeDiff, List.reduceReplicate, reducePow, reduceDiv, reduceMod, reduceEqDiff, Nat.reduceBEq, pgV, hsV, rpsV, rpc_length, one_length, hs_length, g]
            first | refine cP (d) ?_ | refine cD (d) ?_
            simp (maxSteps := 2000000) (disch := omega) only [↓RS, RZ, reduceCtorEq, reduceAdd, reduceLT, reduceLeDiff, List.reduceReplicate, reducePow, reduceDiv, reduceMod, reduceEqDiff, Nat.reduceBEq]
          | false =>
            rw [hg] at d
            simp (maxSteps := 2000000) (disch := omega) only [↓RS, RZ, reduceCtorEq, reduceAdd, reduceLT, reduceLeDiff, List.reduceReplicate, reducePow, reduceDiv, reduceMod, reduceEqDiff, Nat.reduceBEq, pgV, hsV, rpsV, rpc_length, one_length, hs_length, g]
            first | refine cP (d) ?_ | refine cD (d) ?_
            simp (maxSteps := 2000000) (disch := omega) only [↓RS, RZ, reduceCtorEq, reduceAdd, reduceLT, reduceLeDiff, List.reduceReplicate, reducePow, reduceDiv, reduceMod, reduceEqDiff, Nat.reduceBEq]
            exact lp_next (i + 1) rfl ⟨⟨hlt, fun j hj => by
              rcases Nat.lt_or_ge j i with h | h
              · exact hp j h
              · rw [show j = i by omega, hg, decide_eq_false h6]; rfl⟩, rfl⟩ (by omega)
      · have hany := anyTo_false (n := min hs.length 11) (fun j hj => hp j (by omega))
        rcases Nat.lt_or_ge 10 hs.length with hA | hA
        · rw [fin true (by rw [hany, decide_eq_true hA]; simp)]
          have hA2 : 8 < hs.length := by omega
          rcases Nat.lt_or_ge i hs.length with hX | hX
          · have hX2 : 11 ≤ i := by omega
            simp (maxSteps := 2000000) (disch := omega) only [↓RS, RZ, reduceCtorEq, reduceAdd, reduceLT, reduceLeDiff, List.reduceReplicate, reducePow, reduceDiv, reduceMod, reduceEqDiff, Nat.reduceBEq, pgV, hsV, rpsV, rpc_length, one_length, hs_length]
          · simp (maxSteps := 2000000) (disch := omega) only [↓RS, RZ, reduceCtorEq, reduceAdd, reduceLT, reduceLeDiff, List.reduceReplicate, reducePow, reduceDiv, reduceMod, reduceEqDiff, Nat.reduceBEq, pgV, hsV, rpsV, rpc_length, one_length, hs_length]
        · have hX : hs.length ≤ i := by omega
          by_cases hB : 3 < hs.length ∧ hs.length ≤ 8
          · rw [fin true (by rw [hany, decide_eq_true hB]; rfl)]
            obtain ⟨hB1, hB2⟩ := hB
            simp (maxSteps := 2000000) (disch := omega) only [↓RS, RZ, reduceCtorEq, reduceAdd, reduceLT, reduceLeDiff, List.reduceReplicate, reducePow, reduceDiv, reduceMod, reduceEqDiff, Nat.reduceBEq, pgV, hsV, rpsV, rpc_length, one_length, hs_length]
          · rw [fin false (by rw [hany, decide_eq_false hB, decide_eq_false (Nat.not_lt.2 hA)]; rfl)]
            rcases Nat.lt_or_ge 3 hs.length with hC | hC
            · have hC2 : 8 < hs.length := by omega
              simp (maxSteps := 2000000) (disch := omega) only [↓RS, RZ, reduceCtorEq, reduceAdd, reduceLT, reduceLeDiff, List.reduceReplicate, reducePow, reduceDiv, reduceMod, reduceEqDiff, Nat.reduceBEq, pgV, hsV, rpsV, rpc_length, one_length, hs_length]
            · simp (maxSteps := 2000000) (disch := omega) only [↓RS, RZ, reduceCtorEq, reduceAdd, reduceLT, reduceLeDiff, List.reduceReplicate, reducePow, reduceDiv, reduceMod, reduceEqDiff, Nat.reduceBEq, pgV, hsV, rpsV, rpc_length, one_length, hs_length]
    · simp (maxSteps := 2000000) (disch := omega) only [↓RS, RZ, reduceCtorEq, reduceAdd, reduceLT, reduceLeDiff, List.reduceReplicate, reducePow, reduceDiv, reduceMod, reduceEqDiff, Nat.reduceBEq, pgV, hsV, rpsV, rpc_length, one_length, hs_length]
      first | refine cP (c) ?_ | refine cD (c) ?_
      simp (maxSteps := 2000000) (disch := omega) only [↓RS, RZ, reduceCtorEq, reduceAdd, reduceLT, reduceLeDiff, List.reduceReplicate, reducePow, reduceDiv, reduceMod, reduceEqDiff, Nat.reduceBEq]
      refine wp_lp (fun (i : Nat) J => ov [(1, .ptr 0 0 0), (4, .prim (.int .i64 ((i : Nat) : Int)))] J 0 65) (fun i H => (i ≤ min hs.length 11 ∧ ∀ j, j < i → (decide (6 < (hs.getD j []).length) || greatL (hs.getD j [])) = false) ∧ H = [some (.row 2 true [[rpsV O, hsV hs]])]) (fun i => 11 - i) 0 rfl ⟨⟨Nat.zero_le _, fun j hj => absurd hj (Nat.not_lt_zero j)⟩, rfl⟩ ?_
      rintro i J _ ⟨⟨hi, hp⟩, rfl⟩
      try conv in ov _ _ _ _ => simp only [ov, List.lookup, Option.getD_some, Option.getD_none, Nat.reduceAdd, Nat.reduceBEq]
      rcases Nat.lt_or_ge i (min hs.length 11) with hlt | hge
      · have hi1 : i < hs.length := by omega
        have hi2 : i < 11 := by omega
        have g : ((hs.map rpsV).map fun v => [v]).getD i [] = [rpsV (hs.getD i [])] := by rw [one_getD (by rw [hs_length]; exact hi1), hs_getD hi1]
        have d := great_pc (hs.getD i []) (kh _ (mem i hi1)).1 (kh _ (mem i hi1)).2
        have hll := (kh _ (mem i hi1)).1
        by_cases h6 : 6 < (hs.getD i []).length
        · rw [fin true (by rw [anyTo_true hlt (by rw [decide_eq_true h6]; rfl)]; rfl)]
          simp (maxSteps := 2000000) (disch := omega) only [↓RS, RZ, reduceCtorEq, reduceAdd, reduceLT, reduceLeDiff, List.reduceReplicate, reducePow, reduceDiv, reduceMod, reduceEqDiff, Nat.reduceBEq, pgV, hsV, rpsV, rpc_length, one_length, hs_length, g]
        · cases hg : greatL (hs.getD i []) with
          | true =>
            rw [fin true (by rw [anyTo_true hlt (by rw [hg]; simp)]; rfl)]
            rw [hg] at d
            simp (maxSteps := 2000000) (disch := omega) only [↓RS, RZ, reduceCtorEq, reduceAdd, reduceLT, reduceLeDiff, List.reduceReplicate, reducePow, reduceDiv, reduceMod, reduceEqDiff, Nat.reduceBEq, pgV, hsV, rpsV, rpc_length, one_length, hs_length, g]
            first | refine cP (d) ?_ | refine cD (d) ?_
            simp (maxSteps := 2000000) (disch := omega) only [↓RS, RZ, reduceCtorEq, reduceAdd, reduceLT, reduceLeDiff, List.reduceReplicate, reducePow, reduceDiv, reduceMod, reduceEqDiff, Nat.reduceBEq]
          | false =>
            rw [hg] at d
            simp (maxSteps := 2000000) (disch := omega) only [↓RS, RZ, reduceCtorEq, reduceAdd, reduceLT, reduceLeDiff, List.reduceReplicate, reducePow, reduceDiv, reduceMod, reduceEqDiff, Nat.reduceBEq, pgV, hsV, rpsV, rpc_length, one_length, hs_length, g]
            first | refine cP (d) ?_ | refine cD (d) ?_
            simp (maxSteps := 2000000) (disch := omega) only [↓RS, RZ, reduceCtorEq, reduceAdd, reduceLT, reduceLeDiff, List.reduceReplicate, reducePow, reduceDiv, reduceMod, reduceEqDiff, Nat.reduceBEq]
            exact lp_next (i + 1) rfl ⟨⟨hlt, fun j hj => by
              rcases Nat.lt_or_ge j i with h | h
              · exact hp j h
              · rw [show j = i by omega, hg, decide_eq_false h6]; rfl⟩, rfl⟩ (by omega)
      · have hany := anyTo_false (n := min hs.length 11) (fun j hj => hp j (by omega))
        rcases Nat.lt_or_ge 10 hs.length with hA | hA
        · rw [fin true (by rw [hany, decide_eq_true hA]; simp)]
          have hA2 : 8 < hs.length := by omega
          rcases Nat.lt_or_ge i hs.length with hX | hX
          · have hX2 : 11 ≤ i := by omega
            simp (maxSteps := 2000000) (disch := omega) only [↓RS, RZ, reduceCtorEq, reduceAdd, reduceLT, reduceLeDiff, List.reduceReplicate, reducePow, reduceDiv, reduceMod, reduceEqDiff, Nat.reduceBEq, pgV, hsV, rpsV, rpc_length, one_length, hs_length]
          · simp (maxSteps := 2000000) (disch := omega) only [↓RS, RZ, reduceCtorEq, reduceAdd, reduceLT, reduceLeDiff, List.reduceReplicate, reducePow, reduceDiv, reduceMod, reduceEqDiff, Nat.reduceBEq, pgV, hsV, rpsV, rpc_length, one_length, hs_length]
        · have hX : hs.length ≤ i := by omega
          by_cases hB : 3 < hs.length ∧ hs.length ≤ 8
          · rw [fin true (by rw [hany, decide_eq_true hB]; rfl)]
            obtain ⟨hB1, hB2⟩ := hB
            simp (maxSteps := 2000000) (disch := omega) only [↓RS, RZ, reduceCtorEq, reduceAdd, reduceLT, reduceLeDiff, List.reduceReplicate, reducePow, reduceDiv, reduceMod, reduceEqDiff, Nat.reduceBEq, pgV, hsV, rpsV, rpc_length, one_length, hs_length]
          · rw [fin false (by rw [hany, decide_eq_false hB, decide_eq_false (Nat.not_lt.2 hA)]; rfl)]
            rcases Nat.lt_or_ge 3 hs.length with hC | hC
            · have hC2 : 8 < hs.length := by omega
              simp (maxSteps := 2000000) (disch := omega) only [↓RS, RZ, reduceCtorEq, reduceAdd, reduceLT, reduceLeDiff, List.reduceReplicate, reducePow, reduceDiv, reduceMod, reduceEqDiff, Nat.reduceBEq, pgV, hsV, rpsV, rpc_length, one_length, hs_length]
            · simp (maxSteps := 2000000) (disch := omega) only [↓RS, RZ, reduceCtorEq, reduceAdd, reduceLT, reduceLeDiff, List.reduceReplicate, reducePow, reduceDiv, reduceMod, reduceEqDiff, Nat.reduceBEq, pgV, hsV, rpsV, rpc_length, one_length, hs_length]
end Go.Av
