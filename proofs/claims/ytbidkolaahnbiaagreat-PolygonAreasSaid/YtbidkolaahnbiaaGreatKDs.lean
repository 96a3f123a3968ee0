/- Helping texts: Ds, Dt. -/
import Derived.Test.YtbidkolaahnbiaaGreatKDh
import Derived.Test.YtbidkolaahnbiaaGreatKDq
set_option linter.unusedSimpArgs false
set_option linter.unusedVariables false
namespace Go.Av
open Go.RowKit
open Go.Proofs.Tryz (prog)
theorem set_self {H : Hp} {b : Nat} {k : Blk} (h : get H b = some k) : H.set b (some k) = H := by
  refine List.ext_getElem? fun c => ?_
  rw [List.getElem?_set]
  split
  · rename_i hc
    subst hc
    have hl := get_lt_len h
    rw [if_pos hl]
    simp only [get, List.getElem?_eq_getElem hl, Option.join_some] at h ⊢
    rw [h]
  · rfl
def swapAt (l : List Rat) (j : Nat) : List Rat := (l.set (j + 1) (l.getD j 0)).set j (l.getD (j + 1) 0)
def bubble (l : List Rat) : Nat → List Rat
  | 0 => l
  | j + 1 => if cmpQ (l.getD (j + 1) 0) (l.getD j 0) < 0 then bubble (swapAt l j) j else l
def isortTo (l : List Rat) : Nat → List Rat
  | 0 => l
  | i + 1 => bubble (isortTo l i) (i + 1)
theorem swapAt_length (l : List Rat) (j : Nat) : (swapAt l j).length = l.length := by simp [swapAt]
theorem bubble_length : ∀ (j : Nat) (l : List Rat), (bubble l j).length = l.length
  | 0, l => rfl
  | j + 1, l => by unfold bubble; split; · rw [bubble_length j, swapAt_length]
                   rfl
theorem isortTo_length (l : List Rat) : ∀ i, (isortTo l i).length = l.length
  | 0 => rfl
  | i + 1 => by rw [isortTo, bubble_length, isortTo_length l i]
def hq (l : List Rat) (k : Nat) : Prop := ∀ i, i < l.length → ht (l.getD i 0) ≤ k
theorem getD_set {l : List Rat} {i j : Nat} {x : Rat} (hj : j < l.length) : (l.set j x).getD i 0 = if i = j then x else l.getD i 0 := by
  rw [List.getD_eq_getElem?_getD, List.getElem?_set, List.getD_eq_getElem?_getD]
  by_cases h : j = i
  · subst h; simp [hj]
  · rw [if_neg h, if_neg (fun e => h e.symm)]
theorem hq_swap {l : List Rat} {j k : Nat} (h : hq l k) (hj : j + 1 < l.length) : hq (swapAt l j) k := by
  intro i hi
  rw [swapAt_length] at hi
  unfold swapAt
  rw [getD_set (by rw [List.length_set]; omega), getD_set hj]
  split
  · exact h _ hj
  · split
    · exact h _ (by omega)
    · exact h _ hi
theorem hq_bubble {k : Nat} : ∀ (j : Nat) (l : List Rat), hq l k → j < l.length → hq (bubble l j) k
  | 0, l, h, _ => h
  | j + 1, l, h, hj => by
    unfold bubble; split
    · exact hq_bubble j _ (hq_swap h hj) (by rw [swapAt_length]; omega)
    · exact h
theorem hq_isort {l : List Rat} {k : Nat} (h : hq l k) : ∀ i, i < l.length → hq (isortTo l i) k
  | 0, _ => h
  | i + 1, hi => hq_bubble _ _ (hq_isort h i (by omega)) (by rw [isortTo_length]; exact hi)
theorem qc_get {l : List Rat} {i : Nat} (h : i < l.length) : (l.map qc)[i]? = some (qc (l.getD i 0)) := by
  rw [List.getElem?_map, List.getD_eq_getElem?_getD, List.getElem?_eq_getElem h]; rfl
theorem qc_swap {l : List Rat} {j : Nat} (hj : j + 1 < l.length) : ((l.map qc).set (j + 1) (qc (l.getD j 0))).set j (qc (l.getD (j + 1) 0)) = (swapAt l j).map qc := by
  unfold swapAt; rw [List.map_set, List.map_set]
set_option maxRecDepth 100000 in
set_option maxHeartbeats 8000000 in
theorem isort_sc (l : List Rat) (hn : l.length ≤ 2 ^ 20) (h2 : 1 ≤ l.length) (hl0 : hq l (2 ^ 30)) {b : Nat} {fx : Bool} {H : Hp} {K : V → Hp → Prop} (hb : get H b = some (.row 3 true (l.map qc)))
    (hK : K (.tup []) (H.set b (some (.row 3 true ((isortTo l (l.length - 1)).map qc))))) :
    SC prog 254 [.sref b 0 l.length l.length 3 fx, .prim (.int .i64 ((0 : Nat) : Int)), .prim (.int .i64 ((l.length : Nat) : Int)), .clo 54 [] []] H K := by
  have hbl := get_lt_len hb
  have s1 : ∀ x, get (H.set b x) b = x := fun x => get_eq hbl
  refine SC_intro mixed (FnD.of (by kernel_rfl)) ?_
  conv in lcOf _ _ => cbv
  conv in ntOf _ _ => cbv
  conv in rsOf _ _ => cbv
  simp only [RN, Nat.reduceAdd, Nat.reduceSub]
  simp (maxSteps := 2000000) (disch := omega) only [↓RS, RW, RB, RX, RE, RK, RT, evN, evA, evL, binV, unV, intOfV, lenV, TK.isAgg, sliceV, reduceCtorEq, Nat.reduceAdd, Nat.reduceLT, Nat.reduceLeDiff, List.reduceReplicate, elemsOf, added, view, view.viewL, view.viewLL, Nat.reducePow, Nat.reduceDiv, Nat.reduceMod, Nat.reduceEqDiff, Nat.reduceBEq]
  refine wp_lp (fun (i : Nat) J => .sref b 0 l.length l.length 3 fx :: .prim (.int .i64 ((0 : Nat) : Int)) :: .prim (.int .i64 ((l.length : Nat) : Int)) :: .clo 54 [] [] :: J 4 :: J 5 :: J 6 :: J 7 :: .prim (.int .i64 ((i : Nat) : Int)) :: J 9 :: J 10 :: J 11 :: J 12 :: J 13 :: J 14 :: J 15 :: J 16 :: J 17 :: J 18 :: J 19 :: J 20 :: J 21 :: J 22 :: J 23 :: J 24 :: J 25 :: J 26 :: J 27 :: J 28 :: J 29 :: J 30 :: J 31 :: J 32 :: J 33 :: J 34 :: J 35 :: J 36 :: J 37 :: J 38 :: J 39 :: J 40 :: J 41 :: J 42 :: J 43 :: J 44 :: J 45 :: J 46 :: J 47 :: J 48 :: J 49 :: J 50 :: J 51 :: J 52 :: []) (fun i H' => (1 ≤ i ∧ i ≤ l.length) ∧ H' = H.set b (some (.row 3 true ((isortTo l (i - 1)).map qc)))) (fun i => l.length - i) 1 rfl ⟨⟨Nat.le_refl _, h2⟩, (set_self hb).symm⟩ ?_
  rintro i J _ ⟨⟨hi1, hi⟩, rfl⟩
  rcases Nat.lt_or_ge i l.length with hlt | hge
  · simp (maxSteps := 2000000) (disch := omega) only [↓RS, RW, RB, RX, RE, RK, RT, evN, evA, evL, binV, unV, intOfV, lenV, TK.isAgg, sliceV, reduceCtorEq, Nat.reduceAdd, Nat.reduceLT, Nat.reduceLeDiff, List.reduceReplicate, elemsOf, added, view, view.viewL, view.viewLL, Nat.reducePow, Nat.reduceDiv, Nat.reduceMod, Nat.reduceEqDiff, Nat.reduceBEq]
    refine wp_lp (fun (j : Nat) J => .sref b 0 l.length l.length 3 fx :: .prim (.int .i64 ((0 : Nat) : Int)) :: .prim (.int .i64 ((l.length : Nat) : Int)) :: .clo 54 [] [] :: J 4 :: J 5 :: J 6 :: J 7 :: .prim (.int .i64 ((i : Nat) : Int)) :: .prim (.int .i64 ((j : Nat) : Int)) :: J 10 :: J 11 :: J 12 :: J 13 :: J 14 :: J 15 :: J 16 :: J 17 :: J 18 :: J 19 :: J 20 :: J 21 :: J 22 :: J 23 :: J 24 :: J 25 :: J 26 :: J 27 :: J 28 :: J 29 :: J 30 :: J 31 :: J 32 :: J 33 :: J 34 :: J 35 :: J 36 :: J 37 :: J 38 :: J 39 :: J 40 :: J 41 :: J 42 :: J 43 :: J 44 :: J 45 :: J 46 :: J 47 :: J 48 :: J 49 :: J 50 :: J 51 :: J 52 :: [])
      (fun j H' => ∃ m : List Rat, (m.length = l.length ∧ hq m (2 ^ 30) ∧ j ≤ i ∧ bubble m j = bubble (isortTo l (i - 1)) i) ∧ H' = H.set b (some (.row 3 true (m.map qc)))) (fun j => j) i rfl ⟨isortTo l (i - 1), ⟨isortTo_length l _, hq_isort hl0 _ (by omega), Nat.le_refl _, rfl⟩, rfl⟩ ?_
    rintro j J _ ⟨m, ⟨hml, hmq, hji, hm⟩, rfl⟩
    have fin : isortTo l (i + 1 - 1) = bubble m j := by
      rw [hm, Nat.add_sub_cancel]
      obtain ⟨i, rfl⟩ : ∃ k, i = k + 1 := ⟨i - 1, by omega⟩
      rfl
    rcases j with _ | k
    · simp (maxSteps := 2000000) (disch := omega) only [↓RS, RW, RB, RX, RE, RK, RT, evN, evA, evL, binV, unV, intOfV, lenV, TK.isAgg, sliceV, reduceCtorEq, Nat.reduceAdd, Nat.reduceLT, Nat.reduceLeDiff, List.reduceReplicate, elemsOf, added, view, view.viewL, view.viewLL, Nat.reducePow, Nat.reduceDiv, Nat.reduceMod, Nat.reduceEqDiff, Nat.reduceBEq]
      exact lp_next (i + 1) rfl ⟨⟨by omega, hlt⟩, by rw [fin]; rfl⟩ (by omega)
    · have g1 := qc_get (l := m) (i := k) (by omega)
      have g2 := qc_get (l := m) (i := k + 1) (by omega)
      have c := cmpQ_pc (m.getD (k + 1) 0) (m.getD k 0) (Nat.le_trans (hmq _ (by omega)) (by omega)) (Nat.le_trans (hmq _ (by omega)) (by omega))
      simp (maxSteps := 2000000) (disch := omega) only [↓RS, RW, RB, RX, RE, RK, RT, evN, evA, evL, binV, unV, intOfV, lenV, TK.isAgg, sliceV, reduceCtorEq, Nat.reduceAdd, Nat.reduceLT, Nat.reduceLeDiff, List.reduceReplicate, elemsOf, added, view, view.viewL, view.viewLL, Nat.reducePow, Nat.reduceDiv, Nat.reduceMod, Nat.reduceEqDiff, Nat.reduceBEq, s1, g1, g2, qc, Nat.add_sub_cancel, Nat.zero_add]
      first | refine cP (c) ?_ | refine cD (c) ?_
      by_cases hc : cmpQ (m.getD (k + 1) 0) (m.getD k 0) < 0
      · have s2 : ∀ x y, (H.set b x).set b y = H.set b y := fun x y => List.set_set ..
        have g3 : ∀ x, ((m.map qc).set (k + 1) x)[k]? = some (qc (m.getD k 0)) := fun x => by rw [List.getElem?_set_ne (by omega)]; exact g1
        simp (maxSteps := 2000000) (disch := omega) only [↓RS, RW, RB, RX, RE, RK, RT, evN, evA, evL, binV, unV, intOfV, lenV, TK.isAgg, sliceV, reduceCtorEq, Nat.reduceAdd, Nat.reduceLT, Nat.reduceLeDiff, List.reduceReplicate, elemsOf, added, view, view.viewL, view.viewLL, Nat.reducePow, Nat.reduceDiv, Nat.reduceMod, Nat.reduceEqDiff, Nat.reduceBEq, s1, s2, g1, g2, g3, qc, Nat.add_sub_cancel, Nat.zero_add]
        refine lp_next k rfl ⟨swapAt m k, ⟨by rw [swapAt_length]; exact hml, hq_swap hmq (by omega), by omega, ?_⟩, ?_⟩ (Nat.lt_succ_self k)
        · rw [← hm]
          conv => rhs; unfold bubble
          rw [if_pos hc]
        · rw [← qc_swap (by omega)]; rfl
      · simp (maxSteps := 2000000) (disch := omega) only [↓RS, RW, RB, RX, RE, RK, RT, evN, evA, evL, binV, unV, intOfV, lenV, TK.isAgg, sliceV, reduceCtorEq, Nat.reduceAdd, Nat.reduceLT, Nat.reduceLeDiff, List.reduceReplicate, elemsOf, added, view, view.viewL, view.viewLL, Nat.reducePow, Nat.reduceDiv, Nat.reduceMod, Nat.reduceEqDiff, Nat.reduceBEq]
        refine lp_next (i + 1) rfl ⟨⟨by omega, hlt⟩, ?_⟩ (by omega)
        rw [fin]
        unfold bubble
        rw [if_neg hc]
  · have hia : i = l.length := by omega
    subst hia
    simp (maxSteps := 2000000) (disch := omega) only [↓RS, RW, RB, RX, RE, RK, RT, evN, evA, evL, binV, unV, intOfV, lenV, TK.isAgg, sliceV, reduceCtorEq, Nat.reduceAdd, Nat.reduceLT, Nat.reduceLeDiff, List.reduceReplicate, elemsOf, added, view, view.viewL, view.viewLL, Nat.reducePow, Nat.reduceDiv, Nat.reduceMod, Nat.reduceEqDiff, Nat.reduceBEq]
    exact hK

set_option maxRecDepth 100000 in
set_option maxHeartbeats 8000000 in
theorem pdq_sc (l : List Rat) (hn : l.length ≤ 12) (h2 : 1 ≤ l.length) (hl0 : hq l (2 ^ 30)) (lim : Int) {b : Nat} {fx : Bool} {H : Hp} {K : V → Hp → Prop} (hb : get H b = some (.row 3 true (l.map qc)))
    (hK : K (.tup []) (H.set b (some (.row 3 true ((isortTo l (l.length - 1)).map qc))))) :
    SC prog 193 [.sref b 0 l.length l.length 3 fx, .prim (.int .i64 (0)), .prim (.int .i64 ((l.length : Nat) : Int)), .prim (.int .i64 (lim)), .clo 54 [] []] H K := by
  refine SC_intro mixed (FnD.of (by kernel_rfl)) ?_
  conv in lcOf _ _ => cbv
  conv in ntOf _ _ => cbv
  conv in rsOf _ _ => cbv
  simp only [RN, Nat.reduceAdd, Nat.reduceSub]
  simp (maxSteps := 2000000) (disch := omega) only [↓RS, RW, RB, RX, RE, RK, RT, evN, evA, evL, binV, unV, intOfV, lenV, TK.isAgg, sliceV, reduceCtorEq, Nat.reduceAdd, Nat.reduceLT, Nat.reduceLeDiff, List.reduceReplicate, elemsOf, added, view, view.viewL, view.viewLL, Nat.reducePow, Nat.reduceDiv, Nat.reduceMod, Nat.reduceEqDiff, Nat.reduceBEq]
  refine wp_iter 1 ?_
  simp (maxSteps := 2000000) (disch := omega) only [↓RS, RW, RB, RX, RE, RK, RT, evN, evA, evL, binV, unV, intOfV, lenV, TK.isAgg, sliceV, reduceCtorEq, Nat.reduceAdd, Nat.reduceLT, Nat.reduceLeDiff, List.reduceReplicate, elemsOf, added, view, view.viewL, view.viewLL, Nat.reducePow, Nat.reduceDiv, Nat.reduceMod, Nat.reduceEqDiff, Nat.reduceBEq, iterL_s, itQ_normal, itQ_exit, itQ_ret, Int.sub_zero]
  refine call_sc (isort_sc l (by omega) h2 hl0 hb ?_)
  simp (maxSteps := 2000000) (disch := omega) only [↓RS, RW, RB, RX, RE, RK, RT, evN, evA, evL, binV, unV, intOfV, lenV, TK.isAgg, sliceV, reduceCtorEq, Nat.reduceAdd, Nat.reduceLT, Nat.reduceLeDiff, List.reduceReplicate, elemsOf, added, view, view.viewL, view.viewLL, Nat.reducePow, Nat.reduceDiv, Nat.reduceMod, Nat.reduceEqDiff, Nat.reduceBEq]
  exact hK

set_option maxRecDepth 100000 in
theorem len64_pc (x : Nat) (hx : x < 256) : PC prog 263 [.prim (.int .u64 ((x : Nat) : Int))] (.prim (.int .i64 ((blen x : Nat) : Int))) := by
  refine PC_intro mixed (FnD.of (by kernel_rfl)) ?_
  conv in lcOf _ _ => cbv
  conv in ntOf _ _ => cbv
  conv in rsOf _ _ => cbv
  simp only [RN, Nat.reduceAdd, Nat.reduceSub]
  have fin : some (V.prim (Value.int IntKind.i64 (IntKind.i64.wrap ((0 : Int) + IntKind.i64.wrap ((lenTab.getD x 0).toNat : Nat))))) = some (V.prim (Value.int IntKind.i64 (blen x : Nat))) := by
    have := @blen_le x 8 hx
    rw [lenTab_spec x hx, wrap_nat_i64 (by omega), wrap_i64 (by omega) (by omega)]
    simp
  simp (maxSteps := 2000000) (disch := omega) only [↓RS, RW, RB, RX, RE, RT, evN, evA, evL, binV, unV, intOfV, lenV, TK.isAgg, sliceV, reduceCtorEq, Nat.reduceAdd, Nat.reduceLT, Nat.reduceLeDiff, List.reduceReplicate, elemsOf, added, view, view.viewL, view.viewLL]
  exact fin
theorem blen64_pc (x : Nat) (hx : x < 256) : PC prog 194 [.prim (.int .u64 ((x : Nat) : Int))] (.prim (.int .i64 ((blen x : Nat) : Int))) := by
  have c := len64_pc x hx
  refine PC_intro mixed (FnD.of (by kernel_rfl)) ?_
  conv in lcOf _ _ => cbv
  conv in ntOf _ _ => cbv
  conv in rsOf _ _ => cbv
  simp only [RN, Nat.reduceAdd, Nat.reduceSub]
  simp (maxSteps := 2000000) (disch := omega) only [↓RS, RW, RB, RX, RE, RK, RT, evN, evA, evL, binV, unV, intOfV, lenV, TK.isAgg, sliceV, reduceCtorEq, Nat.reduceAdd, Nat.reduceLT, Nat.reduceLeDiff, List.reduceReplicate, elemsOf, added, view, view.viewL, view.viewLL, Nat.reducePow, Nat.reduceDiv, Nat.reduceMod, Nat.reduceEqDiff, Nat.reduceBEq, wrap_nat_u64]
  first | refine cP (c) ?_ | refine cD (c) ?_
  simp (maxSteps := 2000000) (disch := omega) only [↓RS, RW, RB, RX, RE, RK, RT, evN, evA, evL, binV, unV, intOfV, lenV, TK.isAgg, sliceV, reduceCtorEq, Nat.reduceAdd, Nat.reduceLT, Nat.reduceLeDiff, List.reduceReplicate, elemsOf, added, view, view.viewL, view.viewLL, Nat.reducePow, Nat.reduceDiv, Nat.reduceMod, Nat.reduceEqDiff, Nat.reduceBEq]

set_option maxHeartbeats 4000000 in
theorem sort_sc (l : List Rat) (hn : l.length ≤ 12) (h2 : 1 ≤ l.length) (hl0 : hq l (2 ^ 30)) {b : Nat} {fx : Bool} {H : Hp} {K : V → Hp → Prop} (hb : get H b = some (.row 3 true (l.map qc)))
    (hK : K (.tup []) (H.set b (some (.row 3 true ((isortTo l (l.length - 1)).map qc))))) :
    SC prog 118 [.sref b 0 l.length l.length 3 fx, .clo 54 [] []] H K := by
  have c := blen64_pc l.length (by omega)
  refine SC_intro mixed (FnD.of (by kernel_rfl)) ?_
  conv in lcOf _ _ => cbv
  conv in ntOf _ _ => cbv
  conv in rsOf _ _ => cbv
  simp only [RN, Nat.reduceAdd, Nat.reduceSub]
  simp (maxSteps := 2000000) (disch := omega) only [↓RS, RW, RB, RX, RE, RK, RT, evN, evA, evL, binV, unV, intOfV, lenV, TK.isAgg, sliceV, reduceCtorEq, Nat.reduceAdd, Nat.reduceLT, Nat.reduceLeDiff, List.reduceReplicate, elemsOf, added, view, view.viewL, view.viewLL, Nat.reducePow, Nat.reduceDiv, Nat.reduceMod, Nat.reduceEqDiff, Nat.reduceBEq, wrap_nat_u64]
  first | refine cP (c) ?_ | refine cD (c) ?_
  simp (maxSteps := 2000000) (disch := omega) only [↓RS, RW, RB, RX, RE, RK, RT, evN, evA, evL, binV, unV, intOfV, lenV, TK.isAgg, sliceV, reduceCtorEq, Nat.reduceAdd, Nat.reduceLT, Nat.reduceLeDiff, List.reduceReplicate, elemsOf, added, view, view.viewL, view.viewLL, Nat.reducePow, Nat.reduceDiv, Nat.reduceMod, Nat.reduceEqDiff, Nat.reduceBEq]
  refine call_sc (pdq_sc l hn h2 hl0 _ hb ?_)
  simp (maxSteps := 2000000) (disch := omega) only [↓RS, RW, RB, RX, RE, RK, RT, evN, evA, evL, binV, unV, intOfV, lenV, TK.isAgg, sliceV, reduceCtorEq, Nat.reduceAdd, Nat.reduceLT, Nat.reduceLeDiff, List.reduceReplicate, elemsOf, added, view, view.viewL, view.viewLL, Nat.reducePow, Nat.reduceDiv, Nat.reduceMod, Nat.reduceEqDiff, Nat.reduceBEq]
  exact hK
end Go.Av
namespace Go.Av
open Go.RowKit
open Go.Proofs.Tryz (prog)
def clearP (P : Program) (T : List V) (H : Hp) (K : V → Hp → Prop) (d : Option Operand) (t : Option TypeId) : Prop := match d, t with
  | some d, some t => match tyOf P t with
    | some { k := .slice e, .. } => match tyOf P e with
      | some ei => wpClear H ei (ev T d) K
      | none => False
    | _ => False
  | _, _ => False
theorem wpOp_clear {P : Program} {T : List V} {H : Hp} {K : V → Hp → Prop} {args : Array Operand} {ts : Array TypeId} : wpOp P T H (.call { callee := .builtin .clear, args, argTypes := ts }) K = clearP P T H K args[0]? ts[0]? := by
  unfold wpOp wpVal
  simp only [evN, evA, evL, wpEff]; rfl
theorem eqA_q (a b : Rat) : eqA (tyOf prog) 9 27 (.agg [.prim (.bool (can a).neg), .prim (.string (bs ((can a).num))), .prim (.string (bs ((can a).den)))]) (.agg [.prim (.bool (can b).neg), .prim (.string (bs ((can b).num))), .prim (.string (bs ((can b).den)))]) = some (decide (a = b)) := by
  rw [eqA_rat]
  have : decide (Rt.mk (can a).neg (can a).num (can a).den = Rt.mk (can b).neg (can b).num (can b).den) = decide (a = b) := by
    rw [decide_eq_decide]
    exact ⟨fun h => can_inj h, fun h => by subst h; rfl⟩
  rw [this]

set_option maxRecDepth 100000 in
set_option maxHeartbeats 16000000 in
theorem compact_sc (a b c d : Rat) (h1 : a ≠ b) (h2 : b ≠ c) (h3 : c ≠ d) {k : Nat} {fx : Bool} {H : Hp} {K : V → Hp → Prop} (hb : get H k = some (.row 3 true ([a, a, b, b, c, c, d, d].map qc)))
    (hK : K (.sref k 0 4 8 3 fx) (H.set k (some (.row 3 true ([a, b, c, d, 0, 0, 0, 0].map qc))))) :
    SC prog 128 [.sref k 0 8 8 3 fx] H K := by
  have hbl := get_lt_len hb
  have s1 : ∀ x, get (H.set k x) k = x := fun x => get_eq hbl
  have s2 : ∀ x y, (H.set k x).set k y = H.set k y := fun x y => List.set_set ..
  have d0 : ∀ x : Rat, decide (x = x) = true := fun x => decide_eq_true rfl
  have d1 : decide (b = a) = false := decide_eq_false (Ne.symm h1)
  have d2 : decide (c = b) = false := decide_eq_false (Ne.symm h2)
  have d3 : decide (d = c) = false := decide_eq_false (Ne.symm h3)
  have hz : qc 0 = [.prim (.bool false), .prim (.string (bs ([]))), .prim (.string (bs ([])))] := by simp only [qc, can_zero]
  simp only [List.map_cons, List.map_nil] at hb hK
  refine SC_intro mixed (FnD.of (by kernel_rfl)) ?_
  conv in lcOf _ _ => cbv
  conv in ntOf _ _ => cbv
  conv in rsOf _ _ => cbv
  simp only [RN, Nat.reduceAdd, Nat.reduceSub]
  simp (maxSteps := 2000000) (disch := omega) only [↓RS, RW, RB, RX, RE, RK, RT, evN, evA, evL, binV, unV, intOfV, lenV, TK.isAgg, sliceV, reduceCtorEq, Nat.reduceAdd, Nat.reduceLT, Nat.reduceLeDiff, List.reduceReplicate, elemsOf, added, view, view.viewL, view.viewLL, Nat.reducePow, Nat.reduceDiv, Nat.reduceMod, Nat.reduceEqDiff, Nat.reduceBEq]
  refine wp_iter 1 ?_
  simp (maxSteps := 2000000) (disch := omega) only [↓RS, RW, RB, RX, RE, RK, RT, evN, evA, evL, binV, unV, intOfV, lenV, TK.isAgg, sliceV, reduceCtorEq, Nat.reduceAdd, Nat.reduceLT, Nat.reduceLeDiff, List.reduceReplicate, elemsOf, added, view, view.viewL, view.viewLL, Nat.reducePow, Nat.reduceDiv, Nat.reduceMod, Nat.reduceEqDiff, Nat.reduceBEq, iterL_s, itQ_normal, itQ_exit, itQ_ret, Int.reduceAdd, Int.reduceSub, hb, qc, eqA_q, d0, s1, s2]
  refine wp_iter 7 ?_
  simp (maxSteps := 2000000) (disch := omega) only [↓RS, RW, RB, RX, RE, RK, RT, evN, evA, evL, binV, unV, intOfV, lenV, TK.isAgg, sliceV, reduceCtorEq, Nat.reduceAdd, Nat.reduceLT, Nat.reduceLeDiff, List.reduceReplicate, elemsOf, added, view, view.viewL, view.viewLL, Nat.reducePow, Nat.reduceDiv, Nat.reduceMod, Nat.reduceEqDiff, Nat.reduceBEq, iterL_s, itQ_normal, itQ_exit, itQ_ret, Int.reduceAdd, Int.reduceSub, Nat.reduceSub, hb, qc, eqA_q, d0, d1, d2, d3, s1, s2, wpOp_clear, clearP, wpClear, splice, List.reduceReplicate]
  rw [hz] at hK
  exact hK

set_option maxHeartbeats 4000000 in
theorem middle_pc (a b : Rat) (ha : ht a ≤ 2 ^ 28) (hb : ht b ≤ 2 ^ 28) : PC prog 129 [qV a, qV b] (qV ((a + b) / 2)) := by
  have h1 := ht_add a b
  have h2 := ht_two
  have c := addQ_pc a b (by omega) (by omega)
  have o := ofQ_pc 2 (by omega) (by omega)
  have q := quoQ_pc (a + b) 2 (by omega) (by omega) (by decide +kernel)
  refine PC_intro mixed (FnD.of (by kernel_rfl)) ?_
  conv in lcOf _ _ => cbv
  conv in ntOf _ _ => cbv
  conv in rsOf _ _ => cbv
  simp only [RN, Nat.reduceAdd, Nat.reduceSub]
  simp (maxSteps := 2000000) (disch := omega) only [↓RS, RW, RB, RX, RE, RK, RT, evN, evA, evL, binV, unV, intOfV, lenV, TK.isAgg, sliceV, reduceCtorEq, Nat.reduceAdd, Nat.reduceLT, Nat.reduceLeDiff, List.reduceReplicate, elemsOf, added, view, view.viewL, view.viewLL, Nat.reducePow, Nat.reduceDiv, Nat.reduceMod, Nat.reduceEqDiff, Nat.reduceBEq, qV, rV]
  first | refine cP (c) ?_ | refine cD (c) ?_
  simp (maxSteps := 2000000) (disch := omega) only [↓RS, RW, RB, RX, RE, RK, RT, evN, evA, evL, binV, unV, intOfV, lenV, TK.isAgg, sliceV, reduceCtorEq, Nat.reduceAdd, Nat.reduceLT, Nat.reduceLeDiff, List.reduceReplicate, elemsOf, added, view, view.viewL, view.viewLL, Nat.reducePow, Nat.reduceDiv, Nat.reduceMod, Nat.reduceEqDiff, Nat.reduceBEq, qV, rV]
  first | refine cP (o) ?_ | refine cD (o) ?_
  simp (maxSteps := 2000000) (disch := omega) only [↓RS, RW, RB, RX, RE, RK, RT, evN, evA, evL, binV, unV, intOfV, lenV, TK.isAgg, sliceV, reduceCtorEq, Nat.reduceAdd, Nat.reduceLT, Nat.reduceLeDiff, List.reduceReplicate, elemsOf, added, view, view.viewL, view.viewLL, Nat.reducePow, Nat.reduceDiv, Nat.reduceMod, Nat.reduceEqDiff, Nat.reduceBEq, qV, rV]
  first | refine cP (q) ?_ | refine cD (q) ?_
  simp (maxSteps := 2000000) (disch := omega) only [↓RS, RW, RB, RX, RE, RK, RT, evN, evA, evL, binV, unV, intOfV, lenV, TK.isAgg, sliceV, reduceCtorEq, Nat.reduceAdd, Nat.reduceLT, Nat.reduceLeDiff, List.reduceReplicate, elemsOf, added, view, view.viewL, view.viewLL, Nat.reducePow, Nat.reduceDiv, Nat.reduceMod, Nat.reduceEqDiff, Nat.reduceBEq, qV, rV]
end Go.Av
