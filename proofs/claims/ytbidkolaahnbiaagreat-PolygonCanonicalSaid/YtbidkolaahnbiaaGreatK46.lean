/- Helping texts: Fd, Fe. -/
import Derived.Test.YtbidkolaahnbiaaGreatK45
set_option linter.unusedSimpArgs false
set_option linter.unusedVariables false
namespace Go.Av
open Go.RowKit
open Go.Proofs.Tryz (prog)
theorem leastTo_in {L : List Pt} (h : 0 < L.length) : leastTo L L.length < L.length := leastTo_lt h
theorem concat_rot {m : List Pt} {b k n : Nat} (hmn : m.length = n) (hk : k ≤ n) (hpos : 0 < n) (hn : n ≤ 2 ^ 30) {c : Nat} {f1 f2 fx : Bool} {c1 c2 : Nat} {H : Hp} {K : V → Hp → Prop} (hb : get H b = some (.row 6 true (m.map pc)))
    (hc : get H c = some (.row 1 true [[.sref b k (n - k) c1 6 f1], [.sref b 0 k c2 6 f2]])) (hK : NewL H (rotL m k) K) :
    SC prog 166 [.sref c 0 2 2 1 fx] H K := by
  have hml : (m.map pc).length = m.length := List.length_map ..
  subst hmn
  refine concat_sc (m.drop k) (m.take k) (by simp only [List.length_drop, List.length_take]; omega) (by simp only [List.length_drop, List.length_take]; omega) hc ?_ ?_ ?_ ?_ hK
  · simp only [elemsOf, hb, hml]
    rw [if_pos ⟨trivial, by omega⟩, List.map_drop, List.take_of_length_le (by rw [List.length_drop, hml]; exact Nat.le_refl _)]
  · simp only [lenV, List.length_drop]
  · simp only [elemsOf, hb, hml]
    rw [if_pos ⟨trivial, by omega⟩, List.map_take, List.drop_zero]
  · simp only [lenV, List.length_take]; rw [Nat.min_eq_left hk]

set_option maxRecDepth 100000 in
set_option maxHeartbeats 8000000 in
theorem Rcanon_pc (l : List Pt) (h3 : 3 ≤ l.length) (hn : l.length ≤ 64) (hL : hl l (2 ^ 16)) (hk : keepAll l) (hx : crossB l = false) : PC prog 156 [psV l] (.tup [psV (canonL l), .prim (.int .i64 (0))]) := by
  have hne : l ≠ [] := by intro e; rw [e] at h3; simp at h3
  have c := canonical_pc (l.map Pt.rp) (by rw [List.length_map]; omega) (rp_le (fun p hp => Nat.le_trans (hL p hp) (by omega)))
  rw [allOk_rp, ← psV_rps] at c
  have x := crossing_pc l (by omega) hne (fun p hp => Nat.le_trans (hL p hp) (by omega))
  rw [hx] at x
  have a := Area_pc l (by omega) hL
  have hta : ht (areaL l) ≤ 2 ^ 30 := by
    have h1 := ht_areaTo hL l.length (Nat.le_refl _)
    have h2 := ht_div (areaTo l l.length) 2
    have h3 := ht_two
    have h4 : l.length * (4 * 2 ^ 16 + 2) ≤ 64 * (4 * 2 ^ 16 + 2) := Nat.mul_le_mul_right _ hn
    unfold areaL
    omega
  have s := signQ_pc (areaL l) (by omega)
  refine PC_intro mixed (FnD.of (by kernel_rfl)) ?_
  conv in lcOf _ _ => cbv
  conv in ntOf _ _ => cbv
  conv in rsOf _ _ => cbv
  simp only [RN, Nat.reduceAdd, Nat.reduceSub]
  simp (maxSteps := 2000000) (disch := omega) only [↓RS, RW, RB, RX, RE, RK, RT, evN, evA, evL, binV, unV, intOfV, lenV, TK.isAgg, sliceV, reduceCtorEq, Nat.reduceAdd, Nat.reduceLT, Nat.reduceLeDiff, List.reduceReplicate, elemsOf, added, view, view.viewL, view.viewLL, Nat.reducePow, Nat.reduceDiv, Nat.reduceMod, Nat.reduceEqDiff, Nat.reduceBEq, psV, pc_length]
  first | refine cP (c) ?_ | refine cD (c) ?_
  simp (maxSteps := 2000000) (disch := omega) only [↓RS, RW, RB, RX, RE, RK, RT, evN, evA, evL, binV, unV, intOfV, lenV, TK.isAgg, sliceV, reduceCtorEq, Nat.reduceAdd, Nat.reduceLT, Nat.reduceLeDiff, List.reduceReplicate, elemsOf, added, view, view.viewL, view.viewLL, Nat.reducePow, Nat.reduceDiv, Nat.reduceMod, Nat.reduceEqDiff, Nat.reduceBEq, psV, pc_length]
  refine call_sc (simplify_sc l h3 hn (fun p hp => Nat.le_trans (hL p hp) (by omega)) hk ?_)
  intro b H1 hE hb hg
  have hlen : (l.map pc).length = l.length := List.length_map ..
  have htk : (l.map pc).take l.length = l.map pc := by rw [List.take_of_length_le (by omega)]
  have hvl := @viewLL_prims H1 7 _ (pc_prims l)
  simp (maxSteps := 2000000) (disch := omega) only [↓RS, RW, RB, RX, RE, RK, RT, evN, evA, evL, binV, unV, intOfV, lenV, TK.isAgg, sliceV, reduceCtorEq, Nat.reduceAdd, Nat.reduceLT, Nat.reduceLeDiff, List.reduceReplicate, elemsOf, added, view, view.viewL, view.viewLL, Nat.reducePow, Nat.reduceDiv, Nat.reduceMod, Nat.reduceEqDiff, Nat.reduceBEq, hg, htk, hvl]
  first | refine cP (x) ?_ | refine cD (x) ?_
  simp (maxSteps := 2000000) (disch := omega) only [↓RS, RW, RB, RX, RE, RK, RT, evN, evA, evL, binV, unV, intOfV, lenV, TK.isAgg, sliceV, reduceCtorEq, Nat.reduceAdd, Nat.reduceLT, Nat.reduceLeDiff, List.reduceReplicate, elemsOf, added, view, view.viewL, view.viewLL, Nat.reducePow, Nat.reduceDiv, Nat.reduceMod, Nat.reduceEqDiff, Nat.reduceBEq, hg, htk, hvl]
  first | refine cP (a) ?_ | refine cD (a) ?_
  simp (maxSteps := 2000000) (disch := omega) only [↓RS, RW, RB, RX, RE, RK, RT, evN, evA, evL, binV, unV, intOfV, lenV, TK.isAgg, sliceV, reduceCtorEq, Nat.reduceAdd, Nat.reduceLT, Nat.reduceLeDiff, List.reduceReplicate, elemsOf, added, view, view.viewL, view.viewLL, Nat.reducePow, Nat.reduceDiv, Nat.reduceMod, Nat.reduceEqDiff, Nat.reduceBEq, qV, rV]
  first | refine cP (s) ?_ | refine cD (s) ?_
  have hsg : cmpQ (areaL l) 0 < 0 ↔ areaL l < 0 := by
    rw [← Rat.not_le, ← cmpQ_nonneg]; omega
  by_cases ha : areaL l < 0
  · have hcm := hsg.2 ha
    simp (maxSteps := 2000000) (disch := omega) only [↓RS, RW, RB, RX, RE, RK, RT, evN, evA, evL, binV, unV, intOfV, lenV, TK.isAgg, sliceV, reduceCtorEq, Nat.reduceAdd, Nat.reduceLT, Nat.reduceLeDiff, List.reduceReplicate, elemsOf, added, view, view.viewL, view.viewLL, Nat.reducePow, Nat.reduceDiv, Nat.reduceMod, Nat.reduceEqDiff, Nat.reduceBEq, hcm]
    refine call_sc (reverse_sc l hne (by omega) hg ?_)
    have hg2 : get (H1.set b (some (.row 6 true (l.reverse.map pc)))) b = some (.row 6 true (l.reverse.map pc)) := get_eq (get_lt_len hg)
    have hcan : canonL l = startL l.reverse := by unfold canonL; rw [if_pos ha]
    have hml : l.reverse.length = l.length := List.length_reverse
    have hmh : hl l.reverse (2 ^ 26) := fun p hp => Nat.le_trans (hL p (List.mem_reverse.1 hp)) (by omega)
    generalize H1.set b _ = H2 at hg2 ⊢
    rw [hcan]
    generalize l.reverse = m at *
    have htk2 : (m.map pc).take l.length = m.map pc := by rw [List.take_of_length_le (by rw [List.length_map]; omega)]
    have hvl2 := @viewLL_prims H2 7 _ (pc_prims m)
    have i := first_pc m (by omega) hmh
    have hlk := leastTo_in (L := m) (by omega)
    have hmm : (m.map pc).length = l.length := by rw [List.length_map]; exact hml
    have hst : startL m = rotL m (leastTo m m.length) := rfl
    rw [hst]
    generalize leastTo m m.length = k at *
    simp (maxSteps := 2000000) (disch := omega) only [↓RS, RW, RB, RX, RE, RK, RT, evN, evA, evL, binV, unV, intOfV, lenV, TK.isAgg, sliceV, reduceCtorEq, Nat.reduceAdd, Nat.reduceLT, Nat.reduceLeDiff, List.reduceReplicate, elemsOf, added, view, view.viewL, view.viewLL, Nat.reducePow, Nat.reduceDiv, Nat.reduceMod, Nat.reduceEqDiff, Nat.reduceBEq, hg2, htk2, hvl2, hmm]
    first | refine cP (i) ?_ | refine cD (i) ?_
    simp (maxSteps := 2000000) (disch := omega) only [↓RS, RW, RB, RX, RE, RK, RT, evN, evA, evL, binV, unV, intOfV, lenV, TK.isAgg, sliceV, reduceCtorEq, Nat.reduceAdd, Nat.reduceLT, Nat.reduceLeDiff, List.reduceReplicate, elemsOf, added, view, view.viewL, view.viewLL, Nat.reducePow, Nat.reduceDiv, Nat.reduceMod, Nat.reduceEqDiff, Nat.reduceBEq, hmm, Nat.sub_zero]
    refine call_sc (concat_rot hml (by omega) (by omega) (by omega) (get_app hg2) get_app_len ?_)
    intro b3 H3 hE3 hb3 hg3
    have hrl : (rotL m k).length = l.length := by rw [rotL_length (by omega), hml]
    have hr1 : ((rotL m k).map pc).length = l.length := by rw [List.length_map]; exact hrl
    have hr2 : ((rotL m k).map pc).take l.length = (rotL m k).map pc := by rw [List.take_of_length_le (by omega)]
    have hr3 := @viewLL_prims H3 6 _ (pc_prims (rotL m k))
    rw [hrl]
    generalize rotL m k = R at *
    simp (maxSteps := 2000000) (disch := omega) only [↓RS, RW, RB, RX, RE, RK, RT, evN, evA, evL, binV, unV, intOfV, lenV, TK.isAgg, sliceV, reduceCtorEq, Nat.reduceAdd, Nat.reduceLT, Nat.reduceLeDiff, List.reduceReplicate, elemsOf, added, view, view.viewL, view.viewLL, Nat.reducePow, Nat.reduceDiv, Nat.reduceMod, Nat.reduceEqDiff, Nat.reduceBEq, hg3, hr1, hr2, hr3]
  · have hcm : ¬ cmpQ (areaL l) 0 < 0 := fun h => ha (hsg.1 h)
    simp (maxSteps := 2000000) (disch := omega) only [↓RS, RW, RB, RX, RE, RK, RT, evN, evA, evL, binV, unV, intOfV, lenV, TK.isAgg, sliceV, reduceCtorEq, Nat.reduceAdd, Nat.reduceLT, Nat.reduceLeDiff, List.reduceReplicate, elemsOf, added, view, view.viewL, view.viewLL, Nat.reducePow, Nat.reduceDiv, Nat.reduceMod, Nat.reduceEqDiff, Nat.reduceBEq, hcm]
    have hcan : canonL l = startL l := by unfold canonL; rw [if_neg ha]
    rw [hcan]
    have hg2 := hg
    have hml : l.length = l.length := rfl
    have hmh : hl l (2 ^ 26) := fun p hp => Nat.le_trans (hL p hp) (by omega)
    have htk2 : (l.map pc).take l.length = l.map pc := by rw [List.take_of_length_le (by rw [List.length_map]; omega)]
    have hvl2 := @viewLL_prims H1 7 _ (pc_prims l)
    have i := first_pc l (by omega) hmh
    have hlk := leastTo_in (L := l) (by omega)
    have hmm : (l.map pc).length = l.length := List.length_map ..
    have hst : startL l = rotL l (leastTo l l.length) := rfl
    rw [hst]
    generalize leastTo l l.length = k at *
    simp (maxSteps := 2000000) (disch := omega) only [↓RS, RW, RB, RX, RE, RK, RT, evN, evA, evL, binV, unV, intOfV, lenV, TK.isAgg, sliceV, reduceCtorEq, Nat.reduceAdd, Nat.reduceLT, Nat.reduceLeDiff, List.reduceReplicate, elemsOf, added, view, view.viewL, view.viewLL, Nat.reducePow, Nat.reduceDiv, Nat.reduceMod, Nat.reduceEqDiff, Nat.reduceBEq, hg2, htk2, hvl2, hmm]
    first | refine cP (i) ?_ | refine cD (i) ?_
    simp (maxSteps := 2000000) (disch := omega) only [↓RS, RW, RB, RX, RE, RK, RT, evN, evA, evL, binV, unV, intOfV, lenV, TK.isAgg, sliceV, reduceCtorEq, Nat.reduceAdd, Nat.reduceLT, Nat.reduceLeDiff, List.reduceReplicate, elemsOf, added, view, view.viewL, view.viewLL, Nat.reducePow, Nat.reduceDiv, Nat.reduceMod, Nat.reduceEqDiff, Nat.reduceBEq, hmm, Nat.sub_zero]
    refine call_sc (concat_rot hml (by omega) (by omega) (by omega) (get_app hg2) get_app_len ?_)
    intro b3 H3 hE3 hb3 hg3
    have hrl : (rotL l k).length = l.length := by rw [rotL_length (by omega), hml]
    have hr1 : ((rotL l k).map pc).length = l.length := by rw [List.length_map]; exact hrl
    have hr2 : ((rotL l k).map pc).take l.length = (rotL l k).map pc := by rw [List.take_of_length_le (by omega)]
    have hr3 := @viewLL_prims H3 6 _ (pc_prims (rotL l k))
    rw [hrl]
    generalize rotL l k = R at *
    simp (maxSteps := 2000000) (disch := omega) only [↓RS, RW, RB, RX, RE, RK, RT, evN, evA, evL, binV, unV, intOfV, lenV, TK.isAgg, sliceV, reduceCtorEq, Nat.reduceAdd, Nat.reduceLT, Nat.reduceLeDiff, List.reduceReplicate, elemsOf, added, view, view.viewL, view.viewLL, Nat.reducePow, Nat.reduceDiv, Nat.reduceMod, Nat.reduceEqDiff, Nat.reduceBEq, hg3, hr1, hr2, hr3]
end Go.Av
namespace Go.Av
open Go.RowKit
open Go.Proofs.Tryz (prog)
def cmpH (a b : List Pt) : Int := cmpP (a.getD 0 default) (b.getD 0 default)
def hcel (a : List Pt) : List V := [psV a]
theorem cmpH_pc (a b : List Pt) (ha : a ≠ [] ∧ a.length ≤ 2 ^ 20 ∧ hl a (2 ^ 20)) (hb : b ≠ [] ∧ b.length ≤ 2 ^ 20 ∧ hl b (2 ^ 20)) : PC prog 158 [psV a, psV b] (.prim (.int .i64 (cmpH a b))) := by
  have l1 := List.length_pos_iff.2 ha.1
  have l2 := List.length_pos_iff.2 hb.1
  have g1 := pc_getD l1
  have g2 := pc_getD l2
  have c := vcmp_pc (a.getD 0 default) (b.getD 0 default) (Nat.le_trans (hl_get ha.2.2 l1) (by omega)) (Nat.le_trans (hl_get hb.2.2 l2) (by omega))
  refine PC_intro mixed (FnD.of (by kernel_rfl)) ?_
  conv in lcOf _ _ => cbv
  conv in ntOf _ _ => cbv
  conv in rsOf _ _ => cbv
  simp only [RN, Nat.reduceAdd, Nat.reduceSub]
  simp (maxSteps := 2000000) (disch := omega) only [↓RS, RW, RB, RX, RE, RK, RT, evN, evA, evL, binV, unV, intOfV, lenV, TK.isAgg, sliceV, reduceCtorEq, Nat.reduceAdd, Nat.reduceLT, Nat.reduceLeDiff, List.reduceReplicate, elemsOf, added, view, view.viewL, view.viewLL, Nat.reducePow, Nat.reduceDiv, Nat.reduceMod, Nat.reduceEqDiff, Nat.reduceBEq, psV, pc_length, g1, g2, pc]
  first | refine cP (c) ?_ | refine cD (c) ?_
  simp (maxSteps := 2000000) (disch := omega) only [↓RS, RW, RB, RX, RE, RK, RT, evN, evA, evL, binV, unV, intOfV, lenV, TK.isAgg, sliceV, reduceCtorEq, Nat.reduceAdd, Nat.reduceLT, Nat.reduceLeDiff, List.reduceReplicate, elemsOf, added, view, view.viewL, view.viewLL, Nat.reducePow, Nat.reduceDiv, Nat.reduceMod, Nat.reduceEqDiff, Nat.reduceBEq]
  rfl
def swapH (l : List (List Pt)) (j : Nat) : List (List Pt) := (l.set (j + 1) (l.getD j [])).set j (l.getD (j + 1) [])
def bubbleH (l : List (List Pt)) : Nat → List (List Pt)
  | 0 => l
  | j + 1 => if cmpH (l.getD (j + 1) []) (l.getD j []) < 0 then bubbleH (swapH l j) j else l
def isortH (l : List (List Pt)) : Nat → List (List Pt)
  | 0 => l
  | i + 1 => bubbleH (isortH l i) (i + 1)
theorem swapH_length (l : List (List Pt)) (j : Nat) : (swapH l j).length = l.length := by simp [swapH]
theorem bubbleH_length : ∀ (j : Nat) (l : List (List Pt)), (bubbleH l j).length = l.length
  | 0, l => rfl
  | j + 1, l => by unfold bubbleH; split; · rw [bubbleH_length j, swapH_length]
                   rfl
theorem isortH_length (l : List (List Pt)) : ∀ i, (isortH l i).length = l.length
  | 0 => rfl
  | i + 1 => by rw [isortH, bubbleH_length, isortH_length l i]
def okH (l : List (List Pt)) : Prop := ∀ i, i < l.length → l.getD i [] ≠ [] ∧ (l.getD i []).length ≤ 2 ^ 20 ∧ hl (l.getD i []) (2 ^ 20)
theorem getD_setH {l : List (List Pt)} {i j : Nat} {x : List Pt} (hj : j < l.length) : (l.set j x).getD i [] = if i = j then x else l.getD i [] := by
  rw [List.getD_eq_getElem?_getD, List.getElem?_set, List.getD_eq_getElem?_getD]
  by_cases h : j = i
  · subst h; simp [hj]
  · rw [if_neg h, if_neg (fun e => h e.symm)]
theorem okH_swap {l : List (List Pt)} {j : Nat} (h : okH l) (hj : j + 1 < l.length) : okH (swapH l j) := by
  intro i hi
  rw [swapH_length] at hi
  unfold swapH
  rw [getD_setH (by rw [List.length_set]; omega), getD_setH hj]
  split
  · exact h _ hj
  · split
    · exact h _ (by omega)
    · exact h _ hi
theorem okH_bubble : ∀ (j : Nat) (l : List (List Pt)), okH l → j < l.length → okH (bubbleH l j)
  | 0, l, h, _ => h
  | j + 1, l, h, hj => by
    unfold bubbleH; split
    · exact okH_bubble j _ (okH_swap h hj) (by rw [swapH_length]; omega)
    · exact h
theorem okH_isort {l : List (List Pt)} (h : okH l) : ∀ i, i < l.length → okH (isortH l i)
  | 0, _ => h
  | i + 1, hi => okH_bubble _ _ (okH_isort h i (by omega)) (by rw [isortH_length]; exact hi)
theorem hc_get {l : List (List Pt)} {i : Nat} (h : i < l.length) : (l.map hcel)[i]? = some (hcel (l.getD i [])) := by
  rw [List.getElem?_map, List.getD_eq_getElem?_getD, List.getElem?_eq_getElem h]; rfl
theorem hc_swap {l : List (List Pt)} {j : Nat} (hj : j + 1 < l.length) : ((l.map hcel).set (j + 1) (hcel (l.getD j []))).set j (hcel (l.getD (j + 1) [])) = (swapH l j).map hcel := by
  unfold swapH; rw [List.map_set, List.map_set]
set_option maxRecDepth 100000 in
set_option maxHeartbeats 8000000 in
theorem isortH_sc (l : List (List Pt)) (hn : l.length ≤ 2 ^ 20) (h2 : 1 ≤ l.length) (hl0 : okH l) {b : Nat} {fx : Bool} {H : Hp} {K : V → Hp → Prop} (hb : get H b = some (.row 1 true (l.map hcel)))
    (hK : K (.tup []) (H.set b (some (.row 1 true ((isortH l (l.length - 1)).map hcel))))) :
    SC prog 280 [.sref b 0 l.length l.length 1 fx, .prim (.int .i64 ((0 : Nat) : Int)), .prim (.int .i64 ((l.length : Nat) : Int)), .clo 158 [] []] H K := by
  have hbl := get_lt_len hb
  have s1 : ∀ x, get (H.set b x) b = x := fun x => get_eq hbl
  refine SC_intro mixed (FnD.of (by kernel_rfl)) ?_
  conv in lcOf _ _ => cbv
  conv in ntOf _ _ => cbv
  conv in rsOf _ _ => cbv
  simp only [RN, Nat.reduceAdd, Nat.reduceSub]
  simp (maxSteps := 2000000) (disch := omega) only [↓RS, RW, RB, RX, RE, RK, RT, evN, evA, evL, binV, unV, intOfV, lenV, TK.isAgg, sliceV, reduceCtorEq, Nat.reduceAdd, Nat.reduceLT, Nat.reduceLeDiff, List.reduceReplicate, elemsOf, added, view, view.viewL, view.viewLL, Nat.reducePow, Nat.reduceDiv, Nat.reduceMod, Nat.reduceEqDiff, Nat.reduceBEq]
  refine wp_lp (fun (i : Nat) J => .sref b 0 l.length l.length 1 fx :: .prim (.int .i64 ((0 : Nat) : Int)) :: .prim (.int .i64 ((l.length : Nat) : Int)) :: .clo 158 [] [] :: J 4 :: J 5 :: J 6 :: J 7 :: .prim (.int .i64 ((i : Nat) : Int)) :: J 9 :: J 10 :: J 11 :: J 12 :: J 13 :: J 14 :: J 15 :: J 16 :: J 17 :: J 18 :: J 19 :: J 20 :: J 21 :: J 22 :: J 23 :: J 24 :: J 25 :: J 26 :: J 27 :: J 28 :: J 29 :: J 30 :: J 31 :: J 32 :: J 33 :: J 34 :: J 35 :: J 36 :: J 37 :: J 38 :: J 39 :: J 40 :: J 41 :: J 42 :: J 43 :: J 44 :: J 45 :: J 46 :: J 47 :: J 48 :: J 49 :: J 50 :: J 51 :: J 52 :: []) (fun i H' => (1 ≤ i ∧ i ≤ l.length) ∧ H' = H.set b (some (.row 1 true ((isortH l (i - 1)).map hcel)))) (fun i => l.length - i) 1 rfl ⟨⟨Nat.le_refl _, h2⟩, (set_self hb).symm⟩ ?_
  rintro i J _ ⟨⟨hi1, hi⟩, rfl⟩
  rcases Nat.lt_or_ge i l.length with hlt | hge
  · simp (maxSteps := 2000000) (disch := omega) only [↓RS, RW, RB, RX, RE, RK, RT, evN, evA, evL, binV, unV, intOfV, lenV, TK.isAgg, sliceV, reduceCtorEq, Nat.reduceAdd, Nat.reduceLT, Nat.reduceLeDiff, List.reduceReplicate, elemsOf, added, view, view.viewL, view.viewLL, Nat.reducePow, Nat.reduceDiv, Nat.reduceMod, Nat.reduceEqDiff, Nat.reduceBEq]
    refine wp_lp (fun (j : Nat) J => .sref b 0 l.length l.length 1 fx :: .prim (.int .i64 ((0 : Nat) : Int)) :: .prim (.int .i64 ((l.length : Nat) : Int)) :: .clo 158 [] [] :: J 4 :: J 5 :: J 6 :: J 7 :: .prim (.int .i64 ((i : Nat) : Int)) :: .prim (.int .i64 ((j : Nat) : Int)) :: J 10 :: J 11 :: J 12 :: J 13 :: J 14 :: J 15 :: J 16 :: J 17 :: J 18 :: J 19 :: J 20 :: J 21 :: J 22 :: J 23 :: J 24 :: J 25 :: J 26 :: J 27 :: J 28 :: J 29 :: J 30 :: J 31 :: J 32 :: J 33 :: J 34 :: J 35 :: J 36 :: J 37 :: J 38 :: J 39 :: J 40 :: J 41 :: J 42 :: J 43 :: J 44 :: J 45 :: J 46 :: J 47 :: J 48 :: J 49 :: J 50 :: J 51 :: J 52 :: [])
      (fun j H' => ∃ m : List (List Pt), (m.length = l.length ∧ okH m ∧ j ≤ i ∧ bubbleH m j = bubbleH (isortH l (i - 1)) i) ∧ H' = H.set b (some (.row 1 true (m.map hcel)))) (fun j => j) i rfl ⟨isortH l (i - 1), ⟨isortH_length l _, okH_isort hl0 _ (by omega), Nat.le_refl _, rfl⟩, rfl⟩ ?_
    rintro j J _ ⟨m, ⟨hml, hmq, hji, hm⟩, rfl⟩
    have fin : isortH l (i + 1 - 1) = bubbleH m j := by
      rw [hm, Nat.add_sub_cancel]
      obtain ⟨i, rfl⟩ : ∃ k, i = k + 1 := ⟨i - 1, by omega⟩
      rfl
    rcases j with _ | k
    · simp (maxSteps := 2000000) (disch := omega) only [↓RS, RW, RB, RX, RE, RK, RT, evN, evA, evL, binV, unV, intOfV, lenV, TK.isAgg, sliceV, reduceCtorEq, Nat.reduceAdd, Nat.reduceLT, Nat.reduceLeDiff, List.reduceReplicate, elemsOf, added, view, view.viewL, view.viewLL, Nat.reducePow, Nat.reduceDiv, Nat.reduceMod, Nat.reduceEqDiff, Nat.reduceBEq]
      exact lp_next (i + 1) rfl ⟨⟨by omega, hlt⟩, by rw [fin]; rfl⟩ (by omega)
    · have g1 := hc_get (l := m) (i := k) (by omega)
      have g2 := hc_get (l := m) (i := k + 1) (by omega)
      have c := cmpH_pc (m.getD (k + 1) []) (m.getD k []) (hmq _ (by omega)) (hmq _ (by omega))
      simp (maxSteps := 2000000) (disch := omega) only [↓RS, RW, RB, RX, RE, RK, RT, evN, evA, evL, binV, unV, intOfV, lenV, TK.isAgg, sliceV, reduceCtorEq, Nat.reduceAdd, Nat.reduceLT, Nat.reduceLeDiff, List.reduceReplicate, elemsOf, added, view, view.viewL, view.viewLL, Nat.reducePow, Nat.reduceDiv, Nat.reduceMod, Nat.reduceEqDiff, Nat.reduceBEq, s1, g1, g2, hcel, psV, Nat.add_sub_cancel, Nat.zero_add]
      first | refine cP (c) ?_ | refine cD (c) ?_
      by_cases hc : cmpH (m.getD (k + 1) []) (m.getD k []) < 0
      · have s2 : ∀ x y, (H.set b x).set b y = H.set b y := fun x y => List.set_set ..
        have g3 : ∀ x, ((m.map hcel).set (k + 1) x)[k]? = some (hcel (m.getD k [])) := fun x => by rw [List.getElem?_set_ne (by omega)]; exact g1
        simp (maxSteps := 2000000) (disch := omega) only [↓RS, RW, RB, RX, RE, RK, RT, evN, evA, evL, binV, unV, intOfV, lenV, TK.isAgg, sliceV, reduceCtorEq, Nat.reduceAdd, Nat.reduceLT, Nat.reduceLeDiff, List.reduceReplicate, elemsOf, added, view, view.viewL, view.viewLL, Nat.reducePow, Nat.reduceDiv, Nat.reduceMod, Nat.reduceEqDiff, Nat.reduceBEq, s1, s2, g1, g2, g3, hcel, psV, Nat.add_sub_cancel, Nat.zero_add]
        refine lp_next k rfl ⟨swapH m k, ⟨by rw [swapH_length]; exact hml, okH_swap hmq (by omega), by omega, ?_⟩, ?_⟩ (Nat.lt_succ_self k)
        · rw [← hm]
          conv => rhs; unfold bubbleH
          rw [if_pos hc]
        · rw [← hc_swap (by omega)]; rfl
      · simp (maxSteps := 2000000) (disch := omega) only [↓RS, RW, RB, RX, RE, RK, RT, evN, evA, evL, binV, unV, intOfV, lenV, TK.isAgg, sliceV, reduceCtorEq, Nat.reduceAdd, Nat.reduceLT, Nat.reduceLeDiff, List.reduceReplicate, elemsOf, added, view, view.viewL, view.viewLL, Nat.reducePow, Nat.reduceDiv, Nat.reduceMod, Nat.reduceEqDiff, Nat.reduceBEq]
        refine lp_next (i + 1) rfl ⟨⟨by omega, hlt⟩, ?_⟩ (by omega)
        rw [fin]
        unfold bubbleH
        rw [if_neg hc]
  · have hia : i = l.length := by omega
    subst hia
    simp (maxSteps := 2000000) (disch := omega) only [↓RS, RW, RB, RX, RE, RK, RT, evN, evA, evL, binV, unV, intOfV, lenV, TK.isAgg, sliceV, reduceCtorEq, Nat.reduceAdd, Nat.reduceLT, Nat.reduceLeDiff, List.reduceReplicate, elemsOf, added, view, view.viewL, view.viewLL, Nat.reducePow, Nat.reduceDiv, Nat.reduceMod, Nat.reduceEqDiff, Nat.reduceBEq]
    exact hK


set_option maxRecDepth 100000 in
set_option maxHeartbeats 8000000 in
theorem stableC_sc (l : List (List Pt)) (hn : l.length ≤ 12) (h2 : 1 ≤ l.length) (hl0 : okH l) {b : Nat} {fx : Bool} {H : Hp} {K : V → Hp → Prop} (hb : get H b = some (.row 1 true (l.map hcel)))
    (hK : K (.tup []) (H.set b (some (.row 1 true ((isortH l (l.length - 1)).map hcel))))) :
    SC prog 226 [.sref b 0 l.length l.length 1 fx, .prim (.int .i64 ((l.length : Nat) : Int)), .clo 158 [] []] H K := by
  refine SC_intro mixed (FnD.of (by kernel_rfl)) ?_
  conv in lcOf _ _ => cbv
  conv in ntOf _ _ => cbv
  conv in rsOf _ _ => cbv
  simp only [RN, Nat.reduceAdd, Nat.reduceSub]
  simp (maxSteps := 2000000) (disch := omega) only [↓RS, RW, RB, RX, RE, RK, RT, evN, evA, evL, binV, unV, intOfV, lenV, TK.isAgg, sliceV, reduceCtorEq, Nat.reduceAdd, Nat.reduceLT, Nat.reduceLeDiff, List.reduceReplicate, elemsOf, added, view, view.viewL, view.viewLL, Nat.reducePow, Nat.reduceDiv, Nat.reduceMod, Nat.reduceEqDiff, Nat.reduceBEq]
  refine wp_iter 1 ?_
  simp (maxSteps := 2000000) (disch := omega) only [↓RS, RW, RB, RX, RE, RK, RT, evN, evA, evL, binV, unV, intOfV, lenV, TK.isAgg, sliceV, reduceCtorEq, Nat.reduceAdd, Nat.reduceLT, Nat.reduceLeDiff, List.reduceReplicate, elemsOf, added, view, view.viewL, view.viewLL, Nat.reducePow, Nat.reduceDiv, Nat.reduceMod, Nat.reduceEqDiff, Nat.reduceBEq, iterL_s, itQ_normal, itQ_exit, itQ_ret, Int.sub_zero]
  refine call_sc (isortH_sc l (by omega) h2 hl0 hb ?_)
  simp (maxSteps := 2000000) (disch := omega) only [↓RS, RW, RB, RX, RE, RK, RT, evN, evA, evL, binV, unV, intOfV, lenV, TK.isAgg, sliceV, reduceCtorEq, Nat.reduceAdd, Nat.reduceLT, Nat.reduceLeDiff, List.reduceReplicate, elemsOf, added, view, view.viewL, view.viewLL, Nat.reducePow, Nat.reduceDiv, Nat.reduceMod, Nat.reduceEqDiff, Nat.reduceBEq]
  refine wp_iter 1 ?_
  simp (maxSteps := 2000000) (disch := omega) only [↓RS, RW, RB, RX, RE, RK, RT, evN, evA, evL, binV, unV, intOfV, lenV, TK.isAgg, sliceV, reduceCtorEq, Nat.reduceAdd, Nat.reduceLT, Nat.reduceLeDiff, List.reduceReplicate, elemsOf, added, view, view.viewL, view.viewLL, Nat.reducePow, Nat.reduceDiv, Nat.reduceMod, Nat.reduceEqDiff, Nat.reduceBEq, iterL_s, itQ_normal, itQ_exit, itQ_ret, Int.sub_zero]
  exact hK
set_option maxHeartbeats 4000000 in
theorem stable_sc (l : List (List Pt)) (hn : l.length ≤ 12) (h2 : 1 ≤ l.length) (hl0 : okH l) {b : Nat} {fx : Bool} {H : Hp} {K : V → Hp → Prop} (hb : get H b = some (.row 1 true (l.map hcel)))
    (hK : K (.tup []) (H.set b (some (.row 1 true ((isortH l (l.length - 1)).map hcel))))) :
    SC prog 157 [.sref b 0 l.length l.length 1 fx, .clo 158 [] []] H K := by
  refine SC_intro mixed (FnD.of (by kernel_rfl)) ?_
  conv in lcOf _ _ => cbv
  conv in ntOf _ _ => cbv
  conv in rsOf _ _ => cbv
  simp only [RN, Nat.reduceAdd, Nat.reduceSub]
  simp (maxSteps := 2000000) (disch := omega) only [↓RS, RW, RB, RX, RE, RK, RT, evN, evA, evL, binV, unV, intOfV, lenV, TK.isAgg, sliceV, reduceCtorEq, Nat.reduceAdd, Nat.reduceLT, Nat.reduceLeDiff, List.reduceReplicate, elemsOf, added, view, view.viewL, view.viewLL, Nat.reducePow, Nat.reduceDiv, Nat.reduceMod, Nat.reduceEqDiff, Nat.reduceBEq]
  refine call_sc (stableC_sc l hn h2 hl0 hb ?_)
  simp (maxSteps := 2000000) (disch := omega) only [↓RS, RW, RB, RX, RE, RK, RT, evN, evA, evL, binV, unV, intOfV, lenV, TK.isAgg, sliceV, reduceCtorEq, Nat.reduceAdd, Nat.reduceLT, Nat.reduceLeDiff, List.reduceReplicate, elemsOf, added, view, view.viewL, view.viewLL, Nat.reducePow, Nat.reduceDiv, Nat.reduceMod, Nat.reduceEqDiff, Nat.reduceBEq]
  exact hK

set_option maxHeartbeats 4000000 in
theorem isort0_sc {H : Hp} {K : V → Hp → Prop} (hK : K (.tup []) H) :
    SC prog 280 [.prim (.slice none 0 0), .prim (.int .i64 ((0 : Nat) : Int)), .prim (.int .i64 ((0 : Nat) : Int)), .clo 158 [] []] H K := by
  refine SC_intro mixed (FnD.of (by kernel_rfl)) ?_
  conv in lcOf _ _ => cbv
  conv in ntOf _ _ => cbv
  conv in rsOf _ _ => cbv
  simp only [RN, Nat.reduceAdd, Nat.reduceSub]
  simp (maxSteps := 2000000) (disch := omega) only [↓RS, RW, RB, RX, RE, RK, RT, evN, evA, evL, binV, unV, intOfV, lenV, TK.isAgg, sliceV, reduceCtorEq, Nat.reduceAdd, Nat.reduceLT, Nat.reduceLeDiff, List.reduceReplicate, elemsOf, added, view, view.viewL, view.viewLL, Nat.reducePow, Nat.reduceDiv, Nat.reduceMod, Nat.reduceEqDiff, Nat.reduceBEq]
  refine wp_iter 1 ?_
  simp (maxSteps := 2000000) (disch := omega) only [↓RS, RW, RB, RX, RE, RK, RT, evN, evA, evL, binV, unV, intOfV, lenV, TK.isAgg, sliceV, reduceCtorEq, Nat.reduceAdd, Nat.reduceLT, Nat.reduceLeDiff, List.reduceReplicate, elemsOf, added, view, view.viewL, view.viewLL, Nat.reducePow, Nat.reduceDiv, Nat.reduceMod, Nat.reduceEqDiff, Nat.reduceBEq, iterL_s, itQ_normal, itQ_exit, itQ_ret, Int.sub_zero]
  exact hK
set_option maxHeartbeats 4000000 in
theorem stableC0_sc {H : Hp} {K : V → Hp → Prop} (hK : K (.tup []) H) :
    SC prog 226 [.prim (.slice none 0 0), .prim (.int .i64 ((0 : Nat) : Int)), .clo 158 [] []] H K := by
  refine SC_intro mixed (FnD.of (by kernel_rfl)) ?_
  conv in lcOf _ _ => cbv
  conv in ntOf _ _ => cbv
  conv in rsOf _ _ => cbv
  simp only [RN, Nat.reduceAdd, Nat.reduceSub]
  simp (maxSteps := 2000000) (disch := omega) only [↓RS, RW, RB, RX, RE, RK, RT, evN, evA, evL, binV, unV, intOfV, lenV, TK.isAgg, sliceV, reduceCtorEq, Nat.reduceAdd, Nat.reduceLT, Nat.reduceLeDiff, List.reduceReplicate, elemsOf, added, view, view.viewL, view.viewLL, Nat.reducePow, Nat.reduceDiv, Nat.reduceMod, Nat.reduceEqDiff, Nat.reduceBEq]
  refine wp_iter 1 ?_
  simp (maxSteps := 2000000) (disch := omega) only [↓RS, RW, RB, RX, RE, RK, RT, evN, evA, evL, binV, unV, intOfV, lenV, TK.isAgg, sliceV, reduceCtorEq, Nat.reduceAdd, Nat.reduceLT, Nat.reduceLeDiff, List.reduceReplicate, elemsOf, added, view, view.viewL, view.viewLL, Nat.reducePow, Nat.reduceDiv, Nat.reduceMod, Nat.reduceEqDiff, Nat.reduceBEq, iterL_s, itQ_normal, itQ_exit, itQ_ret, Int.sub_zero]
  refine call_sc (isort0_sc ?_)
  simp (maxSteps := 2000000) (disch := omega) only [↓RS, RW, RB, RX, RE, RK, RT, evN, evA, evL, binV, unV, intOfV, lenV, TK.isAgg, sliceV, reduceCtorEq, Nat.reduceAdd, Nat.reduceLT, Nat.reduceLeDiff, List.reduceReplicate, elemsOf, added, view, view.viewL, view.viewLL, Nat.reducePow, Nat.reduceDiv, Nat.reduceMod, Nat.reduceEqDiff, Nat.reduceBEq]
  refine wp_iter 1 ?_
  simp (maxSteps := 2000000) (disch := omega) only [↓RS, RW, RB, RX, RE, RK, RT, evN, evA, evL, binV, unV, intOfV, lenV, TK.isAgg, sliceV, reduceCtorEq, Nat.reduceAdd, Nat.reduceLT, Nat.reduceLeDiff, List.reduceReplicate, elemsOf, added, view, view.viewL, view.viewLL, Nat.reducePow, Nat.reduceDiv, Nat.reduceMod, Nat.reduceEqDiff, Nat.reduceBEq, iterL_s, itQ_normal, itQ_exit, itQ_ret, Int.sub_zero]
  exact hK
theorem stable0_sc {H : Hp} {K : V → Hp → Prop} (hK : K (.tup []) H) :
    SC prog 157 [.prim (.slice none 0 0), .clo 158 [] []] H K := by
  refine SC_intro mixed (FnD.of (by kernel_rfl)) ?_
  conv in lcOf _ _ => cbv
  conv in ntOf _ _ => cbv
  conv in rsOf _ _ => cbv
  simp only [RN, Nat.reduceAdd, Nat.reduceSub]
  simp (maxSteps := 2000000) (disch := omega) only [↓RS, RW, RB, RX, RE, RK, RT, evN, evA, evL, binV, unV, intOfV, lenV, TK.isAgg, sliceV, reduceCtorEq, Nat.reduceAdd, Nat.reduceLT, Nat.reduceLeDiff, List.reduceReplicate, elemsOf, added, view, view.viewL, view.viewLL, Nat.reducePow, Nat.reduceDiv, Nat.reduceMod, Nat.reduceEqDiff, Nat.reduceBEq]
  refine call_sc (stableC0_sc ?_)
  simp (maxSteps := 2000000) (disch := omega) only [↓RS, RW, RB, RX, RE, RK, RT, evN, evA, evL, binV, unV, intOfV, lenV, TK.isAgg, sliceV, reduceCtorEq, Nat.reduceAdd, Nat.reduceLT, Nat.reduceLeDiff, List.reduceReplicate, elemsOf, added, view, view.viewL, view.viewLL, Nat.reducePow, Nat.reduceDiv, Nat.reduceMod, Nat.reduceEqDiff, Nat.reduceBEq]
  exact hK
end Go.Av
