/- Helping texts: Fh, Fi. -/
import Derived.Test.YtbidkolaahnbiaaGreatK47
import Derived.Test.YtbidkolaahnbiaaGreatK26
import Derived.Test.YtbidkolaahnbiaaGreatK41
set_option linter.unusedSimpArgs false
set_option linter.unusedVariables false
namespace Go.Av
open Go.RowKit
open Go.Proofs.Tryz (prog)
set_option maxRecDepth 100000 in
set_option maxHeartbeats 8000000 in
theorem turned_pc (l : List Pt) (n : Nat) (back : Bool) (h1 : 1 ≤ l.length) (hn : l.length ≤ 2 ^ 20) (hN : n ≤ 2 ^ 20) : PC prog 76 [psV l, .prim (.int .i64 ((n : Nat) : Int)), .prim (.bool back)] (psV (turnL l n back)) := by
  have hlm : (l.map pc).length = l.length := List.length_map ..
  have hk := Nat.mod_lt n (show 0 < l.length by omega)
  unfold turnL
  cases back with
  | true =>
    rw [if_pos rfl]
    refine PC_intro mixed (FnD.of (by kernel_rfl)) ?_
    conv in lcOf _ _ => cbv
    conv in ntOf _ _ => cbv
    conv in rsOf _ _ => cbv
    simp only [RN, Nat.reduceAdd, Nat.reduceSub]
    simp (maxSteps := 2000000) (disch := omega) only [↓RS, RW, RB, RX, RE, RK, RT, evN, evA, evL, binV, unV, intOfV, lenV, TK.isAgg, sliceV, reduceCtorEq, Nat.reduceAdd, Nat.reduceLT, Nat.reduceLeDiff, List.reduceReplicate, elemsOf, added, view, view.viewL, view.viewLL, Nat.reducePow, Nat.reduceDiv, Nat.reduceMod, Nat.reduceEqDiff, Nat.reduceBEq, psV, pc_length, tmodN]
    generalize n % l.length = k at *
    have t1 : List.take (l.length - k) (List.drop k (l.map pc)) = (l.drop k).map pc := by rw [List.map_drop, List.take_of_length_le (by rw [List.length_drop, hlm]; exact Nat.le_refl _)]
    have t2 : List.take (k - 0) (l.map pc) = (l.take k).map pc := by rw [Nat.sub_zero, List.map_take]
    rw [t1, t2]
    refine call_sc (concat_sc (l.drop k) (l.take k) (by simp only [List.length_drop, List.length_take]; omega) (by simp only [List.length_drop, List.length_take]; omega) (c := 0) rfl rfl (by simp only [lenV, List.length_map]) rfl (by simp only [lenV, List.length_map]) ?_)
    rw [show l.drop k ++ l.take k = rotL l k from rfl]
    have hrl : (rotL l k).length = l.length := rotL_length (by omega)
    generalize rotL l k = m at *
    intro b H1 hE hb hg
    have hrm : (m.map pc).length = l.length := by rw [List.length_map]; exact hrl
    simp (maxSteps := 2000000) (disch := omega) only [↓RS, RW, RB, RX, RE, RK, RT, evN, evA, evL, binV, unV, intOfV, lenV, TK.isAgg, sliceV, reduceCtorEq, Nat.reduceAdd, Nat.reduceLT, Nat.reduceLeDiff, List.reduceReplicate, elemsOf, added, view, view.viewL, view.viewLL, Nat.reducePow, Nat.reduceDiv, Nat.reduceMod, Nat.reduceEqDiff, Nat.reduceBEq]
    refine call_sc (reverse_sc m (by intro e; rw [e] at hrl; simp only [List.length_nil] at hrl; omega) (by omega) hg ?_)
    have g2 : get (H1.set b (some (.row 6 true (m.reverse.map pc)))) b = some (.row 6 true (m.reverse.map pc)) := get_eq (get_lt_len hg)
    have hrm2 : (m.reverse.map pc).length = l.length := by rw [List.length_map, List.length_reverse]; exact hrl
    have r2 : (m.reverse.map pc).take l.length = m.reverse.map pc := by rw [List.take_of_length_le (by omega)]
    generalize H1.set b _ = H2 at g2 ⊢
    have r3 := @viewLL_prims H2 7 _ (pc_prims m.reverse)
    rw [hrl]
    simp (maxSteps := 2000000) (disch := omega) only [↓RS, RW, RB, RX, RE, RK, RT, evN, evA, evL, binV, unV, intOfV, lenV, TK.isAgg, sliceV, reduceCtorEq, Nat.reduceAdd, Nat.reduceLT, Nat.reduceLeDiff, List.reduceReplicate, elemsOf, added, view, view.viewL, view.viewLL, Nat.reducePow, Nat.reduceDiv, Nat.reduceMod, Nat.reduceEqDiff, Nat.reduceBEq, g2, hrm2, r2, r3]
  | false =>
    rw [if_neg (by simp)]
    refine PC_intro mixed (FnD.of (by kernel_rfl)) ?_
    conv in lcOf _ _ => cbv
    conv in ntOf _ _ => cbv
    conv in rsOf _ _ => cbv
    simp only [RN, Nat.reduceAdd, Nat.reduceSub]
    simp (maxSteps := 2000000) (disch := omega) only [↓RS, RW, RB, RX, RE, RK, RT, evN, evA, evL, binV, unV, intOfV, lenV, TK.isAgg, sliceV, reduceCtorEq, Nat.reduceAdd, Nat.reduceLT, Nat.reduceLeDiff, List.reduceReplicate, elemsOf, added, view, view.viewL, view.viewLL, Nat.reducePow, Nat.reduceDiv, Nat.reduceMod, Nat.reduceEqDiff, Nat.reduceBEq, psV, pc_length, tmodN]
    generalize n % l.length = k at *
    have t1 : List.take (l.length - k) (List.drop k (l.map pc)) = (l.drop k).map pc := by rw [List.map_drop, List.take_of_length_le (by rw [List.length_drop, hlm]; exact Nat.le_refl _)]
    have t2 : List.take (k - 0) (l.map pc) = (l.take k).map pc := by rw [Nat.sub_zero, List.map_take]
    rw [t1, t2]
    refine call_sc (concat_sc (l.drop k) (l.take k) (by simp only [List.length_drop, List.length_take]; omega) (by simp only [List.length_drop, List.length_take]; omega) (c := 0) rfl rfl (by simp only [lenV, List.length_map]) rfl (by simp only [lenV, List.length_map]) ?_)
    rw [show l.drop k ++ l.take k = rotL l k from rfl]
    have hrl : (rotL l k).length = l.length := rotL_length (by omega)
    generalize rotL l k = m at *
    intro b H1 hE hb hg
    have hrm : (m.map pc).length = l.length := by rw [List.length_map]; exact hrl
    have r2 : (m.map pc).take l.length = m.map pc := by rw [List.take_of_length_le (by omega)]
    have r3 := @viewLL_prims H1 7 _ (pc_prims m)
    rw [hrl]
    simp (maxSteps := 2000000) (disch := omega) only [↓RS, RW, RB, RX, RE, RK, RT, evN, evA, evL, binV, unV, intOfV, lenV, TK.isAgg, sliceV, reduceCtorEq, Nat.reduceAdd, Nat.reduceLT, Nat.reduceLeDiff, List.reduceReplicate, elemsOf, added, view, view.viewL, view.viewLL, Nat.reducePow, Nat.reduceDiv, Nat.reduceMod, Nat.reduceEqDiff, Nat.reduceBEq, hg, hrm, r2, r3]

set_option maxRecDepth 100000 in
set_option maxHeartbeats 8000000 in
theorem reverseH_sc (Hs : List (List Pt)) (h3 : Hs.length ≤ 3) {b : Nat} {fx : Bool} {H : Hp} {K : V → Hp → Prop} (hb : get H b = some (.row 1 true (Hs.map hcel))) (hK : K (.tup []) (H.set b (some (.row 1 true (Hs.reverse.map hcel))))) :
    SC prog 77 [.sref b 0 Hs.length Hs.length 1 fx] H K := by
  have s1 : ∀ x, get (H.set b x) b = x := fun x => get_eq (get_lt_len hb)
  have s2 : ∀ x y, (H.set b x).set b y = H.set b y := fun x y => List.set_set ..
  match Hs, h3, hb, hK with
  | [], _, hb, hK =>
    rw [List.reverse_nil, set_self hb] at hK
    refine SC_intro mixed (FnD.of (by kernel_rfl)) ?_
    conv in lcOf _ _ => cbv
    conv in ntOf _ _ => cbv
    conv in rsOf _ _ => cbv
    simp only [RN, Nat.reduceAdd, Nat.reduceSub]
    simp (maxSteps := 2000000) (disch := omega) only [↓RS, RW, RB, RX, RE, RK, RT, evN, evA, evL, binV, unV, intOfV, lenV, TK.isAgg, sliceV, reduceCtorEq, Nat.reduceAdd, Nat.reduceLT, Nat.reduceLeDiff, List.reduceReplicate, elemsOf, added, view, view.viewL, view.viewLL, Nat.reducePow, Nat.reduceDiv, Nat.reduceMod, Nat.reduceEqDiff, Nat.reduceBEq]
    refine wp_iter 1 ?_
    simp (maxSteps := 2000000) (disch := omega) only [↓RS, RW, RB, RX, RE, RK, RT, evN, evA, evL, binV, unV, intOfV, lenV, TK.isAgg, sliceV, reduceCtorEq, Nat.reduceAdd, Nat.reduceLT, Nat.reduceLeDiff, List.reduceReplicate, elemsOf, added, view, view.viewL, view.viewLL, Nat.reducePow, Nat.reduceDiv, Nat.reduceMod, Nat.reduceEqDiff, Nat.reduceBEq, iterL_s, itQ_normal, itQ_exit, itQ_ret, Int.sub_zero]
    exact hK
  | [x], _, hb, hK =>
    rw [List.reverse_singleton, set_self hb] at hK
    refine SC_intro mixed (FnD.of (by kernel_rfl)) ?_
    conv in lcOf _ _ => cbv
    conv in ntOf _ _ => cbv
    conv in rsOf _ _ => cbv
    simp only [RN, Nat.reduceAdd, Nat.reduceSub]
    simp (maxSteps := 2000000) (disch := omega) only [↓RS, RW, RB, RX, RE, RK, RT, evN, evA, evL, binV, unV, intOfV, lenV, TK.isAgg, sliceV, reduceCtorEq, Nat.reduceAdd, Nat.reduceLT, Nat.reduceLeDiff, List.reduceReplicate, elemsOf, added, view, view.viewL, view.viewLL, Nat.reducePow, Nat.reduceDiv, Nat.reduceMod, Nat.reduceEqDiff, Nat.reduceBEq]
    refine wp_iter 1 ?_
    simp (maxSteps := 2000000) (disch := omega) only [↓RS, RW, RB, RX, RE, RK, RT, evN, evA, evL, binV, unV, intOfV, lenV, TK.isAgg, sliceV, reduceCtorEq, Nat.reduceAdd, Nat.reduceLT, Nat.reduceLeDiff, List.reduceReplicate, elemsOf, added, view, view.viewL, view.viewLL, Nat.reducePow, Nat.reduceDiv, Nat.reduceMod, Nat.reduceEqDiff, Nat.reduceBEq, iterL_s, itQ_normal, itQ_exit, itQ_ret, Int.sub_zero]
    exact hK
  | [x, y], _, hb, hK =>
    simp only [List.map_cons, List.map_nil, List.reverse_cons, List.reverse_nil, List.nil_append, List.cons_append, hcel, psV] at hb hK
    refine SC_intro mixed (FnD.of (by kernel_rfl)) ?_
    conv in lcOf _ _ => cbv
    conv in ntOf _ _ => cbv
    conv in rsOf _ _ => cbv
    simp only [RN, Nat.reduceAdd, Nat.reduceSub]
    simp (maxSteps := 2000000) (disch := omega) only [↓RS, RW, RB, RX, RE, RK, RT, evN, evA, evL, binV, unV, intOfV, lenV, TK.isAgg, sliceV, reduceCtorEq, Nat.reduceAdd, Nat.reduceLT, Nat.reduceLeDiff, List.reduceReplicate, elemsOf, added, view, view.viewL, view.viewLL, Nat.reducePow, Nat.reduceDiv, Nat.reduceMod, Nat.reduceEqDiff, Nat.reduceBEq]
    refine wp_iter 2 ?_
    simp (maxSteps := 2000000) (disch := omega) only [↓RS, RW, RB, RX, RE, RK, RT, evN, evA, evL, binV, unV, intOfV, lenV, TK.isAgg, sliceV, reduceCtorEq, Nat.reduceAdd, Nat.reduceLT, Nat.reduceLeDiff, List.reduceReplicate, elemsOf, added, view, view.viewL, view.viewLL, Nat.reducePow, Nat.reduceDiv, Nat.reduceMod, Nat.reduceEqDiff, Nat.reduceBEq, iterL_s, itQ_normal, itQ_exit, itQ_ret, Int.sub_zero, s1, s2, hb]
    exact hK
  | [x, y, z], _, hb, hK =>
    simp only [List.map_cons, List.map_nil, List.reverse_cons, List.reverse_nil, List.nil_append, List.cons_append, hcel, psV] at hb hK
    refine SC_intro mixed (FnD.of (by kernel_rfl)) ?_
    conv in lcOf _ _ => cbv
    conv in ntOf _ _ => cbv
    conv in rsOf _ _ => cbv
    simp only [RN, Nat.reduceAdd, Nat.reduceSub]
    simp (maxSteps := 2000000) (disch := omega) only [↓RS, RW, RB, RX, RE, RK, RT, evN, evA, evL, binV, unV, intOfV, lenV, TK.isAgg, sliceV, reduceCtorEq, Nat.reduceAdd, Nat.reduceLT, Nat.reduceLeDiff, List.reduceReplicate, elemsOf, added, view, view.viewL, view.viewLL, Nat.reducePow, Nat.reduceDiv, Nat.reduceMod, Nat.reduceEqDiff, Nat.reduceBEq]
    refine wp_iter 2 ?_
    simp (maxSteps := 2000000) (disch := omega) only [↓RS, RW, RB, RX, RE, RK, RT, evN, evA, evL, binV, unV, intOfV, lenV, TK.isAgg, sliceV, reduceCtorEq, Nat.reduceAdd, Nat.reduceLT, Nat.reduceLeDiff, List.reduceReplicate, elemsOf, added, view, view.viewL, view.viewLL, Nat.reducePow, Nat.reduceDiv, Nat.reduceMod, Nat.reduceEqDiff, Nat.reduceBEq, iterL_s, itQ_normal, itQ_exit, itQ_ret, Int.sub_zero, s1, s2, hb]
    exact hK
theorem reverse0_sc {H : Hp} {K : V → Hp → Prop} (hK : K (.tup []) H) : SC prog 77 [.prim (.slice none 0 0)] H K := by
  refine SC_intro mixed (FnD.of (by kernel_rfl)) ?_
  conv in lcOf _ _ => cbv
  conv in ntOf _ _ => cbv
  conv in rsOf _ _ => cbv
  simp only [RN, Nat.reduceAdd, Nat.reduceSub]
  simp (maxSteps := 2000000) (disch := omega) only [↓RS, RW, RB, RX, RE, RK, RT, evN, evA, evL, binV, unV, intOfV, lenV, TK.isAgg, sliceV, reduceCtorEq, Nat.reduceAdd, Nat.reduceLT, Nat.reduceLeDiff, List.reduceReplicate, elemsOf, added, view, view.viewL, view.viewLL, Nat.reducePow, Nat.reduceDiv, Nat.reduceMod, Nat.reduceEqDiff, Nat.reduceBEq]
  refine wp_iter 1 ?_
  simp (maxSteps := 2000000) (disch := omega) only [↓RS, RW, RB, RX, RE, RK, RT, evN, evA, evL, binV, unV, intOfV, lenV, TK.isAgg, sliceV, reduceCtorEq, Nat.reduceAdd, Nat.reduceLT, Nat.reduceLeDiff, List.reduceReplicate, elemsOf, added, view, view.viewL, view.viewLL, Nat.reducePow, Nat.reduceDiv, Nat.reduceMod, Nat.reduceEqDiff, Nat.reduceBEq, iterL_s, itQ_normal, itQ_exit, itQ_ret, Int.sub_zero]
  exact hK

set_option maxHeartbeats 4000000 in
theorem equalH_pc (Hs : List (List Pt)) (hn : Hs.length < 2 ^ 40) (hh : ∀ l ∈ Hs, l.length < 2 ^ 40) :
    PC prog 109 [.lst 1 ((Hs.map psV).map fun v => [v]), .lst 1 ((Hs.map psV).map fun v => [v]), .clo 69 [] []] (.prim (.bool true)) := by
  refine PC_intro mixed (FnD.of (by kernel_rfl)) ?_
  conv in lcOf _ _ => cbv
  conv in ntOf _ _ => cbv
  conv in rsOf _ _ => cbv
  simp only [RN, Nat.reduceAdd, Nat.reduceSub]
  simp (maxSteps := 2000000) (disch := omega) only [↓RS, RW, RB, RX, RE, RK, RT, evN, evA, evL, binV, unV, intOfV, lenV, TK.isAgg, sliceV, reduceCtorEq, Nat.reduceAdd, Nat.reduceLT, Nat.reduceLeDiff, List.reduceReplicate, elemsOf, added, view, view.viewL, view.viewLL, Nat.reducePow, Nat.reduceDiv, Nat.reduceMod, Nat.reduceEqDiff, Nat.reduceBEq, one_length, pgs_length]
  refine wp_lp (fun (i : Nat) J => .lst 1 ((Hs.map psV).map fun v => [v]) :: .lst 1 ((Hs.map psV).map fun v => [v]) :: .clo 69 [] [] :: J 3 :: J 4 :: J 5 :: J 6 :: J 7 :: J 8 :: J 9 :: J 10 :: J 11 :: J 12 :: J 13 :: J 14 :: .lst 1 ((Hs.map psV).map fun v => [v]) :: .prim (.int .i64 ((Hs.length : Nat) : Int)) :: .prim (.int .i64 ((i : Nat) : Int)) :: J 18 :: J 19 :: J 20 :: J 21 :: J 22 :: J 23 :: J 24 :: J 25 :: J 26 :: J 27 :: J 28 :: J 29 :: J 30 :: J 31 :: []) (fun i _ => i ≤ Hs.length) (fun i => Hs.length - i) 0 rfl (Nat.zero_le _) ?_
  rintro i J H hi
  rcases Nat.lt_or_ge i Hs.length with hlt | hge
  · have g := pg_getD hlt
    have hm : Hs.getD i [] ∈ Hs := by rw [List.getD_eq_getElem?_getD, List.getElem?_eq_getElem hlt]; exact List.getElem_mem hlt
    have e := equalV_pc (Hs.getD i []) (Hs.getD i []) (hh _ hm) (hh _ hm)
    rw [decide_eq_true rfl] at e
    simp (maxSteps := 2000000) (disch := omega) only [↓RS, RW, RB, RX, RE, RK, RT, evN, evA, evL, binV, unV, intOfV, lenV, TK.isAgg, sliceV, reduceCtorEq, Nat.reduceAdd, Nat.reduceLT, Nat.reduceLeDiff, List.reduceReplicate, elemsOf, added, view, view.viewL, view.viewLL, Nat.reducePow, Nat.reduceDiv, Nat.reduceMod, Nat.reduceEqDiff, Nat.reduceBEq, one_length, pgs_length, g, psV]
    first | refine cP (e) ?_ | refine cD (e) ?_
    simp (maxSteps := 2000000) (disch := omega) only [↓RS, RW, RB, RX, RE, RK, RT, evN, evA, evL, binV, unV, intOfV, lenV, TK.isAgg, sliceV, reduceCtorEq, Nat.reduceAdd, Nat.reduceLT, Nat.reduceLeDiff, List.reduceReplicate, elemsOf, added, view, view.viewL, view.viewLL, Nat.reducePow, Nat.reduceDiv, Nat.reduceMod, Nat.reduceEqDiff, Nat.reduceBEq]
    exact lp_next (i + 1) rfl hlt (by omega)
  · have hia : i = Hs.length := by omega
    subst hia
    simp (maxSteps := 2000000) (disch := omega) only [↓RS, RW, RB, RX, RE, RK, RT, evN, evA, evL, binV, unV, intOfV, lenV, TK.isAgg, sliceV, reduceCtorEq, Nat.reduceAdd, Nat.reduceLT, Nat.reduceLeDiff, List.reduceReplicate, elemsOf, added, view, view.viewL, view.viewLL, Nat.reducePow, Nat.reduceDiv, Nat.reduceMod, Nat.reduceEqDiff, Nat.reduceBEq, one_length, pgs_length]
set_option maxHeartbeats 4000000 in
theorem same_pc (L : List Pt) (Hs : List (List Pt)) (hL : L.length < 2 ^ 40) (hn : Hs.length < 2 ^ 40) (hh : ∀ l ∈ Hs, l.length < 2 ^ 40) : PC prog 40 [cgV L Hs, cgV L Hs] (.prim (.bool true)) := by
  have e1 := equalV_pc L L hL hL
  rw [decide_eq_true rfl] at e1
  have e2 := equalH_pc Hs hn hh
  refine PC_intro mixed (FnD.of (by kernel_rfl)) ?_
  conv in lcOf _ _ => cbv
  conv in ntOf _ _ => cbv
  conv in rsOf _ _ => cbv
  simp only [RN, Nat.reduceAdd, Nat.reduceSub]
  simp (maxSteps := 2000000) (disch := omega) only [↓RS, RW, RB, RX, RE, RK, RT, evN, evA, evL, binV, unV, intOfV, lenV, TK.isAgg, sliceV, reduceCtorEq, Nat.reduceAdd, Nat.reduceLT, Nat.reduceLeDiff, List.reduceReplicate, elemsOf, added, view, view.viewL, view.viewLL, Nat.reducePow, Nat.reduceDiv, Nat.reduceMod, Nat.reduceEqDiff, Nat.reduceBEq, cgV, psV]
  first | refine cP (e1) ?_ | refine cD (e1) ?_
  simp (maxSteps := 2000000) (disch := omega) only [↓RS, RW, RB, RX, RE, RK, RT, evN, evA, evL, binV, unV, intOfV, lenV, TK.isAgg, sliceV, reduceCtorEq, Nat.reduceAdd, Nat.reduceLT, Nat.reduceLeDiff, List.reduceReplicate, elemsOf, added, view, view.viewL, view.viewLL, Nat.reducePow, Nat.reduceDiv, Nat.reduceMod, Nat.reduceEqDiff, Nat.reduceBEq, psV]
  first | refine cP (e2) ?_ | refine cD (e2) ?_
  simp (maxSteps := 2000000) (disch := omega) only [↓RS, RW, RB, RX, RE, RK, RT, evN, evA, evL, binV, unV, intOfV, lenV, TK.isAgg, sliceV, reduceCtorEq, Nat.reduceAdd, Nat.reduceLT, Nat.reduceLeDiff, List.reduceReplicate, elemsOf, added, view, view.viewL, view.viewLL, Nat.reducePow, Nat.reduceDiv, Nat.reduceMod, Nat.reduceEqDiff, Nat.reduceBEq]
end Go.Av
namespace Go.Av
open Go.RowKit
open Go.Proofs.Tryz (prog)
set_option maxHeartbeats 4000000 in
theorem fine3_pc (O : List Rp) (hs : List (List Rp)) (hr : Read O hs) : ∃ b, PC prog 51 [pgV O hs] (.prim (.bool b)) ∧ (b = true → Fine O hs ∧ hs.length ≤ 3) := by
  have hm : maxLen < 2 ^ 63 := by decide
  have g := greatP_pc O hs (by have := hr.n; omega) (by have := hr.o.1; omega) hr.o.2 (fun l hl => ⟨by have := (hr.h l hl).1; omega, (hr.h l hl).2⟩)
  cases hg : greatP O hs with
  | true =>
    rw [hg] at g
    refine ⟨false, ?_, fun h => by cases h⟩
    refine PC_intro mixed (FnD.of (by kernel_rfl)) ?_
    conv in lcOf _ _ => cbv
    conv in ntOf _ _ => cbv
    conv in rsOf _ _ => cbv
    simp only [RN, Nat.reduceAdd, Nat.reduceSub]
    simp (maxSteps := 2000000) (disch := omega) only [↓RS, RW, RB, RX, RE, RK, RT, evN, evA, evL, binV, unV, intOfV, lenV, TK.isAgg, sliceV, reduceCtorEq, Nat.reduceAdd, Nat.reduceLT, Nat.reduceLeDiff, List.reduceReplicate, elemsOf, added, view, view.viewL, view.viewLL, Nat.reducePow, Nat.reduceDiv, Nat.reduceMod, Nat.reduceEqDiff, Nat.reduceBEq, pgV, hsV, rpsV]
    first | refine cP (g) ?_ | refine cD (g) ?_
    simp (maxSteps := 2000000) (disch := omega) only [↓RS, RW, RB, RX, RE, RK, RT, evN, evA, evL, binV, unV, intOfV, lenV, TK.isAgg, sliceV, reduceCtorEq, Nat.reduceAdd, Nat.reduceLT, Nat.reduceLeDiff, List.reduceReplicate, elemsOf, added, view, view.viewL, view.viewLL, Nat.reducePow, Nat.reduceDiv, Nat.reduceMod, Nat.reduceEqDiff, Nat.reduceBEq]
  | false =>
    rw [hg] at g
    obtain ⟨h1, h2, h3, h4⟩ := greatP_small hg
    have c := Pcheck_pc O hs (by omega) (by omega) h2 h4
    by_cases hz : chkP O hs = 0
    · rw [hz] at c
      refine ⟨true, ?_, fun _ => ?_⟩
      · skip
        refine PC_intro mixed (FnD.of (by kernel_rfl)) ?_
        conv in lcOf _ _ => cbv
        conv in ntOf _ _ => cbv
        conv in rsOf _ _ => cbv
        simp only [RN, Nat.reduceAdd, Nat.reduceSub]
        simp (maxSteps := 2000000) (disch := omega) only [↓RS, RW, RB, RX, RE, RK, RT, evN, evA, evL, binV, unV, intOfV, lenV, TK.isAgg, sliceV, reduceCtorEq, Nat.reduceAdd, Nat.reduceLT, Nat.reduceLeDiff, List.reduceReplicate, elemsOf, added, view, view.viewL, view.viewLL, Nat.reducePow, Nat.reduceDiv, Nat.reduceMod, Nat.reduceEqDiff, Nat.reduceBEq, pgV, hsV, rpsV]
        first | refine cP (g) ?_ | refine cD (g) ?_
        simp (maxSteps := 2000000) (disch := omega) only [↓RS, RW, RB, RX, RE, RK, RT, evN, evA, evL, binV, unV, intOfV, lenV, TK.isAgg, sliceV, reduceCtorEq, Nat.reduceAdd, Nat.reduceLT, Nat.reduceLeDiff, List.reduceReplicate, elemsOf, added, view, view.viewL, view.viewLL, Nat.reducePow, Nat.reduceDiv, Nat.reduceMod, Nat.reduceEqDiff, Nat.reduceBEq, pgV, hsV, rpsV]
        first | refine cP (c) ?_ | refine cD (c) ?_
        simp (maxSteps := 2000000) (disch := omega) only [↓RS, RW, RB, RX, RE, RK, RT, evN, evA, evL, binV, unV, intOfV, lenV, TK.isAgg, sliceV, reduceCtorEq, Nat.reduceAdd, Nat.reduceLT, Nat.reduceLeDiff, List.reduceReplicate, elemsOf, added, view, view.viewL, view.viewLL, Nat.reducePow, Nat.reduceDiv, Nat.reduceMod, Nat.reduceEqDiff, Nat.reduceBEq]
      · have hf : Fine O hs := ⟨hz, h2, h4⟩
        refine ⟨hf, ?_⟩
        have h8 := hf.few
        unfold greatP at hg
        simp only [Bool.or_eq_false_iff, decide_eq_false_iff_not] at hg
        omega
    · refine ⟨false, ?_, fun h => by cases h⟩
      refine PC_intro mixed (FnD.of (by kernel_rfl)) ?_
      conv in lcOf _ _ => cbv
      conv in ntOf _ _ => cbv
      conv in rsOf _ _ => cbv
      simp only [RN, Nat.reduceAdd, Nat.reduceSub]
      simp (maxSteps := 2000000) (disch := omega) only [↓RS, RW, RB, RX, RE, RK, RT, evN, evA, evL, binV, unV, intOfV, lenV, TK.isAgg, sliceV, reduceCtorEq, Nat.reduceAdd, Nat.reduceLT, Nat.reduceLeDiff, List.reduceReplicate, elemsOf, added, view, view.viewL, view.viewLL, Nat.reducePow, Nat.reduceDiv, Nat.reduceMod, Nat.reduceEqDiff, Nat.reduceBEq, pgV, hsV, rpsV]
      first | refine cP (g) ?_ | refine cD (g) ?_
      simp (maxSteps := 2000000) (disch := omega) only [↓RS, RW, RB, RX, RE, RK, RT, evN, evA, evL, binV, unV, intOfV, lenV, TK.isAgg, sliceV, reduceCtorEq, Nat.reduceAdd, Nat.reduceLT, Nat.reduceLeDiff, List.reduceReplicate, elemsOf, added, view, view.viewL, view.viewLL, Nat.reducePow, Nat.reduceDiv, Nat.reduceMod, Nat.reduceEqDiff, Nat.reduceBEq, pgV, hsV, rpsV]
      first | refine cP (c) ?_ | refine cD (c) ?_
      simp (maxSteps := 2000000) (disch := omega) only [↓RS, RW, RB, RX, RE, RK, RT, evN, evA, evL, binV, unV, intOfV, lenV, TK.isAgg, sliceV, reduceCtorEq, Nat.reduceAdd, Nat.reduceLT, Nat.reduceLeDiff, List.reduceReplicate, elemsOf, added, view, view.viewL, view.viewLL, Nat.reducePow, Nat.reduceDiv, Nat.reduceMod, Nat.reduceEqDiff, Nat.reduceBEq]
/-- The holes are in ascending order. -/
def Asc (Hs : List (List Pt)) : Prop := ∀ i, 0 < i → i < Hs.length → cmpH (Hs.getD (i - 1) []) (Hs.getD i []) < 0
theorem Fine.asc {O : List Rp} {hs : List (List Rp)} (h : Fine O hs) : Asc (hs.map pts) := by
  have get : ∀ i, i < hs.length → (hs.map pts).getD i [] = pts (hs.getD i []) := fun i hi => by
    rw [List.getD_eq_getElem?_getD, List.getD_eq_getElem?_getD, List.getElem?_map, List.getElem?_eq_getElem hi]; rfl
  intro i h0 hi
  rw [List.length_map] at hi
  rw [get i hi, get (i - 1) (by omega)]
  have hz := h.hz i hi
  unfold chkH at hz
  rw [if_neg (by intro h2; exact h2 (chkH_ring (h.hz i hi)))] at hz
  split at hz
  · cases hz
  split at hz
  · cases hz
  split at hz
  · cases hz
  split at hz
  · cases hz
  · rename_i hx
    unfold cmpH
    exact Int.not_le.1 fun hle => hx ⟨h0, hle⟩
theorem cmpH_trans {a b c : List Pt} (h1 : cmpH a b < 0) (h2 : cmpH b c < 0) : cmpH a c < 0 := by
  unfold cmpH at *
  have h3 := cmpP_le_trans (Int.le_of_lt h1) (Int.le_of_lt h2)
  rcases Int.lt_or_eq_of_le h3 with h | h
  · exact h
  · have e := cmpP_zero.1 h
    rw [e] at h1
    have := cmpP_antisymm (Int.le_of_lt h1) (Int.le_of_lt h2)
    rw [this, cmpP_self] at h1
    omega
theorem cmpH_asym {a b : List Pt} (h1 : cmpH a b < 0) : ¬ cmpH b a < 0 := fun h2 => by
  have := cmpH_trans h1 h2
  unfold cmpH at this
  rw [cmpP_self] at this
  omega
theorem sort_asc {Hs : List (List Pt)} (h : Asc Hs) (h3 : Hs.length ≤ 3) : isortH Hs (Hs.length - 1) = Hs ∧ isortH Hs.reverse (Hs.length - 1) = Hs := by
  match Hs, h3, h with
  | [], _, _ => exact ⟨rfl, rfl⟩
  | [a], _, _ => exact ⟨rfl, rfl⟩
  | [a, b], _, h =>
    have h1 : cmpH a b < 0 := h 1 (by omega) (by simp)
    have h2 := cmpH_asym h1
    simp [isortH, bubbleH, swapH, h1, h2]
  | [a, b, c], _, h =>
    have h1 : cmpH a b < 0 := h 1 (by omega) (by simp)
    have h2 : cmpH b c < 0 := h 2 (by omega) (by simp)
    have h3 := cmpH_trans h1 h2
    have k1 := cmpH_asym h1
    have k2 := cmpH_asym h2
    have k3 := cmpH_asym h3
    simp [isortH, bubbleH, swapH, h1, h2, h3, k1, k2, k3]

theorem Ring.turn {R : List Pt} (h : Ring R) (n : Nat) (back : Bool) : Can (turnL R n back) := by
  have g := turnL_good h n back
  have e := turnL_length (l := R) (by have := h.lo; omega) n back
  exact ⟨g.lo, by rw [e]; exact h.hi, fun p hp => h.ht p (turnL_mem hp), g.keep, g.crossB⟩
theorem Ring.can {R : List Pt} (h : Ring R) : Can R := ⟨h.lo, h.hi, h.ht, h.good.keep, h.good.crossB⟩
/-- The holes, turned. -/
def turnsTo (Hs : List (List Pt)) (n : Nat) (back : Bool) (i : Nat) : List (List Pt) := (List.range i).map fun j => turnL (Hs.getD j []) (n + j) back
theorem turnsTo_canon {L : List Pt} {Hs : List (List Pt)} (h : Rgs L Hs) (n : Nat) (back : Bool) : (turnsTo Hs n back Hs.length).map canonL = Hs := by
  unfold turnsTo
  rw [List.map_map]
  refine List.ext_getElem (by simp) fun i h1 h2 => ?_
  simp only [List.getElem_map, List.getElem_range, Function.comp]
  rw [canonL_turnL (h.hole h2), List.getD_eq_getElem?_getD, List.getElem?_eq_getElem h2]; rfl
theorem turnsTo_can {L : List Pt} {Hs : List (List Pt)} (h : Rgs L Hs) (n : Nat) (back : Bool) : ∀ l ∈ turnsTo Hs n back Hs.length, Can l := by
  intro l hl
  obtain ⟨j, hj, rfl⟩ := List.mem_map.1 hl
  exact (h.hole (List.mem_range.1 hj)).turn _ _
theorem canon_turned {L : List Pt} {Hs : List (List Pt)} (h : Rgs L Hs) (ha : Asc Hs) (h3 : Hs.length ≤ 3) (ck : PC prog 74 [cgV L Hs] (.prim (.int .i64 (0)))) (n : Nat) (back swap : Bool) :
    PC prog 72 [cgV (turnL L n back) (if swap = true then (turnsTo Hs n (!back) Hs.length).reverse else turnsTo Hs n (!back) Hs.length)] (.tup [cgV L Hs, .prim (.int .i64 (0))]) := by
  have hl : (turnsTo Hs n (!back) Hs.length).length = Hs.length := by simp [turnsTo]
  have e := canonL_turnL h.out n back
  have := PCanon_pc (turnL L n back) (if swap = true then (turnsTo Hs n (!back) Hs.length).reverse else turnsTo Hs n (!back) Hs.length) (by split <;> (first | rw [List.length_reverse] | skip) <;> omega) (fun l hl => by
    rcases List.mem_cons.1 hl with rfl | hl
    · exact h.out.turn _ _
    · refine turnsTo_can h n (!back) l ?_
      split at hl
      · exact List.mem_reverse.1 hl
      · exact hl) Hs (by
    have st := sort_asc ha h3
    split
    · rw [List.map_reverse, turnsTo_canon h, List.length_reverse, hl]; exact st.2
    · rw [turnsTo_canon h, hl]; exact st.1) (by rw [e]; exact ck)
  rwa [e] at this
theorem canon_self {L : List Pt} {Hs : List (List Pt)} (h : Rgs L Hs) (ha : Asc Hs) (h3 : Hs.length ≤ 3) (ck : PC prog 74 [cgV L Hs] (.prim (.int .i64 (0)))) :
    PC prog 72 [cgV L Hs] (.tup [cgV L Hs, .prim (.int .i64 (0))]) := by
  have e := canonL_self h.out
  have em : Hs.map canonL = Hs := by
    refine List.ext_getElem (by simp) fun i h1 h2 => ?_
    rw [List.getElem_map, canonL_self (h.holes _ (List.getElem_mem h2))]
  have := PCanon_pc L Hs (by omega) (fun l hl => by
    rcases List.mem_cons.1 hl with rfl | hl
    · exact h.out.can
    · exact (h.holes l hl).can) Hs (by rw [em]; exact (sort_asc ha h3).1) (by rw [e]; exact ck)
  rwa [e] at this
end Go.Av
