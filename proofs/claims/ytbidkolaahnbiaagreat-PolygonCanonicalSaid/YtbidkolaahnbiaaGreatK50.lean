/- Helping texts: Fj. -/
import Derived.Test.YtbidkolaahnbiaaGreatK48
import Derived.Test.YtbidkolaahnbiaaGreatK42
set_option linter.unusedSimpArgs false
set_option linter.unusedVariables false
namespace Go.Av
open Go.RowKit
open Go.Proofs.Tryz (prog)
theorem view_Y {H : Hp} {b n : Nat} {A : List (List V)} {Y : List (List Pt)} (hb : b < H.length) (hn : (Y.map hcel).length = n) :
    viewArgs ((List.replicate H.length none).set b (some (.row 1 true (Y.map hcel)))) [.agg [.lst 6 A, .sref b 0 n n 1 false]] = some [.agg [.lst 6 A, .lst 1 (Y.map hcel)]] := by
  have g : get ((List.replicate H.length (none : Option Blk)).set b (some (.row 1 true (Y.map hcel)))) b = some (.row 1 true (Y.map hcel)) := get_eq (by rw [List.length_replicate]; exact hb)
  have k2 : (Y.map hcel).take n = Y.map hcel := by rw [List.take_of_length_le (by omega)]
  have k3 := viewLL_hcel ((List.replicate H.length (none : Option Blk)).set b (some (.row 1 true (Y.map hcel)))) 6 Y
  simp only [viewArgs, view, view.viewL, g, Nat.zero_add, hn, Nat.le_refl, if_true, List.drop_zero, k2, k3, Option.map_some]

set_option maxRecDepth 100000 in
set_option maxHeartbeats 16000000 in
theorem polygonCanonical_pc (O : List Rp) (hr : List (List Rp)) (n : Nat) (back swap : Bool) (h0 : Read O hr) (hn : n < 256) :
    PC prog 15 [pgV O hr, .prim (.int .u8 ((n : Nat) : Int)), .prim (.bool back), .prim (.bool swap)] (.prim (.bool true)) := by
  obtain ⟨b, f, hb⟩ := fine3_pc O hr h0
  have aw := awake_pc
  cases b with
  | false =>
    refine PC_intro mixed (FnD.of (by kernel_rfl)) ?_
    conv in lcOf _ _ => cbv
    conv in ntOf _ _ => cbv
    conv in rsOf _ _ => cbv
    simp only [RN, Nat.reduceAdd, Nat.reduceSub]
    simp (maxSteps := 2000000) (disch := omega) only [↓RS, RW, RB, RX, RE, RK, RT, evN, evA, evL, binV, unV, intOfV, lenV, TK.isAgg, sliceV, reduceCtorEq, Nat.reduceAdd, Nat.reduceLT, Nat.reduceLeDiff, List.reduceReplicate, elemsOf, added, view, view.viewL, view.viewLL, Nat.reducePow, Nat.reduceDiv, Nat.reduceMod, Nat.reduceEqDiff, Nat.reduceBEq, pgV, hsV, rpsV]
    first | refine cP (f) ?_ | refine cD (f) ?_
    simp (maxSteps := 2000000) (disch := omega) only [↓RS, RW, RB, RX, RE, RK, RT, evN, evA, evL, binV, unV, intOfV, lenV, TK.isAgg, sliceV, reduceCtorEq, Nat.reduceAdd, Nat.reduceLT, Nat.reduceLeDiff, List.reduceReplicate, elemsOf, added, view, view.viewL, view.viewLL, Nat.reducePow, Nat.reduceDiv, Nat.reduceMod, Nat.reduceEqDiff, Nat.reduceBEq]
    first | refine cP (aw) ?_ | refine cD (aw) ?_
    simp (maxSteps := 2000000) (disch := omega) only [↓RS, RW, RB, RX, RE, RK, RT, evN, evA, evL, binV, unV, intOfV, lenV, TK.isAgg, sliceV, reduceCtorEq, Nat.reduceAdd, Nat.reduceLT, Nat.reduceLeDiff, List.reduceReplicate, elemsOf, added, view, view.viewL, view.viewLL, Nat.reducePow, Nat.reduceDiv, Nat.reduceMod, Nat.reduceEqDiff, Nat.reduceBEq]
  | true =>
    obtain ⟨hf, h3⟩ := hb rfl
    have hg := hf.rgs
    have ha := hf.asc
    have ck := hf.check_pc
    have h3' : (hr.map pts).length ≤ 3 := by rw [List.length_map]; exact h3
    rw [hf.val] at f ⊢
    clear hb hf h3
    generalize hr.map pts = Hs at *
    generalize pts O = L at *
    have c1 := canon_self hg ha h3' ck
    have c2 := canon_turned hg ha h3' ck n back swap
    have hlo := hg.out.lo
    have hhi := hg.out.hi
    have t0 := turned_pc L n back (by omega) (by omega) (by omega)
    have sm := same_pc L Hs (by omega) (by omega) (fun l hl => by have := (hg.holes l hl).hi; omega)
    have hp : ∀ j, j < Hs.length → PC prog 76 [psV (Hs.getD j []), .prim (.int .i64 ((n + j : Nat) : Int)), .prim (.bool !back)] (psV (turnL (Hs.getD j []) (n + j) (!back))) := fun j hj => by
      have h1 := (hg.hole hj).lo
      have h2 := (hg.hole hj).hi
      exact turned_pc _ _ _ (by omega) (by omega) (by omega)
    refine PC_intro mixed (FnD.of (by kernel_rfl)) ?_
    conv in lcOf _ _ => cbv
    conv in ntOf _ _ => cbv
    conv in rsOf _ _ => cbv
    simp only [RN, Nat.reduceAdd, Nat.reduceSub]
    simp (maxSteps := 2000000) (disch := omega) only [↓RS, RW, RB, RX, RE, RK, RT, evN, evA, evL, binV, unV, intOfV, lenV, TK.isAgg, sliceV, reduceCtorEq, Nat.reduceAdd, Nat.reduceLT, Nat.reduceLeDiff, List.reduceReplicate, elemsOf, added, view, view.viewL, view.viewLL, Nat.reducePow, Nat.reduceDiv, Nat.reduceMod, Nat.reduceEqDiff, Nat.reduceBEq, cgV, psV]
    first | refine cP (f) ?_ | refine cD (f) ?_
    simp (maxSteps := 2000000) (disch := omega) only [↓RS, RW, RB, RX, RE, RK, RT, evN, evA, evL, binV, unV, intOfV, lenV, TK.isAgg, sliceV, reduceCtorEq, Nat.reduceAdd, Nat.reduceLT, Nat.reduceLeDiff, List.reduceReplicate, elemsOf, added, view, view.viewL, view.viewLL, Nat.reducePow, Nat.reduceDiv, Nat.reduceMod, Nat.reduceEqDiff, Nat.reduceBEq, psV]
    first | refine cP (c1) ?_ | refine cD (c1) ?_
    simp (maxSteps := 2000000) (disch := omega) only [↓RS, RW, RB, RX, RE, RK, RT, evN, evA, evL, binV, unV, intOfV, lenV, TK.isAgg, sliceV, reduceCtorEq, Nat.reduceAdd, Nat.reduceLT, Nat.reduceLeDiff, List.reduceReplicate, elemsOf, added, view, view.viewL, view.viewLL, Nat.reducePow, Nat.reduceDiv, Nat.reduceMod, Nat.reduceEqDiff, Nat.reduceBEq, cgV, psV]
    first | refine cP (t0) ?_ | refine cD (t0) ?_
    simp (maxSteps := 2000000) (disch := omega) only [↓RS, RW, RB, RX, RE, RK, RT, evN, evA, evL, binV, unV, intOfV, lenV, TK.isAgg, sliceV, reduceCtorEq, Nat.reduceAdd, Nat.reduceLT, Nat.reduceLeDiff, List.reduceReplicate, elemsOf, added, view, view.viewL, view.viewLL, Nat.reducePow, Nat.reduceDiv, Nat.reduceMod, Nat.reduceEqDiff, Nat.reduceBEq, psV, one_length, pgs_length]
    refine wp_lp (fun (s : Nat × V) J => J 0 :: .prim (.int .u8 ((n : Nat) : Int)) :: .prim (.bool back) :: .prim (.bool swap) :: .ptr 0 0 0 :: J 5 :: J 6 :: J 7 :: .prim (.bool false) :: .ptr 1 0 0 :: .prim (.int .i64 (0)) :: .ptr 2 0 0 :: J 12 :: J 13 :: J 14 :: J 15 :: J 16 :: J 17 :: J 18 :: J 19 :: J 20 :: J 21 :: J 22 :: J 23 :: J 24 :: J 25 :: J 26 :: J 27 :: J 28 :: J 29 :: J 30 :: J 31 :: J 32 :: .lst 1 ((Hs.map psV).map fun v => [v]) :: .prim (.int .i64 ((Hs.length : Nat) : Int)) :: .prim (.int .i64 ((s.1 : Nat) : Int)) :: J 36 :: J 37 :: J 38 :: J 39 :: J 40 :: J 41 :: J 42 :: J 43 :: J 44 :: J 45 :: J 46 :: J 47 :: J 48 :: J 49 :: J 50 :: J 51 :: J 52 :: J 53 :: J 54 :: J 55 :: J 56 :: J 57 :: J 58 :: J 59 :: J 60 :: J 61 :: J 62 :: J 63 :: J 64 :: J 65 :: J 66 :: J 67 :: J 68 :: J 69 :: J 70 :: J 71 :: J 72 :: J 73 :: J 74 :: J 75 :: J 76 :: J 77 :: J 78 :: J 79 :: J 80 :: J 81 :: [])
      (fun s H => s.1 ≤ Hs.length ∧ NilTo (s.1 + 1) s.2 ∧ get H 0 = some (.row 2 true [[.lst 6 (L.map pc), .lst 1 ((Hs.map psV).map fun v => [v])]]) ∧ get H 1 = some (.row 2 true [[.lst 6 (L.map pc), .lst 1 ((Hs.map psV).map fun v => [v])]])
        ∧ get H 2 = some (.row 2 true [[.lst 6 ((turnL L n back).map pc), s.2]]) ∧ Bufn 3 H s.2 1 ((turnsTo Hs n (!back) s.1).map hcel)) (fun s => Hs.length - s.1) (0, .prim (.slice none 0 0)) rfl ⟨Nat.zero_le _, fun _ => rfl, rfl, rfl, rfl, .nil (by simp)⟩ ?_
    rintro ⟨i, v⟩ J H ⟨hi, hv, h0, h1, h2, hB⟩
    simp only at hi hv h0 h1 h2 hB ⊢
    have hN := hB.1
    have d1 := hB.one
    have d2 := hB.cel
    rcases Nat.lt_or_ge i Hs.length with hlt | hge
    · have g := pg_getD hlt
      have hc := hp i hlt
      simp (maxSteps := 2000000) (disch := omega) only [↓RS, RW, RB, RX, RE, RK, RT, evN, evA, evL, binV, unV, intOfV, lenV, TK.isAgg, sliceV, reduceCtorEq, Nat.reduceAdd, Nat.reduceLT, Nat.reduceLeDiff, List.reduceReplicate, elemsOf, added, view, view.viewL, view.viewLL, Nat.reducePow, Nat.reduceDiv, Nat.reduceMod, Nat.reduceEqDiff, Nat.reduceBEq, one_length, pgs_length, g, psV, h2, d1, d2]
      first | refine cP (hc) ?_ | refine cD (hc) ?_
      have hne : (H.length == 2) = false := by rw [beq_eq_false_iff_ne]; omega
      simp (maxSteps := 2000000) (disch := omega) only [↓RS, RW, RB, RX, RE, RK, RT, evN, evA, evL, binV, unV, intOfV, lenV, TK.isAgg, sliceV, reduceCtorEq, Nat.reduceAdd, Nat.reduceLT, Nat.reduceLeDiff, List.reduceReplicate, elemsOf, added, view, view.viewL, view.viewLL, Nat.reducePow, Nat.reduceDiv, Nat.reduceMod, Nat.reduceEqDiff, Nat.reduceBEq, psV, h2, d1, d2, hne]
      have htl : (turnsTo Hs n (!back) i).length = i := by simp [turnsTo]
      refine Bufn.append (hB.app _) (by simp [cellV]) (by simp only [List.length_cons, List.length_nil, List.length_map, htl]; omega) (by simp only [List.length_cons, List.length_nil, List.length_map, htl]; omega) ?_
      intro v' H2 hb hk
      have r0 := hk 0 _ (by omega) (get_app h0)
      have r1 := hk 1 _ (by omega) (get_app h1)
      have r2 := hk 2 _ (by omega) (get_app h2)
      have e1 := hb.one
      have e2 := hb.cel
      have hl3 := hb.1
      simp (maxSteps := 2000000) (disch := omega) only [↓RS, RW, RB, RX, RE, RK, RT, evN, evA, evL, binV, unV, intOfV, lenV, TK.isAgg, sliceV, reduceCtorEq, Nat.reduceAdd, Nat.reduceLT, Nat.reduceLeDiff, List.reduceReplicate, elemsOf, added, view, view.viewL, view.viewLL, Nat.reducePow, Nat.reduceDiv, Nat.reduceMod, Nat.reduceEqDiff, Nat.reduceBEq, r2, e1, e2]
      refine lp_next (i + 1, v') rfl ⟨hlt, fun h => absurd h (by simp only; omega), ?_, ?_, ?_, ?_⟩ (by simp only; omega)
      · rw [get_ne (by omega)]; exact r0
      · rw [get_ne (by omega)]; exact r1
      · rw [get_eq (by omega)]
      · have e : (turnsTo Hs n (!back) (i + 1)).map hcel = (turnsTo Hs n (!back) i).map hcel ++ [[.lst 6 ((turnL (Hs.getD i []) (n + i) (!back)).map pc)]] := by
          unfold turnsTo; rw [range_map_succ, List.map_append]; rfl
        show Bufn 3 _ v' 1 ((turnsTo Hs n (!back) (i + 1)).map hcel)
        rw [e]
        exact hb.set (by omega)
    · have hia : i = Hs.length := by omega
      subst hia
      by_cases hz : Hs = []
      · subst hz
        have hv := hv (Nat.le_refl _)
        subst hv
        have c3 : PC prog 72 [.agg [psV (turnL L n back), .prim (.slice none 0 0)]] (.tup [cgV L [], .prim (.int .i64 (0))]) := PC_nilA (by cases swap <;> exact c2)
        have tail0 : ∀ x, get (H ++ [x]) 0 = some (.row 2 true [[.lst 6 (L.map pc), .lst 1 []]]) := fun x => get_app h0
        have tail1 : ∀ x, get (H ++ [x]) 1 = some (.row 2 true [[.lst 6 (L.map pc), .lst 1 []]]) := fun x => get_app h1
        cases swap with
        | true =>
          simp (maxSteps := 2000000) (disch := omega) only [↓RS, RW, RB, RX, RE, RK, RT, evN, evA, evL, binV, unV, intOfV, lenV, TK.isAgg, sliceV, reduceCtorEq, Nat.reduceAdd, Nat.reduceLT, Nat.reduceLeDiff, List.reduceReplicate, elemsOf, added, view, view.viewL, view.viewLL, Nat.reducePow, Nat.reduceDiv, Nat.reduceMod, Nat.reduceEqDiff, Nat.reduceBEq, one_length, pgs_length, h2]
          refine call_sc (reverse0_sc ?_)
          simp (maxSteps := 2000000) (disch := omega) only [↓RS, RW, RB, RX, RE, RK, RT, evN, evA, evL, binV, unV, intOfV, lenV, TK.isAgg, sliceV, reduceCtorEq, Nat.reduceAdd, Nat.reduceLT, Nat.reduceLeDiff, List.reduceReplicate, elemsOf, added, view, view.viewL, view.viewLL, Nat.reducePow, Nat.reduceDiv, Nat.reduceMod, Nat.reduceEqDiff, Nat.reduceBEq, h2, psV]
          first | refine cP (c3) ?_ | refine cD (c3) ?_
          simp (maxSteps := 2000000) (disch := omega) only [↓RS, RW, RB, RX, RE, RK, RT, evN, evA, evL, binV, unV, intOfV, lenV, TK.isAgg, sliceV, reduceCtorEq, Nat.reduceAdd, Nat.reduceLT, Nat.reduceLeDiff, List.reduceReplicate, elemsOf, added, view, view.viewL, view.viewLL, Nat.reducePow, Nat.reduceDiv, Nat.reduceMod, Nat.reduceEqDiff, Nat.reduceBEq, cgV, psV, set_app_len, tail0, tail1, get_app_len]
          first | refine cP (sm) ?_ | refine cD (sm) ?_
          simp (maxSteps := 2000000) (disch := omega) only [↓RS, RW, RB, RX, RE, RK, RT, evN, evA, evL, binV, unV, intOfV, lenV, TK.isAgg, sliceV, reduceCtorEq, Nat.reduceAdd, Nat.reduceLT, Nat.reduceLeDiff, List.reduceReplicate, elemsOf, added, view, view.viewL, view.viewLL, Nat.reducePow, Nat.reduceDiv, Nat.reduceMod, Nat.reduceEqDiff, Nat.reduceBEq, cgV, psV, set_app_len, tail0, tail1, get_app_len]
          first | refine cP (sm) ?_ | refine cD (sm) ?_
          simp (maxSteps := 2000000) (disch := omega) only [↓RS, RW, RB, RX, RE, RK, RT, evN, evA, evL, binV, unV, intOfV, lenV, TK.isAgg, sliceV, reduceCtorEq, Nat.reduceAdd, Nat.reduceLT, Nat.reduceLeDiff, List.reduceReplicate, elemsOf, added, view, view.viewL, view.viewLL, Nat.reducePow, Nat.reduceDiv, Nat.reduceMod, Nat.reduceEqDiff, Nat.reduceBEq]
          first | refine cP (aw) ?_ | refine cD (aw) ?_
          simp (maxSteps := 2000000) (disch := omega) only [↓RS, RW, RB, RX, RE, RK, RT, evN, evA, evL, binV, unV, intOfV, lenV, TK.isAgg, sliceV, reduceCtorEq, Nat.reduceAdd, Nat.reduceLT, Nat.reduceLeDiff, List.reduceReplicate, elemsOf, added, view, view.viewL, view.viewLL, Nat.reducePow, Nat.reduceDiv, Nat.reduceMod, Nat.reduceEqDiff, Nat.reduceBEq]
        | false =>
          simp (maxSteps := 2000000) (disch := omega) only [↓RS, RW, RB, RX, RE, RK, RT, evN, evA, evL, binV, unV, intOfV, lenV, TK.isAgg, sliceV, reduceCtorEq, Nat.reduceAdd, Nat.reduceLT, Nat.reduceLeDiff, List.reduceReplicate, elemsOf, added, view, view.viewL, view.viewLL, Nat.reducePow, Nat.reduceDiv, Nat.reduceMod, Nat.reduceEqDiff, Nat.reduceBEq, one_length, pgs_length, h2, psV]
          first | refine cP (c3) ?_ | refine cD (c3) ?_
          simp (maxSteps := 2000000) (disch := omega) only [↓RS, RW, RB, RX, RE, RK, RT, evN, evA, evL, binV, unV, intOfV, lenV, TK.isAgg, sliceV, reduceCtorEq, Nat.reduceAdd, Nat.reduceLT, Nat.reduceLeDiff, List.reduceReplicate, elemsOf, added, view, view.viewL, view.viewLL, Nat.reducePow, Nat.reduceDiv, Nat.reduceMod, Nat.reduceEqDiff, Nat.reduceBEq, cgV, psV, set_app_len, tail0, tail1, get_app_len]
          first | refine cP (sm) ?_ | refine cD (sm) ?_
          simp (maxSteps := 2000000) (disch := omega) only [↓RS, RW, RB, RX, RE, RK, RT, evN, evA, evL, binV, unV, intOfV, lenV, TK.isAgg, sliceV, reduceCtorEq, Nat.reduceAdd, Nat.reduceLT, Nat.reduceLeDiff, List.reduceReplicate, elemsOf, added, view, view.viewL, view.viewLL, Nat.reducePow, Nat.reduceDiv, Nat.reduceMod, Nat.reduceEqDiff, Nat.reduceBEq, cgV, psV, set_app_len, tail0, tail1, get_app_len]
          first | refine cP (sm) ?_ | refine cD (sm) ?_
          simp (maxSteps := 2000000) (disch := omega) only [↓RS, RW, RB, RX, RE, RK, RT, evN, evA, evL, binV, unV, intOfV, lenV, TK.isAgg, sliceV, reduceCtorEq, Nat.reduceAdd, Nat.reduceLT, Nat.reduceLeDiff, List.reduceReplicate, elemsOf, added, view, view.viewL, view.viewLL, Nat.reducePow, Nat.reduceDiv, Nat.reduceMod, Nat.reduceEqDiff, Nat.reduceBEq]
          first | refine cP (aw) ?_ | refine cD (aw) ?_
          simp (maxSteps := 2000000) (disch := omega) only [↓RS, RW, RB, RX, RE, RK, RT, evN, evA, evL, binV, unV, intOfV, lenV, TK.isAgg, sliceV, reduceCtorEq, Nat.reduceAdd, Nat.reduceLT, Nat.reduceLeDiff, List.reduceReplicate, elemsOf, added, view, view.viewL, view.viewLL, Nat.reducePow, Nat.reduceDiv, Nat.reduceMod, Nat.reduceEqDiff, Nat.reduceBEq]
      · have htl : (turnsTo Hs n (!back) Hs.length).length = Hs.length := by simp [turnsTo]
        have hml : ((turnsTo Hs n (!back) Hs.length).map hcel).length = Hs.length := by rw [List.length_map]; exact htl
        have hpos : 0 < Hs.length := List.length_pos_iff.2 hz
        obtain ⟨b, hb, rfl, hgb⟩ := hB.cases (by intro e; rw [e] at hml; simp only [List.length_nil] at hml; omega)
        rw [hml] at h2
        have tail0 : ∀ x, get (H ++ [x]) 0 = some (.row 2 true [[.lst 6 (L.map pc), .lst 1 ((Hs.map psV).map fun v => [v])]]) := fun x => get_app h0
        have tail1 : ∀ x, get (H ++ [x]) 1 = some (.row 2 true [[.lst 6 (L.map pc), .lst 1 ((Hs.map psV).map fun v => [v])]]) := fun x => get_app h1
        have ec : ∀ Y : List (List Pt), cgV (turnL L n back) Y = .agg [.lst 6 ((turnL L n back).map pc), .lst 1 (Y.map hcel)] := fun Y => by
          unfold cgV; rw [List.map_map]; rfl
        rw [ec] at c2
        cases swap with
        | true =>
          rw [if_pos rfl] at c2
          have rv := @reverseH_sc (turnsTo Hs n (!back) Hs.length) (by omega) b false H
          rw [htl] at rv
          simp (maxSteps := 2000000) (disch := omega) only [↓RS, RW, RB, RX, RE, RK, RT, evN, evA, evL, binV, unV, intOfV, lenV, TK.isAgg, sliceV, reduceCtorEq, Nat.reduceAdd, Nat.reduceLT, Nat.reduceLeDiff, List.reduceReplicate, elemsOf, added, view, view.viewL, view.viewLL, Nat.reducePow, Nat.reduceDiv, Nat.reduceMod, Nat.reduceEqDiff, Nat.reduceBEq, one_length, pgs_length, h2]
          refine call_sc (rv hgb ?_)
          have hbl := get_lt_len hgb
          have s0 : ∀ x, get (H.set b x) 0 = some (.row 2 true [[.lst 6 (L.map pc), .lst 1 ((Hs.map psV).map fun v => [v])]]) := fun x => by rw [get_ne (by omega)]; exact h0
          have s1 : ∀ x, get (H.set b x) 1 = some (.row 2 true [[.lst 6 (L.map pc), .lst 1 ((Hs.map psV).map fun v => [v])]]) := fun x => by rw [get_ne (by omega)]; exact h1
          have s2 : ∀ x, get (H.set b x) 2 = some (.row 2 true [[.lst 6 ((turnL L n back).map pc), .sref b 0 Hs.length Hs.length 1 false]]) := fun x => by rw [get_ne (by omega)]; exact h2
          have s3 : ∀ x, get (H.set b x) b = x := fun x => get_eq hbl
          have htl2 : (turnsTo Hs n (!back) Hs.length).reverse.length = Hs.length := by rw [List.length_reverse]; exact htl
          generalize (turnsTo Hs n (!back) Hs.length).reverse = Y at *
          have p0 := s0 (some (.row 1 true (Y.map hcel)))
          have p1 := s1 (some (.row 1 true (Y.map hcel)))
          have p2 := s2 (some (.row 1 true (Y.map hcel)))
          have p3 := s3 (some (.row 1 true (Y.map hcel)))
          generalize H.set b (some (Blk.row 1 true (Y.map hcel))) = H2 at p0 p1 p2 p3 ⊢
          have k1 : (Y.map hcel).length = Hs.length := by rw [List.length_map]; exact htl2
          have hb2 := get_lt_len p3
          simp (maxSteps := 2000000) (disch := omega) only [↓RS, RW, RB, RX, RE, RK, RT, evN, evA, evL, binV, unV, intOfV, lenV, TK.isAgg, sliceV, reduceCtorEq, Nat.reduceAdd, Nat.reduceLT, Nat.reduceLeDiff, List.reduceReplicate, elemsOf, added, view, view.viewL, view.viewLL, Nat.reducePow, Nat.reduceDiv, Nat.reduceMod, Nat.reduceEqDiff, Nat.reduceBEq, p2]
          refine call_sc (SC_freeze1 p3 (view_Y hb2 k1) c2 ?_)
          have p0 : get (H2.set b none) 0 = some (.row 2 true [[.lst 6 (L.map pc), .lst 1 ((Hs.map psV).map fun v => [v])]]) := by rw [get_ne (by omega)]; exact p0
          have p1 : get (H2.set b none) 1 = some (.row 2 true [[.lst 6 (L.map pc), .lst 1 ((Hs.map psV).map fun v => [v])]]) := by rw [get_ne (by omega)]; exact p1
          generalize H2.set b none = H3 at p0 p1 ⊢
          have tail0 : ∀ x, get (H3 ++ [x]) 0 = some (.row 2 true [[.lst 6 (L.map pc), .lst 1 ((Hs.map psV).map fun v => [v])]]) := fun x => get_app p0
          have tail1 : ∀ x, get (H3 ++ [x]) 1 = some (.row 2 true [[.lst 6 (L.map pc), .lst 1 ((Hs.map psV).map fun v => [v])]]) := fun x => get_app p1
          simp (maxSteps := 2000000) (disch := omega) only [↓RS, RW, RB, RX, RE, RK, RT, evN, evA, evL, binV, unV, intOfV, lenV, TK.isAgg, sliceV, reduceCtorEq, Nat.reduceAdd, Nat.reduceLT, Nat.reduceLeDiff, List.reduceReplicate, elemsOf, added, view, view.viewL, view.viewLL, Nat.reducePow, Nat.reduceDiv, Nat.reduceMod, Nat.reduceEqDiff, Nat.reduceBEq, cgV, psV, set_app_len, tail0, tail1, get_app_len]
          first | refine cP (sm) ?_ | refine cD (sm) ?_
          simp (maxSteps := 2000000) (disch := omega) only [↓RS, RW, RB, RX, RE, RK, RT, evN, evA, evL, binV, unV, intOfV, lenV, TK.isAgg, sliceV, reduceCtorEq, Nat.reduceAdd, Nat.reduceLT, Nat.reduceLeDiff, List.reduceReplicate, elemsOf, added, view, view.viewL, view.viewLL, Nat.reducePow, Nat.reduceDiv, Nat.reduceMod, Nat.reduceEqDiff, Nat.reduceBEq, cgV, psV, set_app_len, tail0, tail1, get_app_len]
          first | refine cP (sm) ?_ | refine cD (sm) ?_
          simp (maxSteps := 2000000) (disch := omega) only [↓RS, RW, RB, RX, RE, RK, RT, evN, evA, evL, binV, unV, intOfV, lenV, TK.isAgg, sliceV, reduceCtorEq, Nat.reduceAdd, Nat.reduceLT, Nat.reduceLeDiff, List.reduceReplicate, elemsOf, added, view, view.viewL, view.viewLL, Nat.reducePow, Nat.reduceDiv, Nat.reduceMod, Nat.reduceEqDiff, Nat.reduceBEq]
          first | refine cP (aw) ?_ | refine cD (aw) ?_
          simp (maxSteps := 2000000) (disch := omega) only [↓RS, RW, RB, RX, RE, RK, RT, evN, evA, evL, binV, unV, intOfV, lenV, TK.isAgg, sliceV, reduceCtorEq, Nat.reduceAdd, Nat.reduceLT, Nat.reduceLeDiff, List.reduceReplicate, elemsOf, added, view, view.viewL, view.viewLL, Nat.reducePow, Nat.reduceDiv, Nat.reduceMod, Nat.reduceEqDiff, Nat.reduceBEq]
        | false =>
          rw [if_neg (show ¬ (false = true) by simp)] at c2
          generalize turnsTo Hs n (!back) Hs.length = Y at *
          have hb2 := get_lt_len hgb
          simp (maxSteps := 2000000) (disch := omega) only [↓RS, RW, RB, RX, RE, RK, RT, evN, evA, evL, binV, unV, intOfV, lenV, TK.isAgg, sliceV, reduceCtorEq, Nat.reduceAdd, Nat.reduceLT, Nat.reduceLeDiff, List.reduceReplicate, elemsOf, added, view, view.viewL, view.viewLL, Nat.reducePow, Nat.reduceDiv, Nat.reduceMod, Nat.reduceEqDiff, Nat.reduceBEq, one_length, pgs_length, h2]
          refine call_sc (SC_freeze1 hgb (view_Y hb2 hml) c2 ?_)
          have p0 : get (H.set b none) 0 = some (.row 2 true [[.lst 6 (L.map pc), .lst 1 ((Hs.map psV).map fun v => [v])]]) := by rw [get_ne (by omega)]; exact h0
          have p1 : get (H.set b none) 1 = some (.row 2 true [[.lst 6 (L.map pc), .lst 1 ((Hs.map psV).map fun v => [v])]]) := by rw [get_ne (by omega)]; exact h1
          generalize H.set b none = H3 at p0 p1 ⊢
          have tail0 : ∀ x, get (H3 ++ [x]) 0 = some (.row 2 true [[.lst 6 (L.map pc), .lst 1 ((Hs.map psV).map fun v => [v])]]) := fun x => get_app p0
          have tail1 : ∀ x, get (H3 ++ [x]) 1 = some (.row 2 true [[.lst 6 (L.map pc), .lst 1 ((Hs.map psV).map fun v => [v])]]) := fun x => get_app p1
          simp (maxSteps := 2000000) (disch := omega) only [↓RS, RW, RB, RX, RE, RK, RT, evN, evA, evL, binV, unV, intOfV, lenV, TK.isAgg, sliceV, reduceCtorEq, Nat.reduceAdd, Nat.reduceLT, Nat.reduceLeDiff, List.reduceReplicate, elemsOf, added, view, view.viewL, view.viewLL, Nat.reducePow, Nat.reduceDiv, Nat.reduceMod, Nat.reduceEqDiff, Nat.reduceBEq, cgV, psV, set_app_len, tail0, tail1, get_app_len]
          first | refine cP (sm) ?_ | refine cD (sm) ?_
          simp (maxSteps := 2000000) (disch := omega) only [↓RS, RW, RB, RX, RE, RK, RT, evN, evA, evL, binV, unV, intOfV, lenV, TK.isAgg, sliceV, reduceCtorEq, Nat.reduceAdd, Nat.reduceLT, Nat.reduceLeDiff, List.reduceReplicate, elemsOf, added, view, view.viewL, view.viewLL, Nat.reducePow, Nat.reduceDiv, Nat.reduceMod, Nat.reduceEqDiff, Nat.reduceBEq, cgV, psV, set_app_len, tail0, tail1, get_app_len]
          first | refine cP (sm) ?_ | refine cD (sm) ?_
          simp (maxSteps := 2000000) (disch := omega) only [↓RS, RW, RB, RX, RE, RK, RT, evN, evA, evL, binV, unV, intOfV, lenV, TK.isAgg, sliceV, reduceCtorEq, Nat.reduceAdd, Nat.reduceLT, Nat.reduceLeDiff, List.reduceReplicate, elemsOf, added, view, view.viewL, view.viewLL, Nat.reducePow, Nat.reduceDiv, Nat.reduceMod, Nat.reduceEqDiff, Nat.reduceBEq]
          first | refine cP (aw) ?_ | refine cD (aw) ?_
          simp (maxSteps := 2000000) (disch := omega) only [↓RS, RW, RB, RX, RE, RK, RT, evN, evA, evL, binV, unV, intOfV, lenV, TK.isAgg, sliceV, reduceCtorEq, Nat.reduceAdd, Nat.reduceLT, Nat.reduceLeDiff, List.reduceReplicate, elemsOf, added, view, view.viewL, view.viewLL, Nat.reducePow, Nat.reduceDiv, Nat.reduceMod, Nat.reduceEqDiff, Nat.reduceBEq]
end Go.Av
