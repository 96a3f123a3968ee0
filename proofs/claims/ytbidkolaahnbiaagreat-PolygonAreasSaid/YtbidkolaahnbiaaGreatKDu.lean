/- Helping texts: Du. -/
import Derived.Test.YtbidkolaahnbiaaGreatKDs
set_option linter.unusedSimpArgs false
set_option linter.unusedVariables false
namespace Go.Av
open Go.RowKit
open Go.Proofs.Tryz (prog)
/-- The heights of the first segments at x. -/
def ysTo (E : List Sg) (x : Rat) : Nat → List Rat
  | 0 => []
  | i + 1 => if (heightS (E.getD i sg0) x).2 = 0 then ysTo E x i ++ [(heightS (E.getD i sg0) x).1] else ysTo E x i
theorem ysTo_le (E : List Sg) (x : Rat) : ∀ i, (ysTo E x i).length ≤ i
  | 0 => by simp [ysTo]
  | i + 1 => by have := ysTo_le E x i; unfold ysTo; split <;> simp <;> omega
theorem sgc_getD {l : List Sg} {k : Nat} (h : k < l.length) : (l.map sgc).getD k [] = sgc (l.getD k sg0) := by
  rw [List.getD_eq_getElem?_getD, List.getD_eq_getElem?_getD, List.getElem?_map, List.getElem?_eq_getElem h]; rfl
def xsTo (C : List Pt) (i : Nat) : List Rat := (List.range i).map fun j => (C.getD j default).x

set_option maxRecDepth 100000 in
set_option maxHeartbeats 16000000 in
theorem Interior_pc {O : List Rp} {hr : List (List Rp)} (h : Fine O hr) (C : List Pt) (E : List Sg) (hC : cornersTo (pts O :: hr.map pts) (hr.length + 1) = C) (hE : edgesTo (pts O :: hr.map pts) (hr.length + 1) = E)
    (h8 : C.length = 8) (a b c d : Rat) (hs1 : isortTo (xsTo C 8) 7 = [a, a, b, b, c, c, d, d]) (hab : a ≠ b) (hbc : b ≠ c) (hcd : c ≠ d) (hlC : hl C (2 ^ 16)) (hta : ht a ≤ 2 ^ 16) (htb : ht b ≤ 2 ^ 16) (hE12 : E.length ≤ 12) (hEs : ∀ s ∈ E, hs s ≤ 2 ^ 20)
    (hy2 : 2 ≤ (ysTo E ((a + b) / 2) E.length).length) (hyq : hq (ysTo E ((a + b) / 2) E.length) (2 ^ 20)) (S : List Rat) (hS : isortTo (ysTo E ((a + b) / 2) E.length) ((ysTo E ((a + b) / 2) E.length).length - 1) = S) :
    PC prog 55 [cgV (pts O) (hr.map pts)] (.tup [pV ⟨(a + b) / 2, (S.getD 0 0 + S.getD 1 0) / 2⟩, .prim (.int .i64 (0))]) := by
  have ck := h.check_pc
  have cc := corners_pc _ _ h.rgs
  have ce := edges_pc _ _ h.rgs
  rw [List.length_map, hC] at cc
  rw [List.length_map, hE] at ce
  generalize hr.map pts = Hs at *
  generalize pts O = L at *
  refine PC_intro mixed (FnD.of (by kernel_rfl)) ?_
  conv in lcOf _ _ => cbv
  conv in ntOf _ _ => cbv
  conv in rsOf _ _ => cbv
  simp only [RN, Nat.reduceAdd, Nat.reduceSub]
  simp (maxSteps := 2000000) (disch := omega) only [↓RS, RW, RB, RX, RE, RK, RT, evN, evA, evL, binV, unV, intOfV, lenV, TK.isAgg, sliceV, reduceCtorEq, Nat.reduceAdd, Nat.reduceLT, Nat.reduceLeDiff, List.reduceReplicate, elemsOf, added, view, view.viewL, view.viewLL, Nat.reducePow, Nat.reduceDiv, Nat.reduceMod, Nat.reduceEqDiff, Nat.reduceBEq, cgV, psV]
  first | refine cP (ck) ?_ | refine cD (ck) ?_
  simp (maxSteps := 2000000) (disch := omega) only [↓RS, RW, RB, RX, RE, RK, RT, evN, evA, evL, binV, unV, intOfV, lenV, TK.isAgg, sliceV, reduceCtorEq, Nat.reduceAdd, Nat.reduceLT, Nat.reduceLeDiff, List.reduceReplicate, elemsOf, added, view, view.viewL, view.viewLL, Nat.reducePow, Nat.reduceDiv, Nat.reduceMod, Nat.reduceEqDiff, Nat.reduceBEq, cgV, psV]
  first | refine cP (cc) ?_ | refine cD (cc) ?_
  simp (maxSteps := 2000000) (disch := omega) only [↓RS, RW, RB, RX, RE, RK, RT, evN, evA, evL, binV, unV, intOfV, lenV, TK.isAgg, sliceV, reduceCtorEq, Nat.reduceAdd, Nat.reduceLT, Nat.reduceLeDiff, List.reduceReplicate, elemsOf, added, view, view.viewL, view.viewLL, Nat.reducePow, Nat.reduceDiv, Nat.reduceMod, Nat.reduceEqDiff, Nat.reduceBEq, psV, pc_length]
  refine wp_lp (fun (s : Nat × V) J => J 0 :: .ptr 0 0 0 :: .ptr 1 0 0 :: .prim (.int .i64 (0)) :: s.2 :: .prim (.slice none 0 0) :: J 6 :: J 7 :: J 8 :: J 9 :: J 10 :: J 11 :: J 12 :: J 13 :: J 14 :: J 15 :: J 16 :: J 17 :: psV C :: .prim (.int .i64 ((C.length : Nat) : Int)) :: .prim (.int .i64 ((s.1 : Nat) : Int)) :: J 21 :: J 22 :: J 23 :: J 24 :: J 25 :: J 26 :: J 27 :: J 28 :: J 29 :: J 30 :: J 31 :: J 32 :: J 33 :: J 34 :: J 35 :: J 36 :: J 37 :: J 38 :: J 39 :: J 40 :: J 41 :: J 42 :: J 43 :: J 44 :: J 45 :: J 46 :: J 47 :: J 48 :: J 49 :: J 50 :: J 51 :: J 52 :: J 53 :: J 54 :: J 55 :: J 56 :: J 57 :: J 58 :: J 59 :: J 60 :: J 61 :: J 62 :: J 63 :: J 64 :: J 65 :: J 66 :: J 67 :: J 68 :: J 69 :: J 70 :: J 71 :: [])
    (fun s H => s.1 ≤ C.length ∧ get H 0 = some (.row 2 true [[psV L, .lst 1 ((Hs.map psV).map fun v => [v])]]) ∧ get H 1 = some (.row 6 true [pc pt0]) ∧ Bufn 2 H s.2 3 ((xsTo C s.1).map qc)) (fun s => C.length - s.1) (0, .prim (.slice none 0 0)) rfl ⟨Nat.zero_le _, rfl, ?_, .nil (by simp)⟩ ?_
  · have : pc pt0 = [.prim (.bool false), .prim (.string (bs ([]))), .prim (.string (bs ([]))), .prim (.bool false), .prim (.string (bs ([]))), .prim (.string (bs ([])))] := by simp only [pc, pt0, can_zero]
    rw [this]; rfl
  rintro ⟨i, v⟩ J H ⟨hi, h0, h1, hB⟩
  simp only at hi hB ⊢
  rcases Nat.lt_or_ge i C.length with hlt | hge
  · have g := pc_getD hlt
    simp (maxSteps := 2000000) (disch := omega) only [↓RS, RW, RB, RX, RE, RK, RT, evN, evA, evL, binV, unV, intOfV, lenV, TK.isAgg, sliceV, reduceCtorEq, Nat.reduceAdd, Nat.reduceLT, Nat.reduceLeDiff, List.reduceReplicate, elemsOf, added, view, view.viewL, view.viewLL, Nat.reducePow, Nat.reduceDiv, Nat.reduceMod, Nat.reduceEqDiff, Nat.reduceBEq, psV, pc_length, g, pc, set_app_len]
    refine Bufn.append ((hB.app _).app _) (by simp [cellV]) (by simp only [List.length_cons, List.length_nil, List.length_map, xsTo, List.length_range]; omega) (by simp only [List.length_cons, List.length_nil, List.length_map, xsTo, List.length_range]; omega) ?_
    intro v' H2 hb hk
    have r0 := hk 0 _ (by omega) (get_app (get_app h0))
    have r1 := hk 1 _ (by omega) (get_app (get_app h1))
    simp (maxSteps := 2000000) (disch := omega) only [↓RS, RW, RB, RX, RE, RK, RT, evN, evA, evL, binV, unV, intOfV, lenV, TK.isAgg, sliceV, reduceCtorEq, Nat.reduceAdd, Nat.reduceLT, Nat.reduceLeDiff, List.reduceReplicate, elemsOf, added, view, view.viewL, view.viewLL, Nat.reducePow, Nat.reduceDiv, Nat.reduceMod, Nat.reduceEqDiff, Nat.reduceBEq]
    refine lp_next (i + 1, v') rfl ⟨hlt, r0, r1, ?_⟩ (by simp only; omega)
    unfold xsTo
    rw [range_map_succ, List.map_append]
    exact hb
  · have hia : i = C.length := by omega
    subst hia
    rw [h8] at hB
    have hxl : (xsTo C 8).length = 8 := by simp [xsTo]
    obtain ⟨bb, hbb, rfl, hgb⟩ := hB.cases (by intro e; have := congrArg List.length e; simp [xsTo] at this)
    have hm8 : ((xsTo C 8).map qc).length = 8 := by rw [List.length_map]; exact hxl
    rw [hm8]
    have hxq : hq (xsTo C 8) (2 ^ 30) := by
      intro j hj
      rw [hxl] at hj
      have e : (xsTo C 8).getD j 0 = (C.getD j default).x := by
        unfold xsTo; rw [List.getD_eq_getElem?_getD, List.getElem?_map, List.getElem?_range hj]; rfl
      rw [e]
      have := hl_get hlC (show j < C.length by omega)
      have := hp_x (C.getD j default)
      omega
    have sc := @sort_sc (xsTo C 8) (by omega) (by omega) hxq bb false H
    rw [hxl] at sc
    simp (maxSteps := 2000000) (disch := omega) only [↓RS, RW, RB, RX, RE, RK, RT, evN, evA, evL, binV, unV, intOfV, lenV, TK.isAgg, sliceV, reduceCtorEq, Nat.reduceAdd, Nat.reduceLT, Nat.reduceLeDiff, List.reduceReplicate, elemsOf, added, view, view.viewL, view.viewLL, Nat.reducePow, Nat.reduceDiv, Nat.reduceMod, Nat.reduceEqDiff, Nat.reduceBEq, psV, pc_length]
    refine call_sc (sc hgb ?_)
    rw [show isortTo (xsTo C 8) (8 - 1) = [a, a, b, b, c, c, d, d] from hs1]
    have hlb := get_lt_len hgb
    have s0 : ∀ x, get (H.set bb x) 0 = some (.row 2 true [[psV L, .lst 1 ((Hs.map psV).map fun v => [v])]]) := fun x => by rw [get_ne (by omega)]; exact h0
    have s1 : ∀ x, get (H.set bb x) 1 = some (.row 6 true [pc pt0]) := fun x => by rw [get_ne (by omega)]; exact h1
    have sb : ∀ x, get (H.set bb x) bb = x := fun x => get_eq hlb
    have ss : ∀ x y, (H.set bb x).set bb y = H.set bb y := fun x y => List.set_set ..
    simp (maxSteps := 2000000) (disch := omega) only [↓RS, RW, RB, RX, RE, RK, RT, evN, evA, evL, binV, unV, intOfV, lenV, TK.isAgg, sliceV, reduceCtorEq, Nat.reduceAdd, Nat.reduceLT, Nat.reduceLeDiff, List.reduceReplicate, elemsOf, added, view, view.viewL, view.viewLL, Nat.reducePow, Nat.reduceDiv, Nat.reduceMod, Nat.reduceEqDiff, Nat.reduceBEq]
    refine call_sc (compact_sc a b c d hab hbc hcd (sb _) ?_)
    rw [ss]
    have m1 := middle_pc a b (by omega) (by omega)
    simp only [List.map_cons, List.map_nil]
    simp (maxSteps := 2000000) (disch := omega) only [↓RS, RW, RB, RX, RE, RK, RT, evN, evA, evL, binV, unV, intOfV, lenV, TK.isAgg, sliceV, reduceCtorEq, Nat.reduceAdd, Nat.reduceLT, Nat.reduceLeDiff, List.reduceReplicate, elemsOf, added, view, view.viewL, view.viewLL, Nat.reducePow, Nat.reduceDiv, Nat.reduceMod, Nat.reduceEqDiff, Nat.reduceBEq, sb, qc]
    first | refine cP (m1) ?_ | refine cD (m1) ?_
    have t0 := s0 (some (.row 3 true ([a, b, c, d, 0, 0, 0, 0].map qc)))
    have t1 := s1 (some (.row 3 true ([a, b, c, d, 0, 0, 0, 0].map qc)))
    have tl : bb < (H.set bb (some (Blk.row 3 true ([a, b, c, d, 0, 0, 0, 0].map qc)))).length := by rw [List.length_set]; exact hlb
    simp only [List.map_cons, List.map_nil, qc] at t0 t1 tl
    generalize H.set bb _ = H1 at t0 t1 tl ⊢
    have u0 : ∀ x, get (H1 ++ [x]) 0 = some (.row 2 true [[psV L, .lst 1 ((Hs.map psV).map fun v => [v])]]) := fun x => get_app t0
    have hne : (H1.length == bb) = false := by rw [beq_eq_false_iff_ne]; omega
    simp (maxSteps := 2000000) (disch := omega) only [↓RS, RW, RB, RX, RE, RK, RT, evN, evA, evL, binV, unV, intOfV, lenV, TK.isAgg, sliceV, reduceCtorEq, Nat.reduceAdd, Nat.reduceLT, Nat.reduceLeDiff, List.reduceReplicate, elemsOf, added, view, view.viewL, view.viewLL, Nat.reducePow, Nat.reduceDiv, Nat.reduceMod, Nat.reduceEqDiff, Nat.reduceBEq, qV, rV, set_app_len, u0, psV, hne]
    first | refine cP (ce) ?_ | refine cD (ce) ?_
    simp (maxSteps := 2000000) (disch := omega) only [↓RS, RW, RB, RX, RE, RK, RT, evN, evA, evL, binV, unV, intOfV, lenV, TK.isAgg, sliceV, reduceCtorEq, Nat.reduceAdd, Nat.reduceLT, Nat.reduceLeDiff, List.reduceReplicate, elemsOf, added, view, view.viewL, view.viewLL, Nat.reducePow, Nat.reduceDiv, Nat.reduceMod, Nat.reduceEqDiff, Nat.reduceBEq, ssV, sgc_length]
    have hx := ht_add a b
    have hx2 := ht_div (a + b) 2
    have hx3 := ht_two
    have hxx : ht ((a + b) / 2) ≤ 2 ^ 20 := by omega
    clear hs1 hxq sc m1 s0 s1 sb ss hgb hB hne
    generalize (a + b) / 2 = x at *
    refine wp_lp (fun (s : Nat × V) J => J 0 :: .ptr 0 0 0 :: .ptr 1 0 0 :: .prim (.int .i64 (0)) :: J 4 :: s.2 :: J 6 :: J 7 :: .ptr H1.length 0 0 :: J 9 :: J 10 :: J 11 :: J 12 :: J 13 :: J 14 :: J 15 :: J 16 :: J 17 :: J 18 :: J 19 :: J 20 :: J 21 :: J 22 :: J 23 :: J 24 :: J 25 :: J 26 :: J 27 :: J 28 :: J 29 :: J 30 :: J 31 :: J 32 :: J 33 :: J 34 :: J 35 :: J 36 :: J 37 :: J 38 :: J 39 :: J 40 :: J 41 :: ssV E :: .prim (.int .i64 ((E.length : Nat) : Int)) :: .prim (.int .i64 ((s.1 : Nat) : Int)) :: J 45 :: J 46 :: J 47 :: J 48 :: J 49 :: J 50 :: J 51 :: J 52 :: J 53 :: J 54 :: J 55 :: J 56 :: J 57 :: J 58 :: J 59 :: J 60 :: J 61 :: J 62 :: J 63 :: J 64 :: J 65 :: J 66 :: J 67 :: J 68 :: J 69 :: J 70 :: J 71 :: [])
      (fun s H => s.1 ≤ E.length ∧ get H 1 = some (.row 6 true [pc pt0]) ∧ get H H1.length = some (.row 3 true [qc x]) ∧ Bufn (H1.length + 1) H s.2 3 ((ysTo E x s.1).map qc)) (fun s => E.length - s.1) (0, .prim (.slice none 0 0)) rfl ⟨Nat.zero_le _, get_app t1, get_app_len, .nil (by simp)⟩ ?_
    clear hi h0 h1 hge u0 t0 t1
    have hn1 : 2 ≤ H1.length := by omega
    generalize H1.length = n1 at hn1 ⊢
    rintro ⟨i, v⟩ J H ⟨hi, h1, h2, hB⟩
    simp only at hi h1 h2 hB ⊢
    rcases Nat.lt_or_ge i E.length with hlt | hge
    · have g := sgc_getD hlt
      have hss : hs (E.getD i sg0) ≤ 2 ^ 20 := hEs _ (by rw [List.getD_eq_getElem?_getD, List.getElem?_eq_getElem hlt]; exact List.getElem_mem hlt)
      have he := height_pc (E.getD i sg0) x hss hxx
      have w2 : ∀ y, get (H ++ [y]) n1 = some (.row 3 true [qc x]) := fun y => get_app h2
      simp (maxSteps := 2000000) (disch := omega) only [↓RS, RW, RB, RX, RE, RK, RT, evN, evA, evL, binV, unV, intOfV, lenV, TK.isAgg, sliceV, reduceCtorEq, Nat.reduceAdd, Nat.reduceLT, Nat.reduceLeDiff, List.reduceReplicate, elemsOf, added, view, view.viewL, view.viewLL, Nat.reducePow, Nat.reduceDiv, Nat.reduceMod, Nat.reduceEqDiff, Nat.reduceBEq, ssV, sgc_length, g, sgc, set_app_len, w2, qc]
      first | refine cP (he) ?_ | refine cD (he) ?_
      have hyl := ysTo_le E x i
      have hys : ysTo E x (i + 1) = if (heightS (E.getD i sg0) x).2 = 0 then ysTo E x i ++ [(heightS (E.getD i sg0) x).1] else ysTo E x i := rfl
      generalize heightS (E.getD i sg0) x = r at hys ⊢
      obtain ⟨y, er⟩ := r
      simp only at hys ⊢
      by_cases h0 : er = 0
      · rw [if_pos h0] at hys
        simp (maxSteps := 2000000) (disch := omega) only [↓RS, RW, RB, RX, RE, RK, RT, evN, evA, evL, binV, unV, intOfV, lenV, TK.isAgg, sliceV, reduceCtorEq, Nat.reduceAdd, Nat.reduceLT, Nat.reduceLeDiff, List.reduceReplicate, elemsOf, added, view, view.viewL, view.viewLL, Nat.reducePow, Nat.reduceDiv, Nat.reduceMod, Nat.reduceEqDiff, Nat.reduceBEq, qV, rV, set_app_len]
        refine Bufn.append (((hB.app _).app _).app _) (by simp [cellV]) (by simp only [List.length_cons, List.length_nil, List.length_map]; omega) (by simp only [List.length_cons, List.length_nil, List.length_map]; omega) ?_
        intro v' H2 hb hk
        have r1 := hk 1 _ (by omega) (get_app (get_app (get_app h1)))
        have r2 := hk n1 _ (by omega) (get_app (get_app (get_app h2)))
        simp (maxSteps := 2000000) (disch := omega) only [↓RS, RW, RB, RX, RE, RK, RT, evN, evA, evL, binV, unV, intOfV, lenV, TK.isAgg, sliceV, reduceCtorEq, Nat.reduceAdd, Nat.reduceLT, Nat.reduceLeDiff, List.reduceReplicate, elemsOf, added, view, view.viewL, view.viewLL, Nat.reducePow, Nat.reduceDiv, Nat.reduceMod, Nat.reduceEqDiff, Nat.reduceBEq]
        refine lp_next (i + 1, v') rfl ⟨hlt, r1, r2, ?_⟩ (by simp only; omega)
        show Bufn _ _ _ 3 ((ysTo E x (i + 1)).map qc)
        rw [hys, List.map_append]
        exact hb
      · rw [if_neg h0] at hys
        simp (maxSteps := 2000000) (disch := omega) only [↓RS, RW, RB, RX, RE, RK, RT, evN, evA, evL, binV, unV, intOfV, lenV, TK.isAgg, sliceV, reduceCtorEq, Nat.reduceAdd, Nat.reduceLT, Nat.reduceLeDiff, List.reduceReplicate, elemsOf, added, view, view.viewL, view.viewLL, Nat.reducePow, Nat.reduceDiv, Nat.reduceMod, Nat.reduceEqDiff, Nat.reduceBEq, qV, rV, set_app_len]
        refine lp_next (i + 1, v) rfl ⟨hlt, get_app (get_app h1), get_app (get_app h2), ?_⟩ (by simp only; omega)
        show Bufn _ _ _ 3 ((ysTo E x (i + 1)).map qc)
        rw [hys]
        exact (hB.app _).app _
    · have hia : i = E.length := by omega
      subst hia
      generalize hys : ysTo E x E.length = ys at *
      have hyl : ys.length ≤ 12 := by rw [← hys]; exact Nat.le_trans (ysTo_le E x _) hE12
      obtain ⟨bb, hbb, rfl, hgb⟩ := hB.cases (by intro e; have h0 := congrArg List.length e; rw [List.length_map, List.length_nil] at h0; omega)
      rw [List.length_map] at *
      have sc := @sort_sc ys hyl (by omega) (fun j hj => Nat.le_trans (hyq j hj) (by omega)) bb false H
      have hlb := get_lt_len hgb
      have s1 : ∀ y, get (H.set bb y) 1 = some (.row 6 true [pc pt0]) := fun y => by rw [get_ne (by omega)]; exact h1
      have s2 : ∀ y, get (H.set bb y) n1 = some (.row 3 true [qc x]) := fun y => by rw [get_ne (by omega)]; exact h2
      have sb : ∀ y, get (H.set bb y) bb = y := fun y => get_eq hlb
      simp (maxSteps := 2000000) (disch := omega) only [↓RS, RW, RB, RX, RE, RK, RT, evN, evA, evL, binV, unV, intOfV, lenV, TK.isAgg, sliceV, reduceCtorEq, Nat.reduceAdd, Nat.reduceLT, Nat.reduceLeDiff, List.reduceReplicate, elemsOf, added, view, view.viewL, view.viewLL, Nat.reducePow, Nat.reduceDiv, Nat.reduceMod, Nat.reduceEqDiff, Nat.reduceBEq, ssV, sgc_length]
      refine call_sc (sc hgb ?_)
      rw [hS]
      have hSl : S.length = ys.length := by rw [← hS, isortTo_length]
      have hSq : hq S (2 ^ 20) := by rw [← hS]; exact hq_isort hyq _ (by omega)
      have g0 := qc_get (l := S) (i := 0) (by omega)
      have g1 := qc_get (l := S) (i := 1) (by omega)
      have m2 := middle_pc (S.getD 0 0) (S.getD 1 0) (Nat.le_trans (hSq 0 (by omega)) (by omega)) (Nat.le_trans (hSq 1 (by omega)) (by omega))
      have q1 := s1 (some (.row 3 true (S.map qc)))
      have q2 := s2 (some (.row 3 true (S.map qc)))
      have qb := sb (some (.row 3 true (S.map qc)))
      have ql : bb < (H.set bb (some (Blk.row 3 true (S.map qc)))).length := by rw [List.length_set]; exact hlb
      generalize H.set bb (some (Blk.row 3 true (S.map qc))) = H3 at q1 q2 qb ql ⊢
      have s3 : ∀ y, get (H3.set 1 y) 1 = y := fun y => get_eq (H := H3) (Nat.lt_of_lt_of_le (by omega : 1 < bb) (Nat.le_of_lt ql))
      simp (maxSteps := 2000000) (disch := omega) only [↓RS, RW, RB, RX, RE, RK, RT, evN, evA, evL, binV, unV, intOfV, lenV, TK.isAgg, sliceV, reduceCtorEq, Nat.reduceAdd, Nat.reduceLT, Nat.reduceLeDiff, List.reduceReplicate, elemsOf, added, view, view.viewL, view.viewLL, Nat.reducePow, Nat.reduceDiv, Nat.reduceMod, Nat.reduceEqDiff, Nat.reduceBEq, q2, qb, g0, g1, qc]
      first | refine cP (m2) ?_ | refine cD (m2) ?_
      simp (maxSteps := 2000000) (disch := omega) only [↓RS, RW, RB, RX, RE, RK, RT, evN, evA, evL, binV, unV, intOfV, lenV, TK.isAgg, sliceV, reduceCtorEq, Nat.reduceAdd, Nat.reduceLT, Nat.reduceLeDiff, List.reduceReplicate, elemsOf, added, view, view.viewL, view.viewLL, Nat.reducePow, Nat.reduceDiv, Nat.reduceMod, Nat.reduceEqDiff, Nat.reduceBEq, qV, rV, q1, s3, pc]
      rfl
end Go.Av
