/- Helping texts: Dv, Dw. -/
import Derived.Test.YtbidkolaahnbiaaGreatKDu
set_option linter.unusedSimpArgs false
set_option linter.unusedVariables false
namespace Go.Av
open Go.RowKit
open Go.Proofs.Tryz (prog)
/-- Whether an edge t stands in the way of s. -/
def blockB (s t : Sg) : Bool := (meetM s t).isSome && (decide (((meetM s t).getD sg0).a ≠ ((meetM s t).getD sg0).b) || (decide (((meetM s t).getD sg0).a ≠ s.a) && decide (((meetM s t).getD sg0).a ≠ s.b)))
theorem eqA_p (p q : Pt) : eqA (tyOf prog) 9 31 (.agg [.prim (.bool (can p.x).neg), .prim (.string (bs ((can p.x).num))), .prim (.string (bs ((can p.x).den))), .prim (.bool (can p.y).neg), .prim (.string (bs ((can p.y).num))), .prim (.string (bs ((can p.y).den)))]) (.agg [.prim (.bool (can q.x).neg), .prim (.string (bs ((can q.x).num))), .prim (.string (bs ((can q.x).den))), .prim (.bool (can q.y).neg), .prim (.string (bs ((can q.y).num))), .prim (.string (bs ((can q.y).den)))]) = some (decide (p = q)) := by
  rw [eqA_pt, can_eq]
set_option maxRecDepth 100000 in
set_option maxHeartbeats 8000000 in
theorem diag1_sc (s t : Sg) (h1 : hs s ≤ 2 ^ 20) (h2 : hs t ≤ 2 ^ 20) {b : Nat} {H : Hp} {K : V → Hp → Prop} (hb : get H b = some (.row 12 true [sgc s])) (hK : ∀ H', Ext H H' → K (.prim (.bool (blockB s t))) H') :
    SC prog 149 [sgV t, .ptr b 0 0] H K := by
  have c := Smeet_pc s t h1 h2
  have w1 : ∀ x, get (H ++ [x]) b = some (.row 12 true [sgc s]) := fun x => get_app hb
  have w2 : ∀ x y, get (H ++ [x] ++ [y]) b = some (.row 12 true [sgc s]) := fun x y => get_app (get_app hb)
  refine SC_intro mixed (FnD.of (by kernel_rfl)) ?_
  conv in lcOf _ _ => cbv
  conv in ntOf _ _ => cbv
  conv in rsOf _ _ => cbv
  simp only [RN, Nat.reduceAdd, Nat.reduceSub]
  simp (maxSteps := 2000000) (disch := omega) only [↓RS, RW, RB, RX, RE, RK, RT, evN, evA, evL, binV, unV, intOfV, lenV, TK.isAgg, sliceV, reduceCtorEq, Nat.reduceAdd, Nat.reduceLT, Nat.reduceLeDiff, List.reduceReplicate, elemsOf, added, view, view.viewL, view.viewLL, Nat.reducePow, Nat.reduceDiv, Nat.reduceMod, Nat.reduceEqDiff, Nat.reduceBEq, sgV, s4V, w1, sgc]
  first | refine cP (c) ?_ | refine cD (c) ?_
  have hB : blockB s t = ((meetM s t).isSome && (decide (((meetM s t).getD sg0).a ≠ ((meetM s t).getD sg0).b) || (decide (((meetM s t).getD sg0).a ≠ s.a) && decide (((meetM s t).getD sg0).a ≠ s.b)))) := rfl
  generalize (meetM s t).isSome = is at hB ⊢
  generalize (meetM s t).getD sg0 = m at hB ⊢
  have K2 : ∀ x y, K (.prim (.bool (blockB s t))) (H ++ [x] ++ [y]) := fun x y => hK _ ((Ext.app _).trans (Ext.app _))
  cases is with
  | false =>
    rw [hB] at K2
    simp (maxSteps := 2000000) (disch := omega) only [↓RS, RW, RB, RX, RE, RK, RT, evN, evA, evL, binV, unV, intOfV, lenV, TK.isAgg, sliceV, reduceCtorEq, Nat.reduceAdd, Nat.reduceLT, Nat.reduceLeDiff, List.reduceReplicate, elemsOf, added, view, view.viewL, view.viewLL, Nat.reducePow, Nat.reduceDiv, Nat.reduceMod, Nat.reduceEqDiff, Nat.reduceBEq, sgV, s4V, set_app_len, w2, sgc]
    exact K2 _ _
  | true =>
    by_cases e1 : m.a = m.b
    · have d1 : decide (m.a = m.b) = true := decide_eq_true e1
      by_cases e2 : m.a = s.a
      · have d2 : decide (m.a = s.a) = true := decide_eq_true e2
        have hB' : blockB s t = false := by
          have k1 : decide (m.a ≠ m.b) = false := decide_eq_false (fun h => h e1)
          have k2 : decide (m.a ≠ s.a) = false := decide_eq_false (fun h => h e2)
          rw [hB, k1, k2]; rfl
        rw [hB'] at K2
        simp (maxSteps := 2000000) (disch := omega) only [↓RS, RW, RB, RX, RE, RK, RT, evN, evA, evL, binV, unV, intOfV, lenV, TK.isAgg, sliceV, reduceCtorEq, Nat.reduceAdd, Nat.reduceLT, Nat.reduceLeDiff, List.reduceReplicate, elemsOf, added, view, view.viewL, view.viewLL, Nat.reducePow, Nat.reduceDiv, Nat.reduceMod, Nat.reduceEqDiff, Nat.reduceBEq, sgV, s4V, set_app_len, w2, sgc, eqA_p, d1, d2]
        exact K2 _ _
      · have d2 : decide (m.a = s.a) = false := decide_eq_false e2
        by_cases e3 : m.a = s.b
        · have d3 : decide (m.a = s.b) = true := decide_eq_true e3
          have hB' : blockB s t = false := by
            have k1 : decide (m.a ≠ m.b) = false := decide_eq_false (fun h => h e1)
            have k2 : decide (m.a ≠ s.b) = false := decide_eq_false (fun h => h e3)
            rw [hB, k1, k2]; simp
          rw [hB'] at K2
          simp (maxSteps := 2000000) (disch := omega) only [↓RS, RW, RB, RX, RE, RK, RT, evN, evA, evL, binV, unV, intOfV, lenV, TK.isAgg, sliceV, reduceCtorEq, Nat.reduceAdd, Nat.reduceLT, Nat.reduceLeDiff, List.reduceReplicate, elemsOf, added, view, view.viewL, view.viewLL, Nat.reducePow, Nat.reduceDiv, Nat.reduceMod, Nat.reduceEqDiff, Nat.reduceBEq, sgV, s4V, set_app_len, w2, sgc, eqA_p, d1, d2, d3]
          exact K2 _ _
        · have d3 : decide (m.a = s.b) = false := decide_eq_false e3
          have hB' : blockB s t = true := by rw [hB, decide_eq_true e2, decide_eq_true e3]; simp
          rw [hB'] at K2
          simp (maxSteps := 2000000) (disch := omega) only [↓RS, RW, RB, RX, RE, RK, RT, evN, evA, evL, binV, unV, intOfV, lenV, TK.isAgg, sliceV, reduceCtorEq, Nat.reduceAdd, Nat.reduceLT, Nat.reduceLeDiff, List.reduceReplicate, elemsOf, added, view, view.viewL, view.viewLL, Nat.reducePow, Nat.reduceDiv, Nat.reduceMod, Nat.reduceEqDiff, Nat.reduceBEq, sgV, s4V, set_app_len, w2, sgc, eqA_p, d1, d2, d3]
          exact K2 _ _
    · have d1 : decide (m.a = m.b) = false := decide_eq_false e1
      have hB' : blockB s t = true := by rw [hB, decide_eq_true e1]; simp
      rw [hB'] at K2
      simp (maxSteps := 2000000) (disch := omega) only [↓RS, RW, RB, RX, RE, RK, RT, evN, evA, evL, binV, unV, intOfV, lenV, TK.isAgg, sliceV, reduceCtorEq, Nat.reduceAdd, Nat.reduceLT, Nat.reduceLeDiff, List.reduceReplicate, elemsOf, added, view, view.viewL, view.viewLL, Nat.reducePow, Nat.reduceDiv, Nat.reduceMod, Nat.reduceEqDiff, Nat.reduceBEq, sgV, s4V, set_app_len, w2, sgc, eqA_p, d1]
      exact K2 _ _

set_option maxRecDepth 100000 in
set_option maxHeartbeats 8000000 in
theorem find_sc (E : List Sg) (s : Sg) (h1 : hs s ≤ 2 ^ 20) (h2 : ∀ t ∈ E, hs t ≤ 2 ^ 20) (hn : E.length < 2 ^ 40) {b : Nat} {H : Hp} {K : V → Hp → Prop} (hb : get H b = some (.row 12 true [sgc s]))
    (hK : ∀ x H', Ext H H' → K (.tup [sgV x, .prim (.bool (anyTo E.length fun i => blockB s (E.getD i sg0)))]) H') :
    SC prog 148 [ssV E, .clo 149 [] [.ptr b 0 0]] H K := by
  have hbl := get_lt_len hb
  refine SC_intro mixed (FnD.of (by kernel_rfl)) ?_
  conv in lcOf _ _ => cbv
  conv in ntOf _ _ => cbv
  conv in rsOf _ _ => cbv
  simp only [RN, Nat.reduceAdd, Nat.reduceSub]
  have hz : sgc sg0 = [.prim (.bool false), .prim (.string (bs ([]))), .prim (.string (bs ([]))), .prim (.bool false), .prim (.string (bs ([]))), .prim (.string (bs ([]))), .prim (.bool false), .prim (.string (bs ([]))), .prim (.string (bs ([]))), .prim (.bool false), .prim (.string (bs ([]))), .prim (.string (bs ([])))] := by simp only [sgc, sg0, pt0, can_zero]
  simp (maxSteps := 2000000) (disch := omega) only [↓RS, RW, RB, RX, RE, RK, RT, evN, evA, evL, binV, unV, intOfV, lenV, TK.isAgg, sliceV, reduceCtorEq, Nat.reduceAdd, Nat.reduceLT, Nat.reduceLeDiff, List.reduceReplicate, elemsOf, added, view, view.viewL, view.viewLL, Nat.reducePow, Nat.reduceDiv, Nat.reduceMod, Nat.reduceEqDiff, Nat.reduceBEq, ssV, sgc_length]
  refine wp_lp (fun (i : Nat) J => ssV E :: .clo 149 [] [.ptr b 0 0] :: J 2 :: J 3 :: .ptr H.length 0 0 :: .prim (.bool false) :: J 6 :: J 7 :: J 8 :: ssV E :: .prim (.int .i64 ((E.length : Nat) : Int)) :: .prim (.int .i64 ((i : Nat) : Int)) :: J 12 :: J 13 :: J 14 :: J 15 :: J 16 :: J 17 :: J 18 :: J 19 :: J 20 :: [])
    (fun i H' => i ≤ E.length ∧ (∀ j, j < i → blockB s (E.getD j sg0) = false) ∧ Ext H H' ∧ get H' H.length = some (.row 12 true [sgc sg0])) (fun i => E.length - i) 0 rfl ⟨Nat.zero_le _, fun j hj => absurd hj (Nat.not_lt_zero j), Ext.app _, by rw [get_app_len, hz]⟩ ?_
  rintro i J H1 ⟨hi, hp, hE, hg⟩
  rcases Nat.lt_or_ge i E.length with hlt | hge
  · have g := sgc_getD hlt
    have ht : hs (E.getD i sg0) ≤ 2 ^ 20 := h2 _ (by rw [List.getD_eq_getElem?_getD, List.getElem?_eq_getElem hlt]; exact List.getElem_mem hlt)
    simp (maxSteps := 2000000) (disch := omega) only [↓RS, RW, RB, RX, RE, RK, RT, evN, evA, evL, binV, unV, intOfV, lenV, TK.isAgg, sliceV, reduceCtorEq, Nat.reduceAdd, Nat.reduceLT, Nat.reduceLeDiff, List.reduceReplicate, elemsOf, added, view, view.viewL, view.viewLL, Nat.reducePow, Nat.reduceDiv, Nat.reduceMod, Nat.reduceEqDiff, Nat.reduceBEq, ssV, sgc_length, g, sgc, set_app_len]
    refine call_sc (diag1_sc s (E.getD i sg0) h1 ht (get_app (hE.get hb)) ?_)
    intro H2 hE2
    have g2 : get H2 H.length = some (.row 12 true [sgc sg0]) := hE2.get (get_app hg)
    have g3 : get H2 H1.length = some (.row 12 true [sgc (E.getD i sg0)]) := hE2.get get_app_len
    have hE3 : Ext H H2 := hE.trans ((Ext.app _).trans hE2)
    have hl := get_lt_len g2
    have hl1 := get_lt_len hg
    cases hB : blockB s (E.getD i sg0) with
    | true =>
      have s4 : ∀ x, get (H2.set H.length x) H.length = x := fun x => get_eq hl
      have fin : ∀ k, K (.tup [sgV (E.getD i sg0), .prim (.bool true)]) (H2.set H.length k) := by
        intro k
        have := hK (E.getD i sg0) (H2.set H.length k) ⟨by rw [List.length_set]; exact hE3.len, fun {c k} hc => by
          rw [get_ne (by have := get_lt_len hc; omega)]; exact hE3.get hc⟩
        rw [anyTo_true hlt hB] at this
        exact this
      simp (maxSteps := 2000000) (disch := omega) only [↓RS, RW, RB, RX, RE, RK, RT, evN, evA, evL, binV, unV, intOfV, lenV, TK.isAgg, sliceV, reduceCtorEq, Nat.reduceAdd, Nat.reduceLT, Nat.reduceLeDiff, List.reduceReplicate, elemsOf, added, view, view.viewL, view.viewLL, Nat.reducePow, Nat.reduceDiv, Nat.reduceMod, Nat.reduceEqDiff, Nat.reduceBEq, g2, g3, sgc, s4]
      exact fin _
    | false =>
      simp (maxSteps := 2000000) (disch := omega) only [↓RS, RW, RB, RX, RE, RK, RT, evN, evA, evL, binV, unV, intOfV, lenV, TK.isAgg, sliceV, reduceCtorEq, Nat.reduceAdd, Nat.reduceLT, Nat.reduceLeDiff, List.reduceReplicate, elemsOf, added, view, view.viewL, view.viewLL, Nat.reducePow, Nat.reduceDiv, Nat.reduceMod, Nat.reduceEqDiff, Nat.reduceBEq]
      exact lp_next (i + 1) rfl ⟨hlt, fun j hj => by
        rcases Nat.lt_or_ge j i with h | h
        · exact hp j h
        · rw [show j = i by omega]; exact hB, hE3, g2⟩ (by omega)
  · have hia : i = E.length := by omega
    subst hia
    have hl1 := get_lt_len hg
    have fin : ∀ k l, K (.tup [sgV sg0, .prim (.bool false)]) ((H1 ++ [l]).set H.length k) := by
      intro k l
      have := hK sg0 ((H1 ++ [l]).set H.length k) ⟨by rw [List.length_set, List.length_append]; have := hE.len; omega, fun {c k} hc => by
        rw [get_ne (by have := get_lt_len hc; omega)]; exact get_app (hE.get hc)⟩
      rw [anyTo_false hp] at this
      exact this
    have s4 : ∀ x y, get ((H1 ++ [x]).set H.length y) H.length = y := fun x y => get_eq (by rw [List.length_append]; omega)
    have s5 : ∀ x, get (H1 ++ [x]) H.length = some (.row 12 true [sgc sg0]) := fun x => get_app hg
    have hne : (H1.length == H.length) = false := by rw [beq_eq_false_iff_ne]; omega
    have fin2 := fun k l => fin k l
    rw [sgV0] at fin2
    simp (maxSteps := 2000000) (disch := omega) only [↓RS, RW, RB, RX, RE, RK, RT, evN, evA, evL, binV, unV, intOfV, lenV, TK.isAgg, sliceV, reduceCtorEq, Nat.reduceAdd, Nat.reduceLT, Nat.reduceLeDiff, List.reduceReplicate, elemsOf, added, view, view.viewL, view.viewLL, Nat.reducePow, Nat.reduceDiv, Nat.reduceMod, Nat.reduceEqDiff, Nat.reduceBEq, ssV, sgc_length, s4, s5, hne, hz]
    exact fin2 _ _
end Go.Av
namespace Go.Av
open Go.RowKit
open Go.Proofs.Tryz (prog)
theorem dl_small {n : Nat} (h : n < 256) : dl n ≤ 1 := by
  rw [← len_dl]
  by_cases h0 : n = 0
  · subst h0; simp [digitsOf_zero]
  · rw [digitsOf_pos h0, show n / 256 = 0 by omega, digitsOf_zero]; simp
theorem half_pc : PC prog 151 [.prim (.int .i64 (1)), .prim (.int .i64 (2))] (.tup [qV (1 / 2), .prim (.int .i64 (0))]) := by
  have o1 := of_pc 1 (by omega) (by omega)
  have o2 := of_pc 2 (by omega) (by omega)
  have d1 := @dl_small 1 (by omega)
  have d2 := @dl_small 2 (by omega)
  have n := newC_pc 1 2 (by simp only [Int.natAbs_one]; omega) (by show dl 2 < _; omega)
  rw [if_neg (by omega), show qI 1 2 = 1 / 2 by decide +kernel] at n
  refine PC_intro mixed (FnD.of (by kernel_rfl)) ?_
  conv in lcOf _ _ => cbv
  conv in ntOf _ _ => cbv
  conv in rsOf _ _ => cbv
  simp only [RN, Nat.reduceAdd, Nat.reduceSub]
  simp (maxSteps := 2000000) (disch := omega) only [↓RS, RW, RB, RX, RE, RK, RT, evN, evA, evL, binV, unV, intOfV, lenV, TK.isAgg, sliceV, reduceCtorEq, Nat.reduceAdd, Nat.reduceLT, Nat.reduceLeDiff, List.reduceReplicate, elemsOf, added, view, view.viewL, view.viewLL, Nat.reducePow, Nat.reduceDiv, Nat.reduceMod, Nat.reduceEqDiff, Nat.reduceBEq]
  first | refine cP (o1) ?_ | refine cD (o1) ?_
  simp (maxSteps := 2000000) (disch := omega) only [↓RS, RW, RB, RX, RE, RK, RT, evN, evA, evL, binV, unV, intOfV, lenV, TK.isAgg, sliceV, reduceCtorEq, Nat.reduceAdd, Nat.reduceLT, Nat.reduceLeDiff, List.reduceReplicate, elemsOf, added, view, view.viewL, view.viewLL, Nat.reducePow, Nat.reduceDiv, Nat.reduceMod, Nat.reduceEqDiff, Nat.reduceBEq, cI, iN]
  first | refine cP (o2) ?_ | refine cD (o2) ?_
  simp (maxSteps := 2000000) (disch := omega) only [↓RS, RW, RB, RX, RE, RK, RT, evN, evA, evL, binV, unV, intOfV, lenV, TK.isAgg, sliceV, reduceCtorEq, Nat.reduceAdd, Nat.reduceLT, Nat.reduceLeDiff, List.reduceReplicate, elemsOf, added, view, view.viewL, view.viewLL, Nat.reducePow, Nat.reduceDiv, Nat.reduceMod, Nat.reduceEqDiff, Nat.reduceBEq, cI, iN]
  first | refine cP (n) ?_ | refine cD (n) ?_
  simp (maxSteps := 2000000) (disch := omega) only [↓RS, RW, RB, RX, RE, RK, RT, evN, evA, evL, binV, unV, intOfV, lenV, TK.isAgg, sliceV, reduceCtorEq, Nat.reduceAdd, Nat.reduceLT, Nat.reduceLeDiff, List.reduceReplicate, elemsOf, added, view, view.viewL, view.viewLL, Nat.reducePow, Nat.reduceDiv, Nat.reduceMod, Nat.reduceEqDiff, Nat.reduceBEq, qV, rV]

def blockedP (E : List Sg) (s : Sg) : Bool := anyTo E.length fun i => blockB s (E.getD i sg0)
def diagS (L : List Pt) (Hs : List (List Pt)) (s : Sg) : Bool × Int :=
  if cmpP s.a s.b = 0 then (false, 12)
  else if s.a ∈ cornersTo (L :: Hs) (Hs.length + 1) ∧ s.b ∈ cornersTo (L :: Hs) (Hs.length + 1) then
    (!blockedP (edgesTo (L :: Hs) (Hs.length + 1)) s && decide (0 < whereS L Hs (s.a.at s.b (1 / 2))), 0)
  else (false, 0)
theorem hl_corners {L : List Pt} {Hs : List (List Pt)} (hg : Rgs L Hs) : ∀ i, i ≤ Hs.length + 1 → hl (cornersTo (L :: Hs) i) (2 ^ 16)
  | 0, _ => by intro p hp; simp [cornersTo] at hp
  | i + 1, hi => by
    intro p hp
    rw [cornersTo, List.mem_append] at hp
    rcases hp with hp | hp
    · exact hl_corners hg i (by omega) p hp
    · exact (hg.get (i := i) (by omega)).ht p hp
theorem hs_edges {L : List Pt} {Hs : List (List Pt)} (hg : Rgs L Hs) : ∀ i, i ≤ Hs.length + 1 → ∀ t ∈ edgesTo (L :: Hs) i, hs t ≤ 2 ^ 16
  | 0, _ => by intro p hp; simp [edgesTo] at hp
  | i + 1, hi => by
    intro p hp
    rw [edgesTo, List.mem_append] at hp
    rcases hp with hp | hp
    · exact hs_edges hg i (by omega) p hp
    · obtain ⟨j, hj, rfl⟩ := List.mem_map.1 hp
      exact hs_seg (hg.get (i := i) (by omega)).ht (by simpa using hj)

set_option maxRecDepth 100000 in
set_option maxHeartbeats 16000000 in
theorem Diagonal_pc {O : List Rp} {hr : List (List Rp)} (h : Fine O hr) (s : Sg) (h1 : hs s ≤ 2 ^ 16) : PC prog 70 [cgV (pts O) (hr.map pts), sgV s] (.tup [.prim (.bool (diagS (pts O) (hr.map pts) s).1), .prim (.int .i64 ((diagS (pts O) (hr.map pts) s).2))]) := by
  have ck := h.check_pc
  have hg := h.rgs
  generalize hr.map pts = Hs at *
  generalize pts O = L at *
  have cc := corners_pc _ _ hg
  have ce := edges_pc _ _ hg
  have hlC := hl_corners hg (Hs.length + 1) (Nat.le_refl _)
  have hsE := hs_edges hg (Hs.length + 1) (Nat.le_refl _)
  obtain ⟨lC, lE⟩ := cornersTo_le hg (Hs.length + 1) (Nat.le_refl _)
  have hf := hg.few
  have hD : diagS L Hs s = if cmpP s.a s.b = 0 then (false, 12) else if s.a ∈ cornersTo (L :: Hs) (Hs.length + 1) ∧ s.b ∈ cornersTo (L :: Hs) (Hs.length + 1) then
    (!blockedP (edgesTo (L :: Hs) (Hs.length + 1)) s && decide (0 < whereS L Hs (s.a.at s.b (1 / 2))), 0) else (false, 0) := rfl
  generalize cornersTo (L :: Hs) (Hs.length + 1) = C at *
  generalize edgesTo (L :: Hs) (Hs.length + 1) = E at *
  have a4 := hs_a s; have a5 := hs_b s
  have v1 := vcheckP_pc s.a (by omega)
  have v2 := vcheckP_pc s.b (by omega)
  have sc := scheck_pc s (by omega)
  have x1 := containsV_pc C s.a (by omega)
  have x2 := containsV_pc C s.b (by omega)
  have hh : ht (1 / 2) ≤ 3 := by have := ht_div 1 2; have := ht_two; have e : ht 1 ≤ 1 := @ht_int 1 (by omega); omega
  have at_ := vat_pc s.a s.b (1 / 2) (by omega) (by omega) (by omega)
  have hat := hp_at s.a s.b (1 / 2)
  have w := where_pc L Hs (s.a.at s.b (1 / 2)) hg (by omega)
  refine PC_intro mixed (FnD.of (by kernel_rfl)) ?_
  conv in lcOf _ _ => cbv
  conv in ntOf _ _ => cbv
  conv in rsOf _ _ => cbv
  simp only [RN, Nat.reduceAdd, Nat.reduceSub]
  simp (maxSteps := 2000000) (disch := omega) only [↓RS, RW, RB, RX, RE, RK, RT, evN, evA, evL, binV, unV, intOfV, lenV, TK.isAgg, sliceV, reduceCtorEq, Nat.reduceAdd, Nat.reduceLT, Nat.reduceLeDiff, List.reduceReplicate, elemsOf, added, view, view.viewL, view.viewLL, Nat.reducePow, Nat.reduceDiv, Nat.reduceMod, Nat.reduceEqDiff, Nat.reduceBEq, cgV, psV, sgV, s4V]
  first | refine cP (ck) ?_ | refine cD (ck) ?_
  simp (maxSteps := 2000000) (disch := omega) only [↓RS, RW, RB, RX, RE, RK, RT, evN, evA, evL, binV, unV, intOfV, lenV, TK.isAgg, sliceV, reduceCtorEq, Nat.reduceAdd, Nat.reduceLT, Nat.reduceLeDiff, List.reduceReplicate, elemsOf, added, view, view.viewL, view.viewLL, Nat.reducePow, Nat.reduceDiv, Nat.reduceMod, Nat.reduceEqDiff, Nat.reduceBEq, psV, sgV, s4V]
  first | refine cP (v1) ?_ | refine cD (v1) ?_
  simp (maxSteps := 2000000) (disch := omega) only [↓RS, RW, RB, RX, RE, RK, RT, evN, evA, evL, binV, unV, intOfV, lenV, TK.isAgg, sliceV, reduceCtorEq, Nat.reduceAdd, Nat.reduceLT, Nat.reduceLeDiff, List.reduceReplicate, elemsOf, added, view, view.viewL, view.viewLL, Nat.reducePow, Nat.reduceDiv, Nat.reduceMod, Nat.reduceEqDiff, Nat.reduceBEq, psV, sgV, s4V]
  first | refine cP (v2) ?_ | refine cD (v2) ?_
  simp (maxSteps := 2000000) (disch := omega) only [↓RS, RW, RB, RX, RE, RK, RT, evN, evA, evL, binV, unV, intOfV, lenV, TK.isAgg, sliceV, reduceCtorEq, Nat.reduceAdd, Nat.reduceLT, Nat.reduceLeDiff, List.reduceReplicate, elemsOf, added, view, view.viewL, view.viewLL, Nat.reducePow, Nat.reduceDiv, Nat.reduceMod, Nat.reduceEqDiff, Nat.reduceBEq, psV, sgV, s4V]
  first | refine cP (sc) ?_ | refine cD (sc) ?_
  by_cases hz : cmpP s.a s.b = 0
  · rw [if_pos hz] at hD
    rw [hD, if_pos hz]
    simp (maxSteps := 2000000) (disch := omega) only [↓RS, RW, RB, RX, RE, RK, RT, evN, evA, evL, binV, unV, intOfV, lenV, TK.isAgg, sliceV, reduceCtorEq, Nat.reduceAdd, Nat.reduceLT, Nat.reduceLeDiff, List.reduceReplicate, elemsOf, added, view, view.viewL, view.viewLL, Nat.reducePow, Nat.reduceDiv, Nat.reduceMod, Nat.reduceEqDiff, Nat.reduceBEq]
  rw [if_neg hz] at hD
  rw [if_neg hz]
  simp (maxSteps := 2000000) (disch := omega) only [↓RS, RW, RB, RX, RE, RK, RT, evN, evA, evL, binV, unV, intOfV, lenV, TK.isAgg, sliceV, reduceCtorEq, Nat.reduceAdd, Nat.reduceLT, Nat.reduceLeDiff, List.reduceReplicate, elemsOf, added, view, view.viewL, view.viewLL, Nat.reducePow, Nat.reduceDiv, Nat.reduceMod, Nat.reduceEqDiff, Nat.reduceBEq, psV, sgV, s4V]
  first | refine cP (cc) ?_ | refine cD (cc) ?_
  simp (maxSteps := 2000000) (disch := omega) only [↓RS, RW, RB, RX, RE, RK, RT, evN, evA, evL, binV, unV, intOfV, lenV, TK.isAgg, sliceV, reduceCtorEq, Nat.reduceAdd, Nat.reduceLT, Nat.reduceLeDiff, List.reduceReplicate, elemsOf, added, view, view.viewL, view.viewLL, Nat.reducePow, Nat.reduceDiv, Nat.reduceMod, Nat.reduceEqDiff, Nat.reduceBEq, psV, sgV, s4V]
  first | refine cP (x1) ?_ | refine cD (x1) ?_
  by_cases hA : s.a ∈ C
  · rw [decide_eq_true hA]
    simp (maxSteps := 2000000) (disch := omega) only [↓RS, RW, RB, RX, RE, RK, RT, evN, evA, evL, binV, unV, intOfV, lenV, TK.isAgg, sliceV, reduceCtorEq, Nat.reduceAdd, Nat.reduceLT, Nat.reduceLeDiff, List.reduceReplicate, elemsOf, added, view, view.viewL, view.viewLL, Nat.reducePow, Nat.reduceDiv, Nat.reduceMod, Nat.reduceEqDiff, Nat.reduceBEq, psV, sgV, s4V]
    first | refine cP (x2) ?_ | refine cD (x2) ?_
    by_cases hB : s.b ∈ C
    · rw [if_pos ⟨hA, hB⟩] at hD
      rw [decide_eq_true hB, hD]
      simp (maxSteps := 2000000) (disch := omega) only [↓RS, RW, RB, RX, RE, RK, RT, evN, evA, evL, binV, unV, intOfV, lenV, TK.isAgg, sliceV, reduceCtorEq, Nat.reduceAdd, Nat.reduceLT, Nat.reduceLeDiff, List.reduceReplicate, elemsOf, added, view, view.viewL, view.viewLL, Nat.reducePow, Nat.reduceDiv, Nat.reduceMod, Nat.reduceEqDiff, Nat.reduceBEq, psV, sgV, s4V]
      first | refine cP (ce) ?_ | refine cD (ce) ?_
      simp (maxSteps := 2000000) (disch := omega) only [↓RS, RW, RB, RX, RE, RK, RT, evN, evA, evL, binV, unV, intOfV, lenV, TK.isAgg, sliceV, reduceCtorEq, Nat.reduceAdd, Nat.reduceLT, Nat.reduceLeDiff, List.reduceReplicate, elemsOf, added, view, view.viewL, view.viewLL, Nat.reducePow, Nat.reduceDiv, Nat.reduceMod, Nat.reduceEqDiff, Nat.reduceBEq, ssV]
      refine call_sc (find_sc E s (by omega) (fun t ht => Nat.le_trans (hsE t ht) (by omega)) (by omega) rfl ?_)
      intro x H' hE
      have e0 : get H' 0 = some (.row 2 true [[psV L, .lst 1 ((Hs.map psV).map fun v => [v])]]) := hE.get rfl
      have e1 : get H' 1 = some (.row 12 true [sgc s]) := hE.get rfl
      clear hE
      have w0 : ∀ x y, get (H' ++ [x] ++ [y]) 0 = some (.row 2 true [[psV L, .lst 1 ((Hs.map psV).map fun v => [v])]]) := fun x y => get_app (get_app e0)
      have w1 : ∀ x y, get (H' ++ [x] ++ [y]) 1 = some (.row 12 true [sgc s]) := fun x y => get_app (get_app e1)
      have hbp : (anyTo E.length fun i => blockB s (E.getD i sg0)) = blockedP E s := rfl
      rw [hbp]
      have hf := half_pc
      cases hb : blockedP E s with
      | true =>
        simp (maxSteps := 2000000) (disch := omega) only [↓RS, RW, RB, RX, RE, RK, RT, evN, evA, evL, binV, unV, intOfV, lenV, TK.isAgg, sliceV, reduceCtorEq, Nat.reduceAdd, Nat.reduceLT, Nat.reduceLeDiff, List.reduceReplicate, elemsOf, added, view, view.viewL, view.viewLL, Nat.reducePow, Nat.reduceDiv, Nat.reduceMod, Nat.reduceEqDiff, Nat.reduceBEq, sgV, s4V, set_app_len]
        first | refine cP (hf) ?_ | refine cD (hf) ?_
        simp (maxSteps := 2000000) (disch := omega) only [↓RS, RW, RB, RX, RE, RK, RT, evN, evA, evL, binV, unV, intOfV, lenV, TK.isAgg, sliceV, reduceCtorEq, Nat.reduceAdd, Nat.reduceLT, Nat.reduceLeDiff, List.reduceReplicate, elemsOf, added, view, view.viewL, view.viewLL, Nat.reducePow, Nat.reduceDiv, Nat.reduceMod, Nat.reduceEqDiff, Nat.reduceBEq, qV, rV, set_app_len]
      | false =>
        simp (maxSteps := 2000000) (disch := omega) only [↓RS, RW, RB, RX, RE, RK, RT, evN, evA, evL, binV, unV, intOfV, lenV, TK.isAgg, sliceV, reduceCtorEq, Nat.reduceAdd, Nat.reduceLT, Nat.reduceLeDiff, List.reduceReplicate, elemsOf, added, view, view.viewL, view.viewLL, Nat.reducePow, Nat.reduceDiv, Nat.reduceMod, Nat.reduceEqDiff, Nat.reduceBEq, sgV, s4V, set_app_len]
        first | refine cP (hf) ?_ | refine cD (hf) ?_
        simp (maxSteps := 2000000) (disch := omega) only [↓RS, RW, RB, RX, RE, RK, RT, evN, evA, evL, binV, unV, intOfV, lenV, TK.isAgg, sliceV, reduceCtorEq, Nat.reduceAdd, Nat.reduceLT, Nat.reduceLeDiff, List.reduceReplicate, elemsOf, added, view, view.viewL, view.viewLL, Nat.reducePow, Nat.reduceDiv, Nat.reduceMod, Nat.reduceEqDiff, Nat.reduceBEq, qV, rV, set_app_len, w0, w1, sgc, psV]
        first | refine cP (at_) ?_ | refine cD (at_) ?_
        simp (maxSteps := 2000000) (disch := omega) only [↓RS, RW, RB, RX, RE, RK, RT, evN, evA, evL, binV, unV, intOfV, lenV, TK.isAgg, sliceV, reduceCtorEq, Nat.reduceAdd, Nat.reduceLT, Nat.reduceLeDiff, List.reduceReplicate, elemsOf, added, view, view.viewL, view.viewLL, Nat.reducePow, Nat.reduceDiv, Nat.reduceMod, Nat.reduceEqDiff, Nat.reduceBEq, pV, ptV, psV]
        first | refine cP (w) ?_ | refine cD (w) ?_
        by_cases hw : 0 < whereS L Hs (s.a.at s.b (1 / 2))
        · rw [decide_eq_true hw]
          simp (maxSteps := 2000000) (disch := omega) only [↓RS, RW, RB, RX, RE, RK, RT, evN, evA, evL, binV, unV, intOfV, lenV, TK.isAgg, sliceV, reduceCtorEq, Nat.reduceAdd, Nat.reduceLT, Nat.reduceLeDiff, List.reduceReplicate, elemsOf, added, view, view.viewL, view.viewLL, Nat.reducePow, Nat.reduceDiv, Nat.reduceMod, Nat.reduceEqDiff, Nat.reduceBEq]
        · rw [decide_eq_false hw]
          simp (maxSteps := 2000000) (disch := omega) only [↓RS, RW, RB, RX, RE, RK, RT, evN, evA, evL, binV, unV, intOfV, lenV, TK.isAgg, sliceV, reduceCtorEq, Nat.reduceAdd, Nat.reduceLT, Nat.reduceLeDiff, List.reduceReplicate, elemsOf, added, view, view.viewL, view.viewLL, Nat.reducePow, Nat.reduceDiv, Nat.reduceMod, Nat.reduceEqDiff, Nat.reduceBEq]
    · rw [if_neg (fun h => hB h.2)] at hD
      rw [decide_eq_false hB, hD]
      simp (maxSteps := 2000000) (disch := omega) only [↓RS, RW, RB, RX, RE, RK, RT, evN, evA, evL, binV, unV, intOfV, lenV, TK.isAgg, sliceV, reduceCtorEq, Nat.reduceAdd, Nat.reduceLT, Nat.reduceLeDiff, List.reduceReplicate, elemsOf, added, view, view.viewL, view.viewLL, Nat.reducePow, Nat.reduceDiv, Nat.reduceMod, Nat.reduceEqDiff, Nat.reduceBEq]
  · rw [if_neg (fun h => hA h.1)] at hD
    rw [decide_eq_false hA, hD]
    simp (maxSteps := 2000000) (disch := omega) only [↓RS, RW, RB, RX, RE, RK, RT, evN, evA, evL, binV, unV, intOfV, lenV, TK.isAgg, sliceV, reduceCtorEq, Nat.reduceAdd, Nat.reduceLT, Nat.reduceLeDiff, List.reduceReplicate, elemsOf, added, view, view.viewL, view.viewLL, Nat.reducePow, Nat.reduceDiv, Nat.reduceMod, Nat.reduceEqDiff, Nat.reduceBEq]
end Go.Av
