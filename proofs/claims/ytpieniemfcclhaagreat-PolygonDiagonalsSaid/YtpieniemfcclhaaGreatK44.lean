/- Helping texts: Ec. -/
import Derived.Test.YtpieniemfcclhaaGreatK41
import Derived.Test.YtpieniemfcclhaaGreatK43
set_option linter.unusedSimpArgs false
set_option linter.unusedVariables false
/- PolygonDiagonals. -/
namespace Go.Av
open Go.RowKit
open Go.Proofs.Tryz (prog)

theorem ht_raw (r : Rt) : ht r.val ≤ max r.num.length (max 1 r.den.length) := by
  have h1 := ht_mk r.n r.d r.d_pos
  have h2 : dl r.n.natAbs ≤ r.num.length := dl_ival r.neg r.num
  have h3 : dl r.d ≤ max 1 r.den.length := by
    unfold Rt.d
    split
    · have := @dl_small 1 (by omega); omega
    · have := dl_bval r.den; omega
  unfold Rt.val
  omega
set_option maxRecDepth 100000 in
theorem scaleR_pc (p : Pt) (r : Rt) (h1 : hp p ≤ 2 ^ 32) (h2 : r.le (2 ^ 32)) : PC prog 89 [pV p, rV r] (pV (p.smul r.val)) := by
  have a1 := hp_x p; have a2 := hp_y p
  have m1 := mulR_pc (can p.x) r (can_le (by omega)) h2
  have m2 := mulR_pc (can p.y) r (can_le (by omega)) h2
  rw [can_val] at m1 m2
  have e : PC prog 132 [pV p, ptV r r, .clo 133 [] []] (pV (p.smul r.val)) := by
    refine PC_intro mixed (FnD.of (by kernel_rfl)) ?_
    conv in lcOf _ _ => cbv
    conv in ntOf _ _ => cbv
    conv in rsOf _ _ => cbv
    simp only [entryT, List.length_cons, List.length_nil, Nat.reduceAdd, Nat.reduceSub, List.replicate_succ, List.replicate_zero, List.cons_append, List.nil_append]
    simp (maxSteps := 2000000) (disch := omega) only [↓RS, RW, RB, RX, RT, appP, copyP, evN, evA, evL, binV, unV, intOfV, lenV, readAt, TK.isAgg, wpStore, sliceV, reduceCtorEq, Nat.reduceAdd, Nat.reduceLT, Nat.reduceLeDiff, List.reduceReplicate, writeAt, elemsOf, added, resVs, resV, retV, view, view.viewL, view.viewLL, eq_self, clash, Nat.reducePow, Nat.reduceDiv, Nat.reduceMod, Nat.reduceEqDiff, Nat.reduceBEq, pV, ptV]
    first | refine callD_pc (m1) (.inl rfl) ?_ | refine call_pc (m1) (.inl rfl) ?_ | refine callD_pc (m1) (.inr rfl) ?_ | refine call_pc (m1) (.inr rfl) ?_
    simp (maxSteps := 2000000) (disch := omega) only [↓RS, RW, RB, RX, RT, appP, copyP, evN, evA, evL, binV, unV, intOfV, lenV, readAt, TK.isAgg, wpStore, sliceV, reduceCtorEq, Nat.reduceAdd, Nat.reduceLT, Nat.reduceLeDiff, List.reduceReplicate, writeAt, elemsOf, added, resVs, resV, retV, view, view.viewL, view.viewLL, eq_self, clash, Nat.reducePow, Nat.reduceDiv, Nat.reduceMod, Nat.reduceEqDiff, Nat.reduceBEq, qV, rV]
    first | refine callD_pc (m2) (.inl rfl) ?_ | refine call_pc (m2) (.inl rfl) ?_ | refine callD_pc (m2) (.inr rfl) ?_ | refine call_pc (m2) (.inr rfl) ?_
    simp (maxSteps := 2000000) (disch := omega) only [↓RS, RW, RB, RX, RT, appP, copyP, evN, evA, evL, binV, unV, intOfV, lenV, readAt, TK.isAgg, wpStore, sliceV, reduceCtorEq, Nat.reduceAdd, Nat.reduceLT, Nat.reduceLeDiff, List.reduceReplicate, writeAt, elemsOf, added, resVs, resV, retV, view, view.viewL, view.viewLL, eq_self, clash, Nat.reducePow, Nat.reduceDiv, Nat.reduceMod, Nat.reduceEqDiff, Nat.reduceBEq, qV, rV]
    try rfl
  refine PC_intro mixed (FnD.of (by kernel_rfl)) ?_
  conv in lcOf _ _ => cbv
  conv in ntOf _ _ => cbv
  conv in rsOf _ _ => cbv
  simp only [entryT, List.length_cons, List.length_nil, Nat.reduceAdd, Nat.reduceSub, List.replicate_succ, List.replicate_zero, List.cons_append, List.nil_append]
  simp (maxSteps := 2000000) (disch := omega) only [↓RS, RW, RB, RX, RT, appP, copyP, evN, evA, evL, binV, unV, intOfV, lenV, readAt, TK.isAgg, wpStore, sliceV, reduceCtorEq, Nat.reduceAdd, Nat.reduceLT, Nat.reduceLeDiff, List.reduceReplicate, writeAt, elemsOf, added, resVs, resV, retV, view, view.viewL, view.viewLL, eq_self, clash, Nat.reducePow, Nat.reduceDiv, Nat.reduceMod, Nat.reduceEqDiff, Nat.reduceBEq, pV, ptV, qV, rV]
  first | refine callD_pc (e) (.inl rfl) ?_ | refine call_pc (e) (.inl rfl) ?_ | refine callD_pc (e) (.inr rfl) ?_ | refine call_pc (e) (.inr rfl) ?_
  simp (maxSteps := 2000000) (disch := omega) only [↓RS, RW, RB, RX, RT, appP, copyP, evN, evA, evL, binV, unV, intOfV, lenV, readAt, TK.isAgg, wpStore, sliceV, reduceCtorEq, Nat.reduceAdd, Nat.reduceLT, Nat.reduceLeDiff, List.reduceReplicate, writeAt, elemsOf, added, resVs, resV, retV, view, view.viewL, view.viewLL, eq_self, clash, Nat.reducePow, Nat.reduceDiv, Nat.reduceMod, Nat.reduceEqDiff, Nat.reduceBEq, pV, ptV]
  try rfl
theorem atR_pc (p q : Pt) (r : Rt) (h1 : hp p ≤ 2 ^ 28) (h2 : hp q ≤ 2 ^ 28) (h3 : r.le (2 ^ 28)) : PC prog 29 [pV p, pV q, rV r] (pV (p.at q r.val)) := by
  have a0 := ht_raw r
  have a1 := hp_smul (q.sub p) r.val; have a2 := hp_sub q p
  obtain ⟨k1, k2⟩ := h3
  refine PC_intro mixed (FnD.of (by kernel_rfl)) ?_
  conv in lcOf _ _ => cbv
  conv in ntOf _ _ => cbv
  conv in rsOf _ _ => cbv
  simp only [entryT, List.length_cons, List.length_nil, Nat.reduceAdd, Nat.reduceSub, List.replicate_succ, List.replicate_zero, List.cons_append, List.nil_append]
  have s1 := vsub_pc q p (by omega) (by omega)
  have s2 := scaleR_pc (q.sub p) r (by omega) ⟨by omega, by omega⟩
  have s3 := vadd_pc p ((q.sub p).smul r.val) (by omega) (by omega)
  simp (maxSteps := 2000000) (disch := omega) only [↓RS, RW, RB, RX, RT, appP, copyP, evN, evA, evL, binV, unV, intOfV, lenV, readAt, TK.isAgg, wpStore, sliceV, reduceCtorEq, Nat.reduceAdd, Nat.reduceLT, Nat.reduceLeDiff, List.reduceReplicate, writeAt, elemsOf, added, resVs, resV, retV, view, view.viewL, view.viewLL, eq_self, clash, Nat.reducePow, Nat.reduceDiv, Nat.reduceMod, Nat.reduceEqDiff, Nat.reduceBEq, pV, ptV, qV, rV]
  first | refine callD_pc (s1) (.inl rfl) ?_ | refine call_pc (s1) (.inl rfl) ?_ | refine callD_pc (s1) (.inr rfl) ?_ | refine call_pc (s1) (.inr rfl) ?_
  simp (maxSteps := 2000000) (disch := omega) only [↓RS, RW, RB, RX, RT, appP, copyP, evN, evA, evL, binV, unV, intOfV, lenV, readAt, TK.isAgg, wpStore, sliceV, reduceCtorEq, Nat.reduceAdd, Nat.reduceLT, Nat.reduceLeDiff, List.reduceReplicate, writeAt, elemsOf, added, resVs, resV, retV, view, view.viewL, view.viewLL, eq_self, clash, Nat.reducePow, Nat.reduceDiv, Nat.reduceMod, Nat.reduceEqDiff, Nat.reduceBEq, pV, ptV, qV, rV]
  first | refine callD_pc (s2) (.inl rfl) ?_ | refine call_pc (s2) (.inl rfl) ?_ | refine callD_pc (s2) (.inr rfl) ?_ | refine call_pc (s2) (.inr rfl) ?_
  simp (maxSteps := 2000000) (disch := omega) only [↓RS, RW, RB, RX, RT, appP, copyP, evN, evA, evL, binV, unV, intOfV, lenV, readAt, TK.isAgg, wpStore, sliceV, reduceCtorEq, Nat.reduceAdd, Nat.reduceLT, Nat.reduceLeDiff, List.reduceReplicate, writeAt, elemsOf, added, resVs, resV, retV, view, view.viewL, view.viewLL, eq_self, clash, Nat.reducePow, Nat.reduceDiv, Nat.reduceMod, Nat.reduceEqDiff, Nat.reduceBEq, pV, ptV, qV, rV]
  first | refine callD_pc (s3) (.inl rfl) ?_ | refine call_pc (s3) (.inl rfl) ?_ | refine callD_pc (s3) (.inr rfl) ?_ | refine call_pc (s3) (.inr rfl) ?_
  simp (maxSteps := 2000000) (disch := omega) only [↓RS, RW, RB, RX, RT, appP, copyP, evN, evA, evL, binV, unV, intOfV, lenV, readAt, TK.isAgg, wpStore, sliceV, reduceCtorEq, Nat.reduceAdd, Nat.reduceLT, Nat.reduceLeDiff, List.reduceReplicate, writeAt, elemsOf, added, resVs, resV, retV, view, view.viewL, view.viewLL, eq_self, clash, Nat.reducePow, Nat.reduceDiv, Nat.reduceMod, Nat.reduceEqDiff, Nat.reduceBEq, pV, ptV]
  try rfl

theorem diag_zero {L : List Pt} {Hs : List (List Pt)} {s : Sg} : (diagS L Hs s).2 = 0 ↔ s.a ≠ s.b := by
  unfold diagS
  by_cases h : cmpP s.a s.b = 0
  · rw [if_pos h]; exact ⟨fun h => (by cases h), fun k => absurd (cmpP_zero.1 h) k⟩
  · rw [if_neg h]
    have : s.a ≠ s.b := fun e => h (cmpP_zero.2 e)
    split <;> exact ⟨fun _ => this, fun _ => rfl⟩
theorem diag_true {L : List Pt} {Hs : List (List Pt)} {s : Sg} (h : (diagS L Hs s).1 = true) : (diagS L Hs s).2 = 0 := by
  unfold diagS at h ⊢
  split
  · rename_i h1; rw [if_pos h1] at h; cases h
  · split <;> rfl
theorem bb1 : (false == false) = true := rfl
theorem bb2 : (true == true) = true := rfl
theorem bb3 : (true == false) = false := rfl
theorem bb4 : (false == true) = false := rfl
theorem cmpQ_neg {p q : Rat} : cmpQ p q < 0 ↔ p < q := by
  rw [← Int.not_le, cmpQ_nonneg, Rat.not_le]

set_option maxRecDepth 100000 in
set_option maxHeartbeats 16000000 in
theorem polygonDiagonals_pc (O : List Rp) (hr : List (List Rp)) (i k : Nat) (r : Rt) (h0 : Read O hr) (hi : i < 256) (hk : k < 256) (hfit : r.fit) :
    PC prog 6 [pgV O hr, .prim (.int .u8 ((i : Nat) : Int)), .prim (.int .u8 ((k : Nat) : Int)), rV r] (.prim (.bool true)) := by
  obtain ⟨b, f, hb⟩ := fine_pc O hr h0
  have aw := awake_pc
  have hm : maxLen < 2 ^ 63 := by decide
  obtain ⟨f1, f2⟩ := hfit
  cases b with
  | false =>
    refine PC_intro mixed (FnD.of (by kernel_rfl)) ?_
    conv in lcOf _ _ => cbv
    conv in ntOf _ _ => cbv
    conv in rsOf _ _ => cbv
    simp only [entryT, List.length_cons, List.length_nil, Nat.reduceAdd, Nat.reduceSub, List.replicate_succ, List.replicate_zero, List.cons_append, List.nil_append]
    simp (maxSteps := 2000000) (disch := omega) only [↓RS, RW, RB, RX, RT, appP, copyP, evN, evA, evL, binV, unV, intOfV, lenV, readAt, TK.isAgg, wpStore, sliceV, reduceCtorEq, Nat.reduceAdd, Nat.reduceLT, Nat.reduceLeDiff, List.reduceReplicate, writeAt, elemsOf, added, resVs, resV, retV, view, view.viewL, view.viewLL, eq_self, clash, Nat.reducePow, Nat.reduceDiv, Nat.reduceMod, Nat.reduceEqDiff, Nat.reduceBEq, pgV, hsV, rpsV, rV]
    first | refine callD_pc (f) (.inl rfl) ?_ | refine call_pc (f) (.inl rfl) ?_ | refine callD_pc (f) (.inr rfl) ?_ | refine call_pc (f) (.inr rfl) ?_
    simp (maxSteps := 2000000) (disch := omega) only [↓RS, RW, RB, RX, RT, appP, copyP, evN, evA, evL, binV, unV, intOfV, lenV, readAt, TK.isAgg, wpStore, sliceV, reduceCtorEq, Nat.reduceAdd, Nat.reduceLT, Nat.reduceLeDiff, List.reduceReplicate, writeAt, elemsOf, added, resVs, resV, retV, view, view.viewL, view.viewLL, eq_self, clash, Nat.reducePow, Nat.reduceDiv, Nat.reduceMod, Nat.reduceEqDiff, Nat.reduceBEq]
    first | refine callD_pc (aw) (.inl rfl) ?_ | refine call_pc (aw) (.inl rfl) ?_ | refine callD_pc (aw) (.inr rfl) ?_ | refine call_pc (aw) (.inr rfl) ?_
    simp (maxSteps := 2000000) (disch := omega) only [↓RS, RW, RB, RX, RT, appP, copyP, evN, evA, evL, binV, unV, intOfV, lenV, readAt, TK.isAgg, wpStore, sliceV, reduceCtorEq, Nat.reduceAdd, Nat.reduceLT, Nat.reduceLeDiff, List.reduceReplicate, writeAt, elemsOf, added, resVs, resV, retV, view, view.viewL, view.viewLL, eq_self, clash, Nat.reducePow, Nat.reduceDiv, Nat.reduceMod, Nat.reduceEqDiff, Nat.reduceBEq]
  | true =>
    by_cases g1 : 4 < r.num.length
    · skip
      refine PC_intro mixed (FnD.of (by kernel_rfl)) ?_
      conv in lcOf _ _ => cbv
      conv in ntOf _ _ => cbv
      conv in rsOf _ _ => cbv
      simp only [entryT, List.length_cons, List.length_nil, Nat.reduceAdd, Nat.reduceSub, List.replicate_succ, List.replicate_zero, List.cons_append, List.nil_append]
      simp (maxSteps := 2000000) (disch := omega) only [↓RS, RW, RB, RX, RT, appP, copyP, evN, evA, evL, binV, unV, intOfV, lenV, readAt, TK.isAgg, wpStore, sliceV, reduceCtorEq, Nat.reduceAdd, Nat.reduceLT, Nat.reduceLeDiff, List.reduceReplicate, writeAt, elemsOf, added, resVs, resV, retV, view, view.viewL, view.viewLL, eq_self, clash, Nat.reducePow, Nat.reduceDiv, Nat.reduceMod, Nat.reduceEqDiff, Nat.reduceBEq, pgV, hsV, rpsV, rV]
      first | refine callD_pc (f) (.inl rfl) ?_ | refine call_pc (f) (.inl rfl) ?_ | refine callD_pc (f) (.inr rfl) ?_ | refine call_pc (f) (.inr rfl) ?_
      simp (maxSteps := 2000000) (disch := omega) only [↓RS, RW, RB, RX, RT, appP, copyP, evN, evA, evL, binV, unV, intOfV, lenV, readAt, TK.isAgg, wpStore, sliceV, reduceCtorEq, Nat.reduceAdd, Nat.reduceLT, Nat.reduceLeDiff, List.reduceReplicate, writeAt, elemsOf, added, resVs, resV, retV, view, view.viewL, view.viewLL, eq_self, clash, Nat.reducePow, Nat.reduceDiv, Nat.reduceMod, Nat.reduceEqDiff, Nat.reduceBEq, bs_size]
      first | refine callD_pc (aw) (.inl rfl) ?_ | refine call_pc (aw) (.inl rfl) ?_ | refine callD_pc (aw) (.inr rfl) ?_ | refine call_pc (aw) (.inr rfl) ?_
      simp (maxSteps := 2000000) (disch := omega) only [↓RS, RW, RB, RX, RT, appP, copyP, evN, evA, evL, binV, unV, intOfV, lenV, readAt, TK.isAgg, wpStore, sliceV, reduceCtorEq, Nat.reduceAdd, Nat.reduceLT, Nat.reduceLeDiff, List.reduceReplicate, writeAt, elemsOf, added, resVs, resV, retV, view, view.viewL, view.viewLL, eq_self, clash, Nat.reducePow, Nat.reduceDiv, Nat.reduceMod, Nat.reduceEqDiff, Nat.reduceBEq]
    by_cases g2 : 4 < r.den.length
    · skip
      refine PC_intro mixed (FnD.of (by kernel_rfl)) ?_
      conv in lcOf _ _ => cbv
      conv in ntOf _ _ => cbv
      conv in rsOf _ _ => cbv
      simp only [entryT, List.length_cons, List.length_nil, Nat.reduceAdd, Nat.reduceSub, List.replicate_succ, List.replicate_zero, List.cons_append, List.nil_append]
      simp (maxSteps := 2000000) (disch := omega) only [↓RS, RW, RB, RX, RT, appP, copyP, evN, evA, evL, binV, unV, intOfV, lenV, readAt, TK.isAgg, wpStore, sliceV, reduceCtorEq, Nat.reduceAdd, Nat.reduceLT, Nat.reduceLeDiff, List.reduceReplicate, writeAt, elemsOf, added, resVs, resV, retV, view, view.viewL, view.viewLL, eq_self, clash, Nat.reducePow, Nat.reduceDiv, Nat.reduceMod, Nat.reduceEqDiff, Nat.reduceBEq, pgV, hsV, rpsV, rV]
      first | refine callD_pc (f) (.inl rfl) ?_ | refine call_pc (f) (.inl rfl) ?_ | refine callD_pc (f) (.inr rfl) ?_ | refine call_pc (f) (.inr rfl) ?_
      simp (maxSteps := 2000000) (disch := omega) only [↓RS, RW, RB, RX, RT, appP, copyP, evN, evA, evL, binV, unV, intOfV, lenV, readAt, TK.isAgg, wpStore, sliceV, reduceCtorEq, Nat.reduceAdd, Nat.reduceLT, Nat.reduceLeDiff, List.reduceReplicate, writeAt, elemsOf, added, resVs, resV, retV, view, view.viewL, view.viewLL, eq_self, clash, Nat.reducePow, Nat.reduceDiv, Nat.reduceMod, Nat.reduceEqDiff, Nat.reduceBEq, bs_size]
      first | refine callD_pc (aw) (.inl rfl) ?_ | refine call_pc (aw) (.inl rfl) ?_ | refine callD_pc (aw) (.inr rfl) ?_ | refine call_pc (aw) (.inr rfl) ?_
      simp (maxSteps := 2000000) (disch := omega) only [↓RS, RW, RB, RX, RT, appP, copyP, evN, evA, evL, binV, unV, intOfV, lenV, readAt, TK.isAgg, wpStore, sliceV, reduceCtorEq, Nat.reduceAdd, Nat.reduceLT, Nat.reduceLeDiff, List.reduceReplicate, writeAt, elemsOf, added, resVs, resV, retV, view, view.viewL, view.viewLL, eq_self, clash, Nat.reducePow, Nat.reduceDiv, Nat.reduceMod, Nat.reduceEqDiff, Nat.reduceBEq]
    have hf := hb rfl
    have cc := Corners_pc hf
    have ce := EdgesP_pc hf
    have hg := hf.rgs
    have lec := cornersTo_le hf.rgs (hr.length + 1) (by rw [List.length_map]; exact Nat.le_refl _)
    have hlC := hl_corners hf.rgs (hr.length + 1) (by rw [List.length_map]; exact Nat.le_refl _)
    have hsE := hs_edges hf.rgs (hr.length + 1) (by rw [List.length_map]; exact Nat.le_refl _)
    have l3 : 3 ≤ (cornersTo (pts O :: hr.map pts) (hr.length + 1)).length := by
      have h3 := hf.rgs.out.lo
      have : ∀ i, 3 ≤ (cornersTo (pts O :: hr.map pts) (i + 1)).length := by
        intro i
        induction i with
        | zero => simpa [cornersTo] using h3
        | succ i ih => rw [cornersTo, List.length_append]; omega
      exact this _
    have hfew := hf.few
    have dg := fun s h => Diagonal_pc hf s h
    have ins := fun q h => InsideP_pc hf q h
    have de : ∀ e ∈ edgesTo (pts O :: hr.map pts) (hr.length + 1), diagS (pts O) (hr.map pts) e = (false, 0) := fun e he => diag_edge hf.rgs (by rw [List.length_map]; exact he)
    have din := fun s h t t0 t1 => @diag_in _ _ hf.rgs s h t t0 t1
    rw [hf.val] at f ⊢
    clear hb hf
    generalize hr.map pts = Hs at *
    generalize pts O = L at *
    generalize cornersTo (L :: Hs) (hr.length + 1) = C at *
    generalize edgesTo (L :: Hs) (hr.length + 1) = E at *
    obtain ⟨lC, lE⟩ := lec
    have mi := Nat.mod_lt i (show 0 < C.length by omega)
    have mk := Nat.mod_lt k (show 0 < C.length by omega)
    have me := Nat.mod_lt i (show 0 < E.length by omega)
    have q1 := pc_getD mi
    have q2 := pc_getD mk
    have q3 := sgc_getD me
    have b1 := hl_get hlC mi
    have b2 := hl_get hlC mk
    have hme : E.getD (i % E.length) sg0 ∈ E := by rw [List.getD_eq_getElem?_getD, List.getElem?_eq_getElem me]; exact List.getElem_mem me
    have d3 := dg _ (hsE _ hme)
    rw [de _ hme] at d3
    generalize E.getD (i % E.length) sg0 = eg at *
    generalize C.getD (i % C.length) default = A at *
    generalize C.getD (k % C.length) default = B at *
    have d1 := dg ⟨A, B⟩ (hs_mk b1 b2)
    have d2 := dg ⟨B, A⟩ (hs_mk b2 b1)
    have drv : diagS L Hs ⟨B, A⟩ = diagS L Hs ⟨A, B⟩ := diag_rev L Hs ⟨A, B⟩
    rw [drv] at d2
    have hz := @diag_zero L Hs ⟨A, B⟩
    have ht := @diag_true L Hs ⟨A, B⟩
    have din := din ⟨A, B⟩
    simp only at hz din
    generalize hdd : diagS L Hs ⟨A, B⟩ = dd at *
    obtain ⟨x, y⟩ := dd
    simp only at d1 d2 hz ht
    have sg := signR_pc r ⟨by omega, by omega⟩
    have o1 := ofQ_pc 1 (by omega) (by omega)
    have cm := cmpR_pc r (can ((1 : Int) : Rat)) ⟨by omega, by omega⟩ (can_le (Nat.le_trans (@ht_int 1 (by omega)) (by omega)))
    rw [can_val] at cm
    have av := atR_pc A B r (by omega) (by omega) ⟨by omega, by omega⟩
    have a0 := ht_raw r
    have a1 := hp_at A B r.val
    have iv := ins (A.at B r.val) (by omega)
    have eq := eqA_p A B
    simp only at d3
    refine PC_intro mixed (FnD.of (by kernel_rfl)) ?_
    conv in lcOf _ _ => cbv
    conv in ntOf _ _ => cbv
    conv in rsOf _ _ => cbv
    simp only [entryT, List.length_cons, List.length_nil, Nat.reduceAdd, Nat.reduceSub, List.replicate_succ, List.replicate_zero, List.cons_append, List.nil_append]
    simp (maxSteps := 2000000) (disch := omega) only [↓RS, RW, RB, RX, RT, appP, copyP, evN, evA, evL, binV, unV, intOfV, lenV, readAt, TK.isAgg, wpStore, sliceV, reduceCtorEq, Nat.reduceAdd, Nat.reduceLT, Nat.reduceLeDiff, List.reduceReplicate, writeAt, elemsOf, added, resVs, resV, retV, view, view.viewL, view.viewLL, eq_self, clash, Nat.reducePow, Nat.reduceDiv, Nat.reduceMod, Nat.reduceEqDiff, Nat.reduceBEq, cgV, psV, rV]
    first | refine callD_pc (f) (.inl rfl) ?_ | refine call_pc (f) (.inl rfl) ?_ | refine callD_pc (f) (.inr rfl) ?_ | refine call_pc (f) (.inr rfl) ?_
    simp (maxSteps := 2000000) (disch := omega) only [↓RS, RW, RB, RX, RT, appP, copyP, evN, evA, evL, binV, unV, intOfV, lenV, readAt, TK.isAgg, wpStore, sliceV, reduceCtorEq, Nat.reduceAdd, Nat.reduceLT, Nat.reduceLeDiff, List.reduceReplicate, writeAt, elemsOf, added, resVs, resV, retV, view, view.viewL, view.viewLL, eq_self, clash, Nat.reducePow, Nat.reduceDiv, Nat.reduceMod, Nat.reduceEqDiff, Nat.reduceBEq, psV, bs_size]
    first | refine callD_pc (cc) (.inl rfl) ?_ | refine call_pc (cc) (.inl rfl) ?_ | refine callD_pc (cc) (.inr rfl) ?_ | refine call_pc (cc) (.inr rfl) ?_
    simp (maxSteps := 2000000) (disch := omega) only [↓RS, RW, RB, RX, RT, appP, copyP, evN, evA, evL, binV, unV, intOfV, lenV, readAt, TK.isAgg, wpStore, sliceV, reduceCtorEq, Nat.reduceAdd, Nat.reduceLT, Nat.reduceLeDiff, List.reduceReplicate, writeAt, elemsOf, added, resVs, resV, retV, view, view.viewL, view.viewLL, eq_self, clash, Nat.reducePow, Nat.reduceDiv, Nat.reduceMod, Nat.reduceEqDiff, Nat.reduceBEq, psV]
    first | refine callD_pc (ce) (.inl rfl) ?_ | refine call_pc (ce) (.inl rfl) ?_ | refine callD_pc (ce) (.inr rfl) ?_ | refine call_pc (ce) (.inr rfl) ?_
    simp (maxSteps := 2000000) (disch := omega) only [↓RS, RW, RB, RX, RT, appP, copyP, evN, evA, evL, binV, unV, intOfV, lenV, readAt, TK.isAgg, wpStore, sliceV, reduceCtorEq, Nat.reduceAdd, Nat.reduceLT, Nat.reduceLeDiff, List.reduceReplicate, writeAt, elemsOf, added, resVs, resV, retV, view, view.viewL, view.viewLL, eq_self, clash, Nat.reducePow, Nat.reduceDiv, Nat.reduceMod, Nat.reduceEqDiff, Nat.reduceBEq, psV, ssV, pc_length, sgc_length, wr_i64, tmodN, q1, q2, pc, set_app_len]
    first | refine callD_pc (d1) (.inl rfl) ?_ | refine call_pc (d1) (.inl rfl) ?_ | refine callD_pc (d1) (.inr rfl) ?_ | refine call_pc (d1) (.inr rfl) ?_
    simp (maxSteps := 2000000) (disch := omega) only [↓RS, RW, RB, RX, RT, appP, copyP, evN, evA, evL, binV, unV, intOfV, lenV, readAt, TK.isAgg, wpStore, sliceV, reduceCtorEq, Nat.reduceAdd, Nat.reduceLT, Nat.reduceLeDiff, List.reduceReplicate, writeAt, elemsOf, added, resVs, resV, retV, view, view.viewL, view.viewLL, eq_self, clash, Nat.reducePow, Nat.reduceDiv, Nat.reduceMod, Nat.reduceEqDiff, Nat.reduceBEq, psV]
    first | refine callD_pc (d2) (.inl rfl) ?_ | refine call_pc (d2) (.inl rfl) ?_ | refine callD_pc (d2) (.inr rfl) ?_ | refine call_pc (d2) (.inr rfl) ?_
    simp (maxSteps := 2000000) (disch := omega) only [↓RS, RW, RB, RX, RT, appP, copyP, evN, evA, evL, binV, unV, intOfV, lenV, readAt, TK.isAgg, wpStore, sliceV, reduceCtorEq, Nat.reduceAdd, Nat.reduceLT, Nat.reduceLeDiff, List.reduceReplicate, writeAt, elemsOf, added, resVs, resV, retV, view, view.viewL, view.viewLL, eq_self, clash, Nat.reducePow, Nat.reduceDiv, Nat.reduceMod, Nat.reduceEqDiff, Nat.reduceBEq, psV, sgc_length, wr_i64, tmodN, q3, sgc]
    first | refine callD_pc (d3) (.inl rfl) ?_ | refine call_pc (d3) (.inl rfl) ?_ | refine callD_pc (d3) (.inr rfl) ?_ | refine call_pc (d3) (.inr rfl) ?_
    by_cases hy : y = 0
    · have hne := hz.1 hy
      rw [decide_eq_false hne] at eq
      subst hy
      cases x with
      | false =>
        simp (maxSteps := 2000000) (disch := omega) only [↓RS, RW, RB, RX, RT, appP, copyP, evN, evA, evL, binV, unV, intOfV, lenV, readAt, TK.isAgg, wpStore, sliceV, reduceCtorEq, Nat.reduceAdd, Nat.reduceLT, Nat.reduceLeDiff, List.reduceReplicate, writeAt, elemsOf, added, resVs, resV, retV, view, view.viewL, view.viewLL, eq_self, clash, Nat.reducePow, Nat.reduceDiv, Nat.reduceMod, Nat.reduceEqDiff, Nat.reduceBEq, eq, eqA_bool9, bb1, bb2, bb3, bb4]
        first | refine callD_pc (aw) (.inl rfl) ?_ | refine call_pc (aw) (.inl rfl) ?_ | refine callD_pc (aw) (.inr rfl) ?_ | refine call_pc (aw) (.inr rfl) ?_
        simp (maxSteps := 2000000) (disch := omega) only [↓RS, RW, RB, RX, RT, appP, copyP, evN, evA, evL, binV, unV, intOfV, lenV, readAt, TK.isAgg, wpStore, sliceV, reduceCtorEq, Nat.reduceAdd, Nat.reduceLT, Nat.reduceLeDiff, List.reduceReplicate, writeAt, elemsOf, added, resVs, resV, retV, view, view.viewL, view.viewLL, eq_self, clash, Nat.reducePow, Nat.reduceDiv, Nat.reduceMod, Nat.reduceEqDiff, Nat.reduceBEq]
      | true =>
        have din := din rfl
        simp (maxSteps := 2000000) (disch := omega) only [↓RS, RW, RB, RX, RT, appP, copyP, evN, evA, evL, binV, unV, intOfV, lenV, readAt, TK.isAgg, wpStore, sliceV, reduceCtorEq, Nat.reduceAdd, Nat.reduceLT, Nat.reduceLeDiff, List.reduceReplicate, writeAt, elemsOf, added, resVs, resV, retV, view, view.viewL, view.viewLL, eq_self, clash, Nat.reducePow, Nat.reduceDiv, Nat.reduceMod, Nat.reduceEqDiff, Nat.reduceBEq, eq, eqA_bool9, bb1, bb2, bb3, bb4]
        first | refine callD_pc (sg) (.inl rfl) ?_ | refine call_pc (sg) (.inl rfl) ?_ | refine callD_pc (sg) (.inr rfl) ?_ | refine call_pc (sg) (.inr rfl) ?_
        by_cases c1 : 0 < cmpQ r.val 0
        · simp (maxSteps := 2000000) (disch := omega) only [↓RS, RW, RB, RX, RT, appP, copyP, evN, evA, evL, binV, unV, intOfV, lenV, readAt, TK.isAgg, wpStore, sliceV, reduceCtorEq, Nat.reduceAdd, Nat.reduceLT, Nat.reduceLeDiff, List.reduceReplicate, writeAt, elemsOf, added, resVs, resV, retV, view, view.viewL, view.viewLL, eq_self, clash, Nat.reducePow, Nat.reduceDiv, Nat.reduceMod, Nat.reduceEqDiff, Nat.reduceBEq]
          first | refine callD_pc (o1) (.inl rfl) ?_ | refine call_pc (o1) (.inl rfl) ?_ | refine callD_pc (o1) (.inr rfl) ?_ | refine call_pc (o1) (.inr rfl) ?_
          simp (maxSteps := 2000000) (disch := omega) only [↓RS, RW, RB, RX, RT, appP, copyP, evN, evA, evL, binV, unV, intOfV, lenV, readAt, TK.isAgg, wpStore, sliceV, reduceCtorEq, Nat.reduceAdd, Nat.reduceLT, Nat.reduceLeDiff, List.reduceReplicate, writeAt, elemsOf, added, resVs, resV, retV, view, view.viewL, view.viewLL, eq_self, clash, Nat.reducePow, Nat.reduceDiv, Nat.reduceMod, Nat.reduceEqDiff, Nat.reduceBEq, qV, rV]
          first | refine callD_pc (cm) (.inl rfl) ?_ | refine call_pc (cm) (.inl rfl) ?_ | refine callD_pc (cm) (.inr rfl) ?_ | refine call_pc (cm) (.inr rfl) ?_
          by_cases c2 : cmpQ r.val ((1 : Int) : Rat) < 0
          · have hin := din r.val (cmpQ_pos.1 c1) (cmpQ_neg.1 c2)
            rw [hin] at iv
            simp (maxSteps := 2000000) (disch := omega) only [↓RS, RW, RB, RX, RT, appP, copyP, evN, evA, evL, binV, unV, intOfV, lenV, readAt, TK.isAgg, wpStore, sliceV, reduceCtorEq, Nat.reduceAdd, Nat.reduceLT, Nat.reduceLeDiff, List.reduceReplicate, writeAt, elemsOf, added, resVs, resV, retV, view, view.viewL, view.viewLL, eq_self, clash, Nat.reducePow, Nat.reduceDiv, Nat.reduceMod, Nat.reduceEqDiff, Nat.reduceBEq, rV, psV]
            first | refine callD_pc (av) (.inl rfl) ?_ | refine call_pc (av) (.inl rfl) ?_ | refine callD_pc (av) (.inr rfl) ?_ | refine call_pc (av) (.inr rfl) ?_
            simp (maxSteps := 2000000) (disch := omega) only [↓RS, RW, RB, RX, RT, appP, copyP, evN, evA, evL, binV, unV, intOfV, lenV, readAt, TK.isAgg, wpStore, sliceV, reduceCtorEq, Nat.reduceAdd, Nat.reduceLT, Nat.reduceLeDiff, List.reduceReplicate, writeAt, elemsOf, added, resVs, resV, retV, view, view.viewL, view.viewLL, eq_self, clash, Nat.reducePow, Nat.reduceDiv, Nat.reduceMod, Nat.reduceEqDiff, Nat.reduceBEq, pV, ptV, psV]
            first | refine callD_pc (iv) (.inl rfl) ?_ | refine call_pc (iv) (.inl rfl) ?_ | refine callD_pc (iv) (.inr rfl) ?_ | refine call_pc (iv) (.inr rfl) ?_
            simp (maxSteps := 2000000) (disch := omega) only [↓RS, RW, RB, RX, RT, appP, copyP, evN, evA, evL, binV, unV, intOfV, lenV, readAt, TK.isAgg, wpStore, sliceV, reduceCtorEq, Nat.reduceAdd, Nat.reduceLT, Nat.reduceLeDiff, List.reduceReplicate, writeAt, elemsOf, added, resVs, resV, retV, view, view.viewL, view.viewLL, eq_self, clash, Nat.reducePow, Nat.reduceDiv, Nat.reduceMod, Nat.reduceEqDiff, Nat.reduceBEq]
            first | refine callD_pc (aw) (.inl rfl) ?_ | refine call_pc (aw) (.inl rfl) ?_ | refine callD_pc (aw) (.inr rfl) ?_ | refine call_pc (aw) (.inr rfl) ?_
            simp (maxSteps := 2000000) (disch := omega) only [↓RS, RW, RB, RX, RT, appP, copyP, evN, evA, evL, binV, unV, intOfV, lenV, readAt, TK.isAgg, wpStore, sliceV, reduceCtorEq, Nat.reduceAdd, Nat.reduceLT, Nat.reduceLeDiff, List.reduceReplicate, writeAt, elemsOf, added, resVs, resV, retV, view, view.viewL, view.viewLL, eq_self, clash, Nat.reducePow, Nat.reduceDiv, Nat.reduceMod, Nat.reduceEqDiff, Nat.reduceBEq]
          · simp (maxSteps := 2000000) (disch := omega) only [↓RS, RW, RB, RX, RT, appP, copyP, evN, evA, evL, binV, unV, intOfV, lenV, readAt, TK.isAgg, wpStore, sliceV, reduceCtorEq, Nat.reduceAdd, Nat.reduceLT, Nat.reduceLeDiff, List.reduceReplicate, writeAt, elemsOf, added, resVs, resV, retV, view, view.viewL, view.viewLL, eq_self, clash, Nat.reducePow, Nat.reduceDiv, Nat.reduceMod, Nat.reduceEqDiff, Nat.reduceBEq]
            first | refine callD_pc (aw) (.inl rfl) ?_ | refine call_pc (aw) (.inl rfl) ?_ | refine callD_pc (aw) (.inr rfl) ?_ | refine call_pc (aw) (.inr rfl) ?_
            simp (maxSteps := 2000000) (disch := omega) only [↓RS, RW, RB, RX, RT, appP, copyP, evN, evA, evL, binV, unV, intOfV, lenV, readAt, TK.isAgg, wpStore, sliceV, reduceCtorEq, Nat.reduceAdd, Nat.reduceLT, Nat.reduceLeDiff, List.reduceReplicate, writeAt, elemsOf, added, resVs, resV, retV, view, view.viewL, view.viewLL, eq_self, clash, Nat.reducePow, Nat.reduceDiv, Nat.reduceMod, Nat.reduceEqDiff, Nat.reduceBEq]
        · simp (maxSteps := 2000000) (disch := omega) only [↓RS, RW, RB, RX, RT, appP, copyP, evN, evA, evL, binV, unV, intOfV, lenV, readAt, TK.isAgg, wpStore, sliceV, reduceCtorEq, Nat.reduceAdd, Nat.reduceLT, Nat.reduceLeDiff, List.reduceReplicate, writeAt, elemsOf, added, resVs, resV, retV, view, view.viewL, view.viewLL, eq_self, clash, Nat.reducePow, Nat.reduceDiv, Nat.reduceMod, Nat.reduceEqDiff, Nat.reduceBEq]
          first | refine callD_pc (aw) (.inl rfl) ?_ | refine call_pc (aw) (.inl rfl) ?_ | refine callD_pc (aw) (.inr rfl) ?_ | refine call_pc (aw) (.inr rfl) ?_
          simp (maxSteps := 2000000) (disch := omega) only [↓RS, RW, RB, RX, RT, appP, copyP, evN, evA, evL, binV, unV, intOfV, lenV, readAt, TK.isAgg, wpStore, sliceV, reduceCtorEq, Nat.reduceAdd, Nat.reduceLT, Nat.reduceLeDiff, List.reduceReplicate, writeAt, elemsOf, added, resVs, resV, retV, view, view.viewL, view.viewLL, eq_self, clash, Nat.reducePow, Nat.reduceDiv, Nat.reduceMod, Nat.reduceEqDiff, Nat.reduceBEq]
    · have hae : A = B := Decidable.byContradiction fun h => hy (hz.2 h)
      rw [decide_eq_true hae] at eq
      cases x with
      | false =>
        simp (maxSteps := 2000000) (disch := omega) only [↓RS, RW, RB, RX, RT, appP, copyP, evN, evA, evL, binV, unV, intOfV, lenV, readAt, TK.isAgg, wpStore, sliceV, reduceCtorEq, Nat.reduceAdd, Nat.reduceLT, Nat.reduceLeDiff, List.reduceReplicate, writeAt, elemsOf, added, resVs, resV, retV, view, view.viewL, view.viewLL, eq_self, clash, Nat.reducePow, Nat.reduceDiv, Nat.reduceMod, Nat.reduceEqDiff, Nat.reduceBEq, eq, eqA_bool9, bb1, bb2, bb3, bb4]
        first | refine callD_pc (aw) (.inl rfl) ?_ | refine call_pc (aw) (.inl rfl) ?_ | refine callD_pc (aw) (.inr rfl) ?_ | refine call_pc (aw) (.inr rfl) ?_
        simp (maxSteps := 2000000) (disch := omega) only [↓RS, RW, RB, RX, RT, appP, copyP, evN, evA, evL, binV, unV, intOfV, lenV, readAt, TK.isAgg, wpStore, sliceV, reduceCtorEq, Nat.reduceAdd, Nat.reduceLT, Nat.reduceLeDiff, List.reduceReplicate, writeAt, elemsOf, added, resVs, resV, retV, view, view.viewL, view.viewLL, eq_self, clash, Nat.reducePow, Nat.reduceDiv, Nat.reduceMod, Nat.reduceEqDiff, Nat.reduceBEq]
      | true => exact absurd (ht rfl) hy
end Go.Av
