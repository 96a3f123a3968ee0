/- Helping texts: Dz. -/
import Derived.Test.YtpieniemfcclhaaGreatK39
import Derived.Test.YtpieniemfcclhaaGreatK40
set_option linter.unusedSimpArgs false
set_option linter.unusedVariables false
/- Valid polygons within the sizes; PolygonEdges. -/
namespace Go.Av
open Go.RowKit
open Go.Proofs.Tryz (prog)

/-- What is known of a polygon as it is read. -/
structure Read (O : List Rp) (hs : List (List Rp)) : Prop where
  o : O.length ≤ maxLen ∧ ∀ p ∈ O, p.fit
  n : hs.length ≤ maxLen
  h : ∀ l ∈ hs, l.length ≤ maxLen ∧ ∀ p ∈ l, p.fit
theorem big_le {p : Rp} (h : bigP p = false) : p.le (2 ^ 16) := by
  unfold bigP at h
  simp only [Bool.or_eq_false_iff, decide_eq_false_iff_not] at h
  exact ⟨⟨by omega, by omega⟩, ⟨by omega, by omega⟩⟩
theorem greatL_le {l : List Rp} (h : greatL l = false) : ∀ p ∈ l, p.le (2 ^ 16) := by
  intro p hp
  obtain ⟨i, hi, rfl⟩ := List.mem_iff_getElem.1 hp
  have := anyTo_get h hi
  rw [List.getD_eq_getElem?_getD, List.getElem?_eq_getElem hi] at this
  exact big_le this
theorem greatP_small {O : List Rp} {hs : List (List Rp)} (h : greatP O hs = false) : O.length ≤ 67 ∧ (∀ p ∈ O, p.le (2 ^ 16)) ∧ hs.length ≤ 10 ∧ ∀ l ∈ hs, l.length < 2 ^ 50 ∧ ∀ p ∈ l, p.le (2 ^ 16) := by
  unfold greatP at h
  simp only [Bool.or_eq_false_iff, decide_eq_false_iff_not] at h
  obtain ⟨h1, h2, h3, h4, h5, h6⟩ := h
  refine ⟨by omega, greatL_le h3, by omega, ?_⟩
  intro l hl
  obtain ⟨i, hi, rfl⟩ := List.mem_iff_getElem.1 hl
  have := anyTo_get h4 (show i < min hs.length 11 by omega)
  rw [List.getD_eq_getElem?_getD, List.getElem?_eq_getElem hi] at this
  simp only [Option.getD_some, Bool.or_eq_false_iff, decide_eq_false_iff_not] at this
  exact ⟨by omega, greatL_le this.2⟩

set_option maxHeartbeats 4000000 in
theorem fine_pc (O : List Rp) (hs : List (List Rp)) (hr : Read O hs) : ∃ b, PC prog 12 [pgV O hs] (.prim (.bool b)) ∧ (b = true → Fine O hs) := by
  have hm : maxLen < 2 ^ 63 := by decide
  have g := greatP_pc O hs (by have := hr.n; omega) (by have := hr.o.1; omega) hr.o.2 (fun l hl => ⟨by have := (hr.h l hl).1; omega, (hr.h l hl).2⟩)
  cases hg : greatP O hs with
  | true =>
    rw [hg] at g
    refine ⟨false, ?_, fun h => by cases h⟩
    refine PC_intro mixed (FnD.of (by kernel_rfl)) ?_
    conv in lcOf _ _ => cbv
    conv in ntOf _ _ => cbv
    conv in rsOf _ _ => cbv
    simp only [entryT, List.length_cons, List.length_nil, Nat.reduceAdd, Nat.reduceSub, List.replicate_succ, List.replicate_zero, List.cons_append, List.nil_append]
    simp (maxSteps := 2000000) (disch := omega) only [↓RS, RW, RB, RX, RT, appP, copyP, evN, evA, evL, binV, unV, intOfV, lenV, readAt, TK.isAgg, wpStore, sliceV, reduceCtorEq, Nat.reduceAdd, Nat.reduceLT, Nat.reduceLeDiff, List.reduceReplicate, writeAt, elemsOf, added, resVs, resV, retV, view, view.viewL, view.viewLL, eq_self, clash, Nat.reducePow, Nat.reduceDiv, Nat.reduceMod, Nat.reduceEqDiff, Nat.reduceBEq, pgV, hsV, rpsV]
    first | refine callD_pc (g) (.inl rfl) ?_ | refine call_pc (g) (.inl rfl) ?_ | refine callD_pc (g) (.inr rfl) ?_ | refine call_pc (g) (.inr rfl) ?_
    simp (maxSteps := 2000000) (disch := omega) only [↓RS, RW, RB, RX, RT, appP, copyP, evN, evA, evL, binV, unV, intOfV, lenV, readAt, TK.isAgg, wpStore, sliceV, reduceCtorEq, Nat.reduceAdd, Nat.reduceLT, Nat.reduceLeDiff, List.reduceReplicate, writeAt, elemsOf, added, resVs, resV, retV, view, view.viewL, view.viewLL, eq_self, clash, Nat.reducePow, Nat.reduceDiv, Nat.reduceMod, Nat.reduceEqDiff, Nat.reduceBEq]
  | false =>
    rw [hg] at g
    obtain ⟨h1, h2, h3, h4⟩ := greatP_small hg
    have c := Pcheck_pc O hs (by omega) (by omega) h2 h4
    by_cases hz : chkP O hs = 0
    · rw [hz] at c
      refine ⟨true, ?_, fun _ => ⟨hz, h2, h4⟩⟩
      refine PC_intro mixed (FnD.of (by kernel_rfl)) ?_
      conv in lcOf _ _ => cbv
      conv in ntOf _ _ => cbv
      conv in rsOf _ _ => cbv
      simp only [entryT, List.length_cons, List.length_nil, Nat.reduceAdd, Nat.reduceSub, List.replicate_succ, List.replicate_zero, List.cons_append, List.nil_append]
      simp (maxSteps := 2000000) (disch := omega) only [↓RS, RW, RB, RX, RT, appP, copyP, evN, evA, evL, binV, unV, intOfV, lenV, readAt, TK.isAgg, wpStore, sliceV, reduceCtorEq, Nat.reduceAdd, Nat.reduceLT, Nat.reduceLeDiff, List.reduceReplicate, writeAt, elemsOf, added, resVs, resV, retV, view, view.viewL, view.viewLL, eq_self, clash, Nat.reducePow, Nat.reduceDiv, Nat.reduceMod, Nat.reduceEqDiff, Nat.reduceBEq, pgV, hsV, rpsV]
      first | refine callD_pc (g) (.inl rfl) ?_ | refine call_pc (g) (.inl rfl) ?_ | refine callD_pc (g) (.inr rfl) ?_ | refine call_pc (g) (.inr rfl) ?_
      simp (maxSteps := 2000000) (disch := omega) only [↓RS, RW, RB, RX, RT, appP, copyP, evN, evA, evL, binV, unV, intOfV, lenV, readAt, TK.isAgg, wpStore, sliceV, reduceCtorEq, Nat.reduceAdd, Nat.reduceLT, Nat.reduceLeDiff, List.reduceReplicate, writeAt, elemsOf, added, resVs, resV, retV, view, view.viewL, view.viewLL, eq_self, clash, Nat.reducePow, Nat.reduceDiv, Nat.reduceMod, Nat.reduceEqDiff, Nat.reduceBEq, pgV, hsV, rpsV]
      first | refine callD_pc (c) (.inl rfl) ?_ | refine call_pc (c) (.inl rfl) ?_ | refine callD_pc (c) (.inr rfl) ?_ | refine call_pc (c) (.inr rfl) ?_
      simp (maxSteps := 2000000) (disch := omega) only [↓RS, RW, RB, RX, RT, appP, copyP, evN, evA, evL, binV, unV, intOfV, lenV, readAt, TK.isAgg, wpStore, sliceV, reduceCtorEq, Nat.reduceAdd, Nat.reduceLT, Nat.reduceLeDiff, List.reduceReplicate, writeAt, elemsOf, added, resVs, resV, retV, view, view.viewL, view.viewLL, eq_self, clash, Nat.reducePow, Nat.reduceDiv, Nat.reduceMod, Nat.reduceEqDiff, Nat.reduceBEq]
    · refine ⟨false, ?_, fun h => by cases h⟩
      refine PC_intro mixed (FnD.of (by kernel_rfl)) ?_
      conv in lcOf _ _ => cbv
      conv in ntOf _ _ => cbv
      conv in rsOf _ _ => cbv
      simp only [entryT, List.length_cons, List.length_nil, Nat.reduceAdd, Nat.reduceSub, List.replicate_succ, List.replicate_zero, List.cons_append, List.nil_append]
      simp (maxSteps := 2000000) (disch := omega) only [↓RS, RW, RB, RX, RT, appP, copyP, evN, evA, evL, binV, unV, intOfV, lenV, readAt, TK.isAgg, wpStore, sliceV, reduceCtorEq, Nat.reduceAdd, Nat.reduceLT, Nat.reduceLeDiff, List.reduceReplicate, writeAt, elemsOf, added, resVs, resV, retV, view, view.viewL, view.viewLL, eq_self, clash, Nat.reducePow, Nat.reduceDiv, Nat.reduceMod, Nat.reduceEqDiff, Nat.reduceBEq, pgV, hsV, rpsV]
      first | refine callD_pc (g) (.inl rfl) ?_ | refine call_pc (g) (.inl rfl) ?_ | refine callD_pc (g) (.inr rfl) ?_ | refine call_pc (g) (.inr rfl) ?_
      simp (maxSteps := 2000000) (disch := omega) only [↓RS, RW, RB, RX, RT, appP, copyP, evN, evA, evL, binV, unV, intOfV, lenV, readAt, TK.isAgg, wpStore, sliceV, reduceCtorEq, Nat.reduceAdd, Nat.reduceLT, Nat.reduceLeDiff, List.reduceReplicate, writeAt, elemsOf, added, resVs, resV, retV, view, view.viewL, view.viewLL, eq_self, clash, Nat.reducePow, Nat.reduceDiv, Nat.reduceMod, Nat.reduceEqDiff, Nat.reduceBEq, pgV, hsV, rpsV]
      first | refine callD_pc (c) (.inl rfl) ?_ | refine call_pc (c) (.inl rfl) ?_ | refine callD_pc (c) (.inr rfl) ?_ | refine call_pc (c) (.inr rfl) ?_
      simp (maxSteps := 2000000) (disch := omega) only [↓RS, RW, RB, RX, RT, appP, copyP, evN, evA, evL, binV, unV, intOfV, lenV, readAt, TK.isAgg, wpStore, sliceV, reduceCtorEq, Nat.reduceAdd, Nat.reduceLT, Nat.reduceLeDiff, List.reduceReplicate, writeAt, elemsOf, added, resVs, resV, retV, view, view.viewL, view.viewLL, eq_self, clash, Nat.reducePow, Nat.reduceDiv, Nat.reduceMod, Nat.reduceEqDiff, Nat.reduceBEq]

set_option maxRecDepth 100000 in
set_option maxHeartbeats 16000000 in
theorem polygonEdges_pc (O : List Rp) (hs : List (List Rp)) (hr : Read O hs) : PC prog 7 [pgV O hs] (.prim (.bool true)) := by
  obtain ⟨b, f, hb⟩ := fine_pc O hs hr
  have aw := awake_pc
  cases b with
  | false =>
    refine PC_intro mixed (FnD.of (by kernel_rfl)) ?_
    conv in lcOf _ _ => cbv
    conv in ntOf _ _ => cbv
    conv in rsOf _ _ => cbv
    simp only [entryT, List.length_cons, List.length_nil, Nat.reduceAdd, Nat.reduceSub, List.replicate_succ, List.replicate_zero, List.cons_append, List.nil_append]
    simp (maxSteps := 2000000) (disch := omega) only [↓RS, RW, RB, RX, RT, appP, copyP, evN, evA, evL, binV, unV, intOfV, lenV, readAt, TK.isAgg, wpStore, sliceV, reduceCtorEq, Nat.reduceAdd, Nat.reduceLT, Nat.reduceLeDiff, List.reduceReplicate, writeAt, elemsOf, added, resVs, resV, retV, view, view.viewL, view.viewLL, eq_self, clash, Nat.reducePow, Nat.reduceDiv, Nat.reduceMod, Nat.reduceEqDiff, Nat.reduceBEq, pgV, hsV, rpsV]
    first | refine callD_pc (f) (.inl rfl) ?_ | refine call_pc (f) (.inl rfl) ?_ | refine callD_pc (f) (.inr rfl) ?_ | refine call_pc (f) (.inr rfl) ?_
    simp (maxSteps := 2000000) (disch := omega) only [↓RS, RW, RB, RX, RT, appP, copyP, evN, evA, evL, binV, unV, intOfV, lenV, readAt, TK.isAgg, wpStore, sliceV, reduceCtorEq, Nat.reduceAdd, Nat.reduceLT, Nat.reduceLeDiff, List.reduceReplicate, writeAt, elemsOf, added, resVs, resV, retV, view, view.viewL, view.viewLL, eq_self, clash, Nat.reducePow, Nat.reduceDiv, Nat.reduceMod, Nat.reduceEqDiff, Nat.reduceBEq]
    first | refine callD_pc (aw) (.inl rfl) ?_ | refine call_pc (aw) (.inl rfl) ?_ | refine callD_pc (aw) (.inr rfl) ?_ | refine call_pc (aw) (.inr rfl) ?_
    simp (maxSteps := 2000000) (disch := omega) only [↓RS, RW, RB, RX, RT, appP, copyP, evN, evA, evL, binV, unV, intOfV, lenV, readAt, TK.isAgg, wpStore, sliceV, reduceCtorEq, Nat.reduceAdd, Nat.reduceLT, Nat.reduceLeDiff, List.reduceReplicate, writeAt, elemsOf, added, resVs, resV, retV, view, view.viewL, view.viewLL, eq_self, clash, Nat.reducePow, Nat.reduceDiv, Nat.reduceMod, Nat.reduceEqDiff, Nat.reduceBEq]
  | true =>
    have hf := hb rfl
    have cc := Corners_pc hf
    have ce := EdgesP_pc hf
    have hap := hf.apart
    have hlen : (pts O :: hs.map pts).length = hs.length + 1 := by simp
    have lec := cornersTo_le hf.rgs (hs.length + 1) (by rw [List.length_map]; exact Nat.le_refl _)
    have beg := fun c => @Apart.begins _ hap c
    have ends := fun c => @Apart.ends _ hap c
    have l3 : 3 ≤ (cornersTo (pts O :: hs.map pts) (hs.length + 1)).length := by
      have h3 := hf.rgs.out.lo
      have : ∀ i, 3 ≤ (cornersTo (pts O :: hs.map pts) (i + 1)).length := by
        intro i
        induction i with
        | zero => simpa [cornersTo] using h3
        | succ i ih => rw [cornersTo, List.length_append]; omega
      exact this _
    have hfew := hf.few
    rw [hlen] at beg ends
    rw [hf.val] at f ⊢
    generalize hs.map pts = Hs at *
    generalize pts O = L at *
    generalize cornersTo (L :: Hs) (hs.length + 1) = C at *
    generalize edgesTo (L :: Hs) (hs.length + 1) = E at *
    obtain ⟨lC, lE⟩ := lec
    clear hap hlen hb hf
    refine PC_intro mixed (FnD.of (by kernel_rfl)) ?_
    conv in lcOf _ _ => cbv
    conv in ntOf _ _ => cbv
    conv in rsOf _ _ => cbv
    simp only [entryT, List.length_cons, List.length_nil, Nat.reduceAdd, Nat.reduceSub, List.replicate_succ, List.replicate_zero, List.cons_append, List.nil_append]
    simp (maxSteps := 2000000) (disch := omega) only [↓RS, RW, RB, RX, RT, appP, copyP, evN, evA, evL, binV, unV, intOfV, lenV, readAt, TK.isAgg, wpStore, sliceV, reduceCtorEq, Nat.reduceAdd, Nat.reduceLT, Nat.reduceLeDiff, List.reduceReplicate, writeAt, elemsOf, added, resVs, resV, retV, view, view.viewL, view.viewLL, eq_self, clash, Nat.reducePow, Nat.reduceDiv, Nat.reduceMod, Nat.reduceEqDiff, Nat.reduceBEq, cgV, psV]
    first | refine callD_pc (f) (.inl rfl) ?_ | refine call_pc (f) (.inl rfl) ?_ | refine callD_pc (f) (.inr rfl) ?_ | refine call_pc (f) (.inr rfl) ?_
    simp (maxSteps := 2000000) (disch := omega) only [↓RS, RW, RB, RX, RT, appP, copyP, evN, evA, evL, binV, unV, intOfV, lenV, readAt, TK.isAgg, wpStore, sliceV, reduceCtorEq, Nat.reduceAdd, Nat.reduceLT, Nat.reduceLeDiff, List.reduceReplicate, writeAt, elemsOf, added, resVs, resV, retV, view, view.viewL, view.viewLL, eq_self, clash, Nat.reducePow, Nat.reduceDiv, Nat.reduceMod, Nat.reduceEqDiff, Nat.reduceBEq, psV]
    first | refine callD_pc (cc) (.inl rfl) ?_ | refine call_pc (cc) (.inl rfl) ?_ | refine callD_pc (cc) (.inr rfl) ?_ | refine call_pc (cc) (.inr rfl) ?_
    simp (maxSteps := 2000000) (disch := omega) only [↓RS, RW, RB, RX, RT, appP, copyP, evN, evA, evL, binV, unV, intOfV, lenV, readAt, TK.isAgg, wpStore, sliceV, reduceCtorEq, Nat.reduceAdd, Nat.reduceLT, Nat.reduceLeDiff, List.reduceReplicate, writeAt, elemsOf, added, resVs, resV, retV, view, view.viewL, view.viewLL, eq_self, clash, Nat.reducePow, Nat.reduceDiv, Nat.reduceMod, Nat.reduceEqDiff, Nat.reduceBEq, psV]
    first | refine callD_pc (ce) (.inl rfl) ?_ | refine call_pc (ce) (.inl rfl) ?_ | refine callD_pc (ce) (.inr rfl) ?_ | refine call_pc (ce) (.inr rfl) ?_
    simp (maxSteps := 2000000) (disch := omega) only [↓RS, RW, RB, RX, RT, appP, copyP, evN, evA, evL, binV, unV, intOfV, lenV, readAt, TK.isAgg, wpStore, sliceV, reduceCtorEq, Nat.reduceAdd, Nat.reduceLT, Nat.reduceLeDiff, List.reduceReplicate, writeAt, elemsOf, added, resVs, resV, retV, view, view.viewL, view.viewLL, eq_self, clash, Nat.reducePow, Nat.reduceDiv, Nat.reduceMod, Nat.reduceEqDiff, Nat.reduceBEq, psV, ssV, pc_length, sgc_length, lE]
    refine wp_lp (fun (i : Nat) J => J 0 :: J 1 :: J 2 :: psV C :: J 4 :: ssV E :: J 6 :: J 7 :: J 8 :: J 9 :: J 10 :: J 11 :: J 12 :: J 13 :: J 14 :: J 15 :: J 16 :: J 17 :: J 18 :: J 19 :: J 20 :: J 21 :: J 22 :: J 23 :: J 24 :: J 25 :: J 26 :: J 27 :: J 28 :: J 29 :: J 30 :: J 31 :: J 32 :: J 33 :: J 34 :: J 35 :: J 36 :: J 37 :: J 38 :: J 39 :: J 40 :: J 41 :: J 42 :: J 43 :: J 44 :: psV C :: .prim (.int .i64 ((C.length : Nat) : Int)) :: .prim (.int .i64 ((i : Nat) : Int)) :: J 48 :: J 49 :: J 50 :: J 51 :: J 52 :: J 53 :: J 54 :: J 55 :: J 56 :: J 57 :: J 58 :: J 59 :: J 60 :: J 61 :: J 62 :: J 63 :: J 64 :: J 65 :: J 66 :: J 67 :: J 68 :: J 69 :: J 70 :: J 71 :: J 72 :: J 73 :: J 74 :: J 75 :: J 76 :: J 77 :: []) (fun i _ => i ≤ C.length) (fun i => C.length - i) 0 rfl (Nat.zero_le _) ?_
    rintro i J H hi
    rcases Nat.lt_or_ge i C.length with hlt | hge
    · have g1 := pc_getD hlt
      have hmem : C.getD i default ∈ C := by rw [List.getD_eq_getElem?_getD, List.getElem?_eq_getElem hlt]; exact List.getElem_mem hlt
      have b1 := beg _ hmem
      have b2 := ends _ hmem
      generalize hfa : (fun k => decide ((E.getD k sg0).a = C.getD i default)) = fa at b1
      generalize hfb : (fun k => decide ((E.getD k sg0).b = C.getD i default)) = fb at b2
      have pa : ∀ k, fa k = decide ((E.getD k sg0).a = C.getD i default) := fun k => by rw [← hfa]
      have pb : ∀ k, fb k = decide ((E.getD k sg0).b = C.getD i default) := fun k => by rw [← hfb]
      simp (maxSteps := 2000000) (disch := omega) only [↓RS, RW, RB, RX, RT, appP, copyP, evN, evA, evL, binV, unV, intOfV, lenV, readAt, TK.isAgg, wpStore, sliceV, reduceCtorEq, Nat.reduceAdd, Nat.reduceLT, Nat.reduceLeDiff, List.reduceReplicate, writeAt, elemsOf, added, resVs, resV, retV, view, view.viewL, view.viewLL, eq_self, clash, Nat.reducePow, Nat.reduceDiv, Nat.reduceMod, Nat.reduceEqDiff, Nat.reduceBEq, psV, pc_length, g1, pc, set_app_len, ssV, sgc_length]
      refine wp_lp (fun (k : Nat) J => J 0 :: J 1 :: J 2 :: psV C :: J 4 :: ssV E :: J 6 :: J 7 :: .ptr H.length 0 0 :: .prim (.int .i64 ((cntTo fa k : Nat) : Int)) :: .prim (.int .i64 ((cntTo fb k : Nat) : Int)) :: J 11 :: J 12 :: J 13 :: J 14 :: J 15 :: J 16 :: J 17 :: J 18 :: J 19 :: J 20 :: J 21 :: J 22 :: J 23 :: J 24 :: J 25 :: J 26 :: J 27 :: J 28 :: J 29 :: J 30 :: J 31 :: J 32 :: J 33 :: J 34 :: J 35 :: J 36 :: J 37 :: J 38 :: J 39 :: J 40 :: J 41 :: J 42 :: J 43 :: J 44 :: psV C :: .prim (.int .i64 ((C.length : Nat) : Int)) :: .prim (.int .i64 ((i : Nat) : Int)) :: J 48 :: J 49 :: J 50 :: ssV E :: .prim (.int .i64 ((E.length : Nat) : Int)) :: .prim (.int .i64 ((k : Nat) : Int)) :: J 54 :: J 55 :: J 56 :: J 57 :: J 58 :: J 59 :: J 60 :: J 61 :: J 62 :: J 63 :: J 64 :: J 65 :: J 66 :: J 67 :: J 68 :: J 69 :: J 70 :: J 71 :: J 72 :: J 73 :: J 74 :: J 75 :: J 76 :: J 77 :: []) (fun k H' => k ≤ E.length ∧ get H' H.length = some (.row 6 true [pc (C.getD i default)])) (fun k => E.length - k) 0 rfl ⟨Nat.zero_le _, get_app_len⟩ ?_
      rintro k J H' ⟨hk, hg⟩
      rcases Nat.lt_or_ge k E.length with hkl | hkg
      · have g2 := sgc_getD hkl
        have w8 : ∀ x, get (H' ++ [x]) H.length = some (.row 6 true [pc (C.getD i default)]) := fun x => get_app hg
        have la := cntTo_le fa k
        have lb := cntTo_le fb k
        by_cases ha : (E.getD k sg0).a = C.getD i default
        · by_cases hb : (E.getD k sg0).b = C.getD i default
          · have da : decide ((E.getD k sg0).a = C.getD i default) = true := decide_eq_true ha
            have db : decide ((E.getD k sg0).b = C.getD i default) = true := decide_eq_true hb
            have ea : cntTo fa (k + 1) = cntTo fa k + 1 := by rw [cntTo_succ fa k, if_pos (show fa k = true from by rw [pa]; exact decide_eq_true ha)]
            have eb : cntTo fb (k + 1) = cntTo fb k + 1 := by rw [cntTo_succ fb k, if_pos (show fb k = true from by rw [pb]; exact decide_eq_true hb)]
            generalize cntTo fa k = x at ea la ⊢
            generalize cntTo fb k = y at eb lb ⊢
            simp (maxSteps := 2000000) (disch := omega) only [↓RS, RW, RB, RX, RT, appP, copyP, evN, evA, evL, binV, unV, intOfV, lenV, readAt, TK.isAgg, wpStore, sliceV, reduceCtorEq, Nat.reduceAdd, Nat.reduceLT, Nat.reduceLeDiff, List.reduceReplicate, writeAt, elemsOf, added, resVs, resV, retV, view, view.viewL, view.viewLL, eq_self, clash, Nat.reducePow, Nat.reduceDiv, Nat.reduceMod, Nat.reduceEqDiff, Nat.reduceBEq, ssV, sgc_length, g2, sgc, set_app_len, w8, pc, eqA_p, da, db]
            exact lp_next (k + 1) (by simp only [ea, eb]; rfl) ⟨hkl, get_app hg⟩ (by omega)
          · have da : decide ((E.getD k sg0).a = C.getD i default) = true := decide_eq_true ha
            have db : decide ((E.getD k sg0).b = C.getD i default) = false := decide_eq_false hb
            have ea : cntTo fa (k + 1) = cntTo fa k + 1 := by rw [cntTo_succ fa k, if_pos (show fa k = true from by rw [pa]; exact decide_eq_true ha)]
            have eb : cntTo fb (k + 1) = cntTo fb k + 0 := by rw [cntTo_succ fb k, if_neg (show ¬ fb k = true from by rw [pb, decide_eq_false hb]; simp)]
            generalize cntTo fa k = x at ea la ⊢
            generalize cntTo fb k = y at eb lb ⊢
            simp (maxSteps := 2000000) (disch := omega) only [↓RS, RW, RB, RX, RT, appP, copyP, evN, evA, evL, binV, unV, intOfV, lenV, readAt, TK.isAgg, wpStore, sliceV, reduceCtorEq, Nat.reduceAdd, Nat.reduceLT, Nat.reduceLeDiff, List.reduceReplicate, writeAt, elemsOf, added, resVs, resV, retV, view, view.viewL, view.viewLL, eq_self, clash, Nat.reducePow, Nat.reduceDiv, Nat.reduceMod, Nat.reduceEqDiff, Nat.reduceBEq, ssV, sgc_length, g2, sgc, set_app_len, w8, pc, eqA_p, da, db]
            exact lp_next (k + 1) (by simp only [ea, eb]; rfl) ⟨hkl, get_app hg⟩ (by omega)
        · by_cases hb : (E.getD k sg0).b = C.getD i default
          · have da : decide ((E.getD k sg0).a = C.getD i default) = false := decide_eq_false ha
            have db : decide ((E.getD k sg0).b = C.getD i default) = true := decide_eq_true hb
            have ea : cntTo fa (k + 1) = cntTo fa k + 0 := by rw [cntTo_succ fa k, if_neg (show ¬ fa k = true from by rw [pa, decide_eq_false ha]; simp)]
            have eb : cntTo fb (k + 1) = cntTo fb k + 1 := by rw [cntTo_succ fb k, if_pos (show fb k = true from by rw [pb]; exact decide_eq_true hb)]
            generalize cntTo fa k = x at ea la ⊢
            generalize cntTo fb k = y at eb lb ⊢
            simp (maxSteps := 2000000) (disch := omega) only [↓RS, RW, RB, RX, RT, appP, copyP, evN, evA, evL, binV, unV, intOfV, lenV, readAt, TK.isAgg, wpStore, sliceV, reduceCtorEq, Nat.reduceAdd, Nat.reduceLT, Nat.reduceLeDiff, List.reduceReplicate, writeAt, elemsOf, added, resVs, resV, retV, view, view.viewL, view.viewLL, eq_self, clash, Nat.reducePow, Nat.reduceDiv, Nat.reduceMod, Nat.reduceEqDiff, Nat.reduceBEq, ssV, sgc_length, g2, sgc, set_app_len, w8, pc, eqA_p, da, db]
            exact lp_next (k + 1) (by simp only [ea, eb]; rfl) ⟨hkl, get_app hg⟩ (by omega)
          · have da : decide ((E.getD k sg0).a = C.getD i default) = false := decide_eq_false ha
            have db : decide ((E.getD k sg0).b = C.getD i default) = false := decide_eq_false hb
            have ea : cntTo fa (k + 1) = cntTo fa k + 0 := by rw [cntTo_succ fa k, if_neg (show ¬ fa k = true from by rw [pa, decide_eq_false ha]; simp)]
            have eb : cntTo fb (k + 1) = cntTo fb k + 0 := by rw [cntTo_succ fb k, if_neg (show ¬ fb k = true from by rw [pb, decide_eq_false hb]; simp)]
            generalize cntTo fa k = x at ea la ⊢
            generalize cntTo fb k = y at eb lb ⊢
            simp (maxSteps := 2000000) (disch := omega) only [↓RS, RW, RB, RX, RT, appP, copyP, evN, evA, evL, binV, unV, intOfV, lenV, readAt, TK.isAgg, wpStore, sliceV, reduceCtorEq, Nat.reduceAdd, Nat.reduceLT, Nat.reduceLeDiff, List.reduceReplicate, writeAt, elemsOf, added, resVs, resV, retV, view, view.viewL, view.viewLL, eq_self, clash, Nat.reducePow, Nat.reduceDiv, Nat.reduceMod, Nat.reduceEqDiff, Nat.reduceBEq, ssV, sgc_length, g2, sgc, set_app_len, w8, pc, eqA_p, da, db]
            exact lp_next (k + 1) (by simp only [ea, eb]; rfl) ⟨hkl, get_app hg⟩ (by omega)
      · have hka : k = E.length := by omega
        subst hka
        rw [b1, b2]
        simp (maxSteps := 2000000) (disch := omega) only [↓RS, RW, RB, RX, RT, appP, copyP, evN, evA, evL, binV, unV, intOfV, lenV, readAt, TK.isAgg, wpStore, sliceV, reduceCtorEq, Nat.reduceAdd, Nat.reduceLT, Nat.reduceLeDiff, List.reduceReplicate, writeAt, elemsOf, added, resVs, resV, retV, view, view.viewL, view.viewLL, eq_self, clash, Nat.reducePow, Nat.reduceDiv, Nat.reduceMod, Nat.reduceEqDiff, Nat.reduceBEq]
        exact lp_next (i + 1) rfl hlt (by omega)
    · simp (maxSteps := 2000000) (disch := omega) only [↓RS, RW, RB, RX, RT, appP, copyP, evN, evA, evL, binV, unV, intOfV, lenV, readAt, TK.isAgg, wpStore, sliceV, reduceCtorEq, Nat.reduceAdd, Nat.reduceLT, Nat.reduceLeDiff, List.reduceReplicate, writeAt, elemsOf, added, resVs, resV, retV, view, view.viewL, view.viewLL, eq_self, clash, Nat.reducePow, Nat.reduceDiv, Nat.reduceMod, Nat.reduceEqDiff, Nat.reduceBEq, psV, pc_length]
      first | refine callD_pc (aw) (.inl rfl) ?_ | refine call_pc (aw) (.inl rfl) ?_ | refine callD_pc (aw) (.inr rfl) ?_ | refine call_pc (aw) (.inr rfl) ?_
      simp (maxSteps := 2000000) (disch := omega) only [↓RS, RW, RB, RX, RT, appP, copyP, evN, evA, evL, binV, unV, intOfV, lenV, readAt, TK.isAgg, wpStore, sliceV, reduceCtorEq, Nat.reduceAdd, Nat.reduceLT, Nat.reduceLeDiff, List.reduceReplicate, writeAt, elemsOf, added, resVs, resV, retV, view, view.viewL, view.viewLL, eq_self, clash, Nat.reducePow, Nat.reduceDiv, Nat.reduceMod, Nat.reduceEqDiff, Nat.reduceBEq]
end Go.Av
