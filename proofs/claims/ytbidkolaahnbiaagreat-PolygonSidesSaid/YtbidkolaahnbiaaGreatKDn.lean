/- Helping texts: Dn. -/
import Derived.Test.YtbidkolaahnbiaaGreatKDm
set_option linter.unusedSimpArgs false
set_option linter.unusedVariables false
set_option maxRecDepth 100000
set_option maxHeartbeats 16000000
open Nat (reduceAdd reduceLT reduceLeDiff reducePow reduceDiv reduceMod reduceEqDiff)
namespace Go.Av
open Go.RowKit
open Go.Proofs.Tryz (prog)
def cgV (L : List Pt) (Hs : List (List Pt)) : V := .agg [psV L, .lst 1 ((Hs.map psV).map fun v => [v])]
theorem rings_sc (A : V) (es : List V) {H : Hp} {K : V → Hp → Prop} (hK : K (.clo 223 [] [.ptr H.length 0 0]) (H ++ [some (.row 2 true [[A, .lst 1 (es.map fun v => [v])]])])) :
    SC prog 155 [.agg [A, .lst 1 (es.map fun v => [v])]] H K := by
  refine SC_intro mixed (FnD.of (by kernel_rfl)) ?_
  conv in lcOf _ _ => cbv
  conv in ntOf _ _ => cbv
  conv in rsOf _ _ => cbv
  simp only [RN, Nat.reduceAdd, Nat.reduceSub]
  simp (maxSteps := 2000000) (disch := omega) only [↓RS, RZ, reduceCtorEq, reduceAdd, reduceLT, reduceLeDiff, List.reduceReplicate, reducePow, reduceDiv, reduceMod, reduceEqDiff, Nat.reduceBEq]
  exact hK

theorem rings1_sc (A : V) (es : List V) (hn : es.length < 2 ^ 40) {yb b : Nat} {H : Hp} {K : V → Hp → Prop} (Inv : Nat → Hp → Prop) (Fin : Hp → Prop)
    (hbox : ∀ i H, Inv i H → get H b = some (.row 2 true [[A, .lst 1 (es.map fun v => [v])]]))
    (step : ∀ i H, i ≤ es.length → Inv i H → YC prog yb [.prim (.int .i64 ((i : Nat) : Int)), (A :: es).getD i undefV] H (yQ (Inv (i + 1)) Fin))
    (h0 : Inv 0 H) (hK : ∀ v H, Inv (es.length + 1) H → K v H) (hF : ∀ v H, Fin H → K v H) : SC prog 223 [.yld yb, .ptr b 0 0] H K := by
  refine SC_intro mixed (FnD.of (by kernel_rfl)) ?_
  conv in lcOf _ _ => cbv
  conv in ntOf _ _ => cbv
  conv in rsOf _ _ => cbv
  simp only [RN, Nat.reduceAdd, Nat.reduceSub]
  have hb := hbox 0 H h0
  simp (maxSteps := 2000000) (disch := omega) only [↓RS, RZ, reduceCtorEq, reduceAdd, reduceLT, reduceLeDiff, List.reduceReplicate, reducePow, reduceDiv, reduceMod, reduceEqDiff, Nat.reduceBEq, hb]
  refine YC.mono ?_ (step 0 _ (Nat.zero_le _) h0)
  rintro v H1 (⟨rfl, h⟩ | ⟨rfl, h⟩)
  · have hb := hbox _ H1 h
    simp (maxSteps := 2000000) (disch := omega) only [↓RS, RZ, reduceCtorEq, reduceAdd, reduceLT, reduceLeDiff, List.reduceReplicate, reducePow, reduceDiv, reduceMod, reduceEqDiff, Nat.reduceBEq, hb, one_length]
    refine wp_lp (fun (i : Nat) J => ov [(0, .yld yb), (1, .ptr b 0 0), (11, .lst 1 (es.map fun v => [v])), (12, .prim (.int .i64 ((es.length : Nat) : Int))), (13, .prim (.int .i64 ((i : Nat) : Int)))] J 0 25) (fun i H => i ≤ es.length ∧ Inv (i + 1) H) (fun i => es.length - i) 0 rfl ⟨Nat.zero_le _, h⟩ ?_
    rintro i J H ⟨hi, hv⟩
    try conv in ov _ _ _ _ => simp only [ov, List.lookup, Option.getD_some, Option.getD_none, Nat.reduceAdd, Nat.reduceBEq]
    rcases Nat.lt_or_ge i es.length with hlt | hge
    · have g := one_getD hlt
      have st := step (i + 1) _ hlt hv
      simp (maxSteps := 2000000) (disch := omega) only [↓RS, RZ, reduceCtorEq, reduceAdd, reduceLT, reduceLeDiff, List.reduceReplicate, reducePow, reduceDiv, reduceMod, reduceEqDiff, Nat.reduceBEq, one_length, g]
      refine YC.mono ?_ st
      rintro v H' (⟨rfl, h⟩ | ⟨rfl, h⟩)
      · simp (maxSteps := 2000000) (disch := omega) only [↓RS, RZ, reduceCtorEq, reduceAdd, reduceLT, reduceLeDiff, List.reduceReplicate, reducePow, reduceDiv, reduceMod, reduceEqDiff, Nat.reduceBEq]
        exact lp_next (i + 1) rfl ⟨hlt, h⟩ (by omega)
      · simp (maxSteps := 2000000) (disch := omega) only [↓RS, RZ, reduceCtorEq, reduceAdd, reduceLT, reduceLeDiff, List.reduceReplicate, reducePow, reduceDiv, reduceMod, reduceEqDiff, Nat.reduceBEq]
        exact hF _ _ h
    · have hia : i = es.length := by omega
      subst hia
      simp (maxSteps := 2000000) (disch := omega) only [↓RS, RZ, reduceCtorEq, reduceAdd, reduceLT, reduceLeDiff, List.reduceReplicate, reducePow, reduceDiv, reduceMod, reduceEqDiff, Nat.reduceBEq, one_length]
      exact hK _ _ hv
  · simp (maxSteps := 2000000) (disch := omega) only [↓RS, RZ, reduceCtorEq, reduceAdd, reduceLT, reduceLeDiff, List.reduceReplicate, reducePow, reduceDiv, reduceMod, reduceEqDiff, Nat.reduceBEq]
    exact hF _ _ h

/-- A polygon of rings. -/
structure Rgs (L : List Pt) (Hs : List (List Pt)) : Prop where
  out : Ring L
  holes : ∀ h ∈ Hs, Ring h
  few : Hs.length ≤ 8
theorem Rgs.get {L : List Pt} {Hs : List (List Pt)} (h : Rgs L Hs) {i : Nat} (hi : i ≤ Hs.length) : Ring ((L :: Hs).getD i []) := by
  cases i with
  | zero => exact h.out
  | succ i =>
    rw [List.getD_cons_succ, List.getD_eq_getElem?_getD, List.getElem?_eq_getElem hi]
    exact h.holes _ (List.getElem_mem hi)
theorem ring_val {L : List Pt} {Hs : List (List Pt)} {i : Nat} (hi : i ≤ Hs.length) : (psV L :: Hs.map psV).getD i undefV = psV ((L :: Hs).getD i []) := by
  cases i with
  | zero => rfl
  | succ i =>
    rw [List.getD_cons_succ, List.getD_cons_succ, List.getD_eq_getElem?_getD, List.getD_eq_getElem?_getD, List.getElem?_map, List.getElem?_eq_getElem hi]; rfl
/-- The corners, and the edges, of the first rings. -/
def cornersTo (Ls : List (List Pt)) : Nat → List Pt
  | 0 => []
  | i + 1 => cornersTo Ls i ++ Ls.getD i []
def edgesTo (Ls : List (List Pt)) : Nat → List Sg
  | 0 => []
  | i + 1 => edgesTo Ls i ++ edgesL (Ls.getD i [])
theorem cornersTo_le {L : List Pt} {Hs : List (List Pt)} (h : Rgs L Hs) : ∀ i, i ≤ Hs.length + 1 → (cornersTo (L :: Hs) i).length ≤ i * 64 ∧ (edgesTo (L :: Hs) i).length = (cornersTo (L :: Hs) i).length
  | 0, _ => by simp [cornersTo, edgesTo]
  | i + 1, hi => by
    obtain ⟨h1, h2⟩ := cornersTo_le h i (by omega)
    have := (h.get (i := i) (by omega)).hi
    simp only [cornersTo, edgesTo, List.length_append, edgesL_length]
    omega
theorem pc_prims (l : List Pt) : Prims (l.map pc) := by
  intro e he v hv
  obtain ⟨s, _, rfl⟩ := List.mem_map.1 he
  simp only [pc, List.mem_cons, List.not_mem_nil, or_false] at hv
  rcases hv with h | h | h | h | h | h <;> exact ⟨_, h⟩
theorem prims_cell {es : List (List V)} (h : Prims es) : ∀ y ∈ es, ∀ v ∈ y, cellV v = true := fun y hy v hv => by
  obtain ⟨x, rfl⟩ := h y hy v hv; rfl

theorem cornersTo_ne {L : List Pt} {Hs : List (List Pt)} (h : Rgs L Hs) : ∀ i, cornersTo (L :: Hs) (i + 1) ≠ []
  | 0 => by simp only [cornersTo, List.nil_append]; exact h.out.ne
  | i + 1 => by
    rw [cornersTo]
    intro e
    exact cornersTo_ne h i (List.append_eq_nil_iff.1 e).1
theorem corners_pc (L : List Pt) (Hs : List (List Pt)) (hg : Rgs L Hs) : PC prog 127 [cgV L Hs] (psV (cornersTo (L :: Hs) (Hs.length + 1))) := by
  have hf := hg.few
  refine PC_intro mixed (FnD.of (by kernel_rfl)) ?_
  conv in lcOf _ _ => cbv
  conv in ntOf _ _ => cbv
  conv in rsOf _ _ => cbv
  simp only [RN, Nat.reduceAdd, Nat.reduceSub]
  simp (maxSteps := 2000000) (disch := omega) only [↓RS, RZ, reduceCtorEq, reduceAdd, reduceLT, reduceLeDiff, List.reduceReplicate, reducePow, reduceDiv, reduceMod, reduceEqDiff, Nat.reduceBEq, cgV]
  refine call_sc (rings_sc (psV L) (Hs.map psV) ?_)
  simp (maxSteps := 2000000) (disch := omega) only [↓RS, RZ, reduceCtorEq, reduceAdd, reduceLT, reduceLeDiff, List.reduceReplicate, reducePow, reduceDiv, reduceMod, reduceEqDiff, Nat.reduceBEq]
  refine wp_rf mixed (n := 3) (k := 2) rfl rfl rfl (by kernel_rfl) ?_
  conv in lcC _ => cbv
  conv in lcC _ => cbv
  intro R B D hR hyc
  simp only [List.nil_append, List.cons_append] at hyc ⊢
  refine rings1_sc (psV L) (Hs.map psV) (by rw [List.length_map]; omega) (fun i H => ∃ v, get H 1 = some (.row 1 true [[v]]) ∧ get H 2 = some (.row 2 true [[psV L, .lst 1 ((Hs.map psV).map fun v => [v])]]) ∧ get H 3 = some R ∧ Bufn 4 H v 6 ((cornersTo (L :: Hs) i).map pc)) (fun _ => False) ?_ ?_ ?_ ?_ ?_
  · rintro i H ⟨v, h⟩; exact h.2.1
  · rintro i H hlt ⟨v, h0, h1, h2, h3⟩
    rw [List.length_map] at hlt
    rw [ring_val hlt]
    have hr := hg.get hlt
    refine hyc _ _ _ rfl h2 ?_
    clear hyc
    simp (maxSteps := 2000000) (disch := omega) only [↓RS, RZ, reduceCtorEq, reduceAdd, reduceLT, reduceLeDiff, List.reduceReplicate, reducePow, reduceDiv, reduceMod, reduceEqDiff, Nat.reduceBEq, yieldT_cons, yieldT_nil, psV]
    rw [bgQ_normal]
    refine ⟨h2, ?_⟩
    have hN := h3.1
    have q0 : get (H.set 3 (some B)) 1 = some (.row 1 true [[v]]) := by rw [get_ne (by omega)]; exact h0
    have q1 : get (H.set 3 (some B)) 2 = some (.row 2 true [[psV L, .lst 1 ((Hs.map psV).map fun v => [v])]]) := by rw [get_ne (by omega)]; exact h1
    have q2 : get (H.set 3 (some B)) 3 = some B := get_eq (by omega)
    have q3 := h3.set (c := 3) (x := some B) (by omega)
    generalize H.set 3 (some B) = H1 at q0 q1 q2 q3 ⊢
    simp (maxSteps := 2000000) (disch := omega) only [↓RS, RZ, reduceCtorEq, reduceAdd, reduceLT, reduceLeDiff, List.reduceReplicate, reducePow, reduceDiv, reduceMod, reduceEqDiff, Nat.reduceBEq, q0]
    have hl1 := (cornersTo_le hg i (by omega)).1
    have hl2 := hr.hi
    refine Bufn.append q3 (prims_cell (pc_prims _)) (by simp only [List.length_map]; omega) (by simp only [List.length_map]; omega) ?_
    intro v' H2 hb hk
    have r0 := hk 1 _ (by omega) q0
    have r1 := hk 2 _ (by omega) q1
    have r2 := hk 3 _ (by omega) q2
    have c1 := hb.one
    have c2 := hb.cel
    simp (maxSteps := 2000000) (disch := omega) only [↓RS, RZ, reduceCtorEq, reduceAdd, reduceLT, reduceLeDiff, List.reduceReplicate, reducePow, reduceDiv, reduceMod, reduceEqDiff, Nat.reduceBEq, r0, c1, c2]
    rw [rdQ_normal]
    have hl3 := hb.1
    refine ⟨by rw [get_ne (by omega)]; exact r2, .inl ⟨rfl, v', ?_, ?_, ?_, ?_⟩⟩
    · rw [get_ne (by omega), get_eq (by omega)]
    · rw [get_ne (by omega), get_ne (by omega)]; exact r1
    · rw [get_eq (by rw [List.length_set]; omega)]
    · show Bufn 4 _ v' 6 ((cornersTo (L :: Hs) i ++ (L :: Hs).getD i []).map pc)
      rw [List.map_append]
      exact (hb.set (by omega)).set (by omega)
  · exact ⟨_, rfl, rfl, rfl, .nil (by simp)⟩
  · rintro v H ⟨u, h0, h1, h2, h3⟩
    rw [List.length_map] at h3
    refine .inl ⟨h2, ?_⟩
    have hne : cornersTo (L :: Hs) (Hs.length + 1) ≠ [] := cornersTo_ne hg _
    obtain ⟨b, hb, rfl, hg2⟩ := h3.cases (by simpa using hne)
    have e0 : get (H.set 3 none) 1 = some (.row 1 true [[.sref b 0 ((cornersTo (L :: Hs) (Hs.length + 1)).map pc).length ((cornersTo (L :: Hs) (Hs.length + 1)).map pc).length 6 false]]) := by rw [get_ne (by omega)]; exact h0
    have e1 : get (H.set 3 none) b = some (.row 6 true ((cornersTo (L :: Hs) (Hs.length + 1)).map pc)) := by rw [get_ne (by omega)]; exact hg2
    have hvl := @viewLL_prims (H.set 3 none) 7 _ (pc_prims (cornersTo (L :: Hs) (Hs.length + 1)))
    generalize cornersTo (L :: Hs) (Hs.length + 1) = C at *
    have hlen : (C.map pc).length = C.length := List.length_map ..
    have htk : (C.map pc).take C.length = C.map pc := by rw [List.take_of_length_le (by omega)]
    simp (maxSteps := 2000000) (disch := omega) only [↓RS, RZ, reduceCtorEq, reduceAdd, reduceLT, reduceLeDiff, List.reduceReplicate, reducePow, reduceDiv, reduceMod, reduceEqDiff, Nat.reduceBEq, e0, hlen]
    rw [e1]
    simp only [hlen, Nat.le_refl, if_true, htk]
    rw [hvl]
    rfl
  · exact fun _ _ h => h.elim

theorem edges_pc (L : List Pt) (Hs : List (List Pt)) (hg : Rgs L Hs) : PC prog 130 [cgV L Hs] (ssV (edgesTo (L :: Hs) (Hs.length + 1))) := by
  have hf := hg.few
  refine PC_intro mixed (FnD.of (by kernel_rfl)) ?_
  conv in lcOf _ _ => cbv
  conv in ntOf _ _ => cbv
  conv in rsOf _ _ => cbv
  simp only [RN, Nat.reduceAdd, Nat.reduceSub]
  simp (maxSteps := 2000000) (disch := omega) only [↓RS, RZ, reduceCtorEq, reduceAdd, reduceLT, reduceLeDiff, List.reduceReplicate, reducePow, reduceDiv, reduceMod, reduceEqDiff, Nat.reduceBEq, cgV]
  refine call_sc (rings_sc (psV L) (Hs.map psV) ?_)
  simp (maxSteps := 2000000) (disch := omega) only [↓RS, RZ, reduceCtorEq, reduceAdd, reduceLT, reduceLeDiff, List.reduceReplicate, reducePow, reduceDiv, reduceMod, reduceEqDiff, Nat.reduceBEq]
  refine wp_rf mixed (n := 3) (k := 2) rfl rfl rfl (by kernel_rfl) ?_
  conv in lcC _ => cbv
  conv in lcC _ => cbv
  intro R B D hR hyc
  simp only [List.nil_append, List.cons_append] at hyc ⊢
  refine rings1_sc (psV L) (Hs.map psV) (by rw [List.length_map]; omega) (fun i H => ∃ v, get H 1 = some (.row 1 true [[v]]) ∧ get H 2 = some (.row 2 true [[psV L, .lst 1 ((Hs.map psV).map fun v => [v])]]) ∧ get H 3 = some R ∧ Bufn 4 H v 12 ((edgesTo (L :: Hs) i).map sgc)) (fun _ => False) ?_ ?_ ?_ ?_ ?_
  · rintro i H ⟨v, h⟩; exact h.2.1
  · rintro i H hlt ⟨v, h0, h1, h2, h3⟩
    rw [List.length_map] at hlt
    rw [ring_val hlt]
    have hr := hg.get hlt
    refine hyc _ _ _ rfl h2 ?_
    clear hyc
    simp (maxSteps := 2000000) (disch := omega) only [↓RS, RZ, reduceCtorEq, reduceAdd, reduceLT, reduceLeDiff, List.reduceReplicate, reducePow, reduceDiv, reduceMod, reduceEqDiff, Nat.reduceBEq, yieldT_cons, yieldT_nil, psV]
    rw [bgQ_normal]
    refine ⟨h2, ?_⟩
    have hN := h3.1
    have q0 : get (H.set 3 (some B)) 1 = some (.row 1 true [[v]]) := by rw [get_ne (by omega)]; exact h0
    have q1 : get (H.set 3 (some B)) 2 = some (.row 2 true [[psV L, .lst 1 ((Hs.map psV).map fun v => [v])]]) := by rw [get_ne (by omega)]; exact h1
    have q2 : get (H.set 3 (some B)) 3 = some B := get_eq (by omega)
    have q3 := h3.set (c := 3) (x := some B) (by omega)
    generalize H.set 3 (some B) = H1 at q0 q1 q2 q3 ⊢
    have ee := Edges_pc ((L :: Hs).getD i []) (by have := hr.hi; omega) hr.ne
    simp (maxSteps := 2000000) (disch := omega) only [↓RS, RZ, reduceCtorEq, reduceAdd, reduceLT, reduceLeDiff, List.reduceReplicate, reducePow, reduceDiv, reduceMod, reduceEqDiff, Nat.reduceBEq, q0]
    first | refine cP (ee) ?_ | refine cD (ee) ?_
    simp (maxSteps := 2000000) (disch := omega) only [↓RS, RZ, reduceCtorEq, reduceAdd, reduceLT, reduceLeDiff, List.reduceReplicate, reducePow, reduceDiv, reduceMod, reduceEqDiff, Nat.reduceBEq, ssV]
    obtain ⟨hl1, hl4⟩ := cornersTo_le hg i (by omega)
    have hl2 := hr.hi
    refine Bufn.append q3 (prims_cell (sgc_prims _)) (by simp only [List.length_map, edgesL_length]; omega) (by simp only [List.length_map, edgesL_length]; omega) ?_
    intro v' H2 hb hk
    have r0 := hk 1 _ (by omega) q0
    have r1 := hk 2 _ (by omega) q1
    have r2 := hk 3 _ (by omega) q2
    have c1 := hb.one
    have c2 := hb.cel
    simp (maxSteps := 2000000) (disch := omega) only [↓RS, RZ, reduceCtorEq, reduceAdd, reduceLT, reduceLeDiff, List.reduceReplicate, reducePow, reduceDiv, reduceMod, reduceEqDiff, Nat.reduceBEq, r0, c1, c2]
    rw [rdQ_normal]
    have hl3 := hb.1
    refine ⟨by rw [get_ne (by omega)]; exact r2, .inl ⟨rfl, v', ?_, ?_, ?_, ?_⟩⟩
    · rw [get_ne (by omega), get_eq (by omega)]
    · rw [get_ne (by omega), get_ne (by omega)]; exact r1
    · rw [get_eq (by rw [List.length_set]; omega)]
    · show Bufn 4 _ v' 12 ((edgesTo (L :: Hs) i ++ edgesL ((L :: Hs).getD i [])).map sgc)
      rw [List.map_append]
      exact (hb.set (by omega)).set (by omega)
  · exact ⟨_, rfl, rfl, rfl, .nil (by simp)⟩
  · rintro v H ⟨u, h0, h1, h2, h3⟩
    rw [List.length_map] at h3
    refine .inl ⟨h2, ?_⟩
    have hne : edgesTo (L :: Hs) (Hs.length + 1) ≠ [] := fun h => cornersTo_ne hg Hs.length (List.length_eq_zero_iff.1 (by rw [← (cornersTo_le hg (Hs.length + 1) (Nat.le_refl _)).2, h]; rfl))
    obtain ⟨b, hb, rfl, hg2⟩ := h3.cases (by simpa using hne)
    have e0 : get (H.set 3 none) 1 = some (.row 1 true [[.sref b 0 ((edgesTo (L :: Hs) (Hs.length + 1)).map sgc).length ((edgesTo (L :: Hs) (Hs.length + 1)).map sgc).length 12 false]]) := by rw [get_ne (by omega)]; exact h0
    have e1 : get (H.set 3 none) b = some (.row 12 true ((edgesTo (L :: Hs) (Hs.length + 1)).map sgc)) := by rw [get_ne (by omega)]; exact hg2
    have hvl := @viewLL_prims (H.set 3 none) 7 _ (sgc_prims (edgesTo (L :: Hs) (Hs.length + 1)))
    generalize edgesTo (L :: Hs) (Hs.length + 1) = C at *
    have hlen : (C.map sgc).length = C.length := List.length_map ..
    have htk : (C.map sgc).take C.length = C.map sgc := by rw [List.take_of_length_le (by omega)]
    simp (maxSteps := 2000000) (disch := omega) only [↓RS, RZ, reduceCtorEq, reduceAdd, reduceLT, reduceLeDiff, List.reduceReplicate, reducePow, reduceDiv, reduceMod, reduceEqDiff, Nat.reduceBEq, e0, hlen]
    rw [e1]
    simp only [hlen, Nat.le_refl, if_true, htk]
    rw [hvl]
    rfl
  · exact fun _ _ h => h.elim
end Go.Av
