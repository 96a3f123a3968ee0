/- Helping texts: Dn. -/
import Derived.Test.YtbidkolaahnbiaaGreatKDm
set_option linter.unusedSimpArgs false
set_option linter.unusedVariables false
set_option maxRecDepth 100000
set_option maxHeartbeats 16000000
open Nat (reduceAdd reduceLT reduceLeDiff reducePow reduceDiv reduceMod reduceEqDiff)
namespace Go.Av
open Go.RowKit
open Go.Proofs.Tryz (prog)
def cgV (L : List Pt) (Hs : List (List Pt)) : V := .agg [psV L, .lst 1 ((Hs.map psV).map fun v => [v])]
theorem rings_sc (A : V) (es : List V) {H : Hp} {K : V → Hp → Prop} (hK : K (.clo 223 [] [.ptr H.length 0 0]) (H ++ [some (.row 2 true [[A, .lst 1 (es.map fun v => [v])]])])) :
    SC prog 155 [.agg [A, .lst 1 (es.map fun v => [v])]] H K := by
  refine SC_intro mixed (FnD.of (by kernel_rfl)) ?_
  conv in lcOf _ _ => cbv
  conv in ntOf _ _ => cbv
  conv in rsOf _ _ => cbv
  simp only [RN, Nat.reduceAdd, Nat.reduceSub]
  simp (maxSteps := 2000000) (disch := omega) only [↓RS, RZ, reduceCtorEq, reduceAdd, reduceLT, reduceLeDiff, List.reduceReplicate, reducePow, reduceDiv, reduceMod, reduceEqDiff, Nat.reduceBEq]
  exact hK

theorem rings1_sc (A : V) (es : List V) (hn : es.length < 2 ^ 40) {yb b : Nat} {H : Hp} {K : V → Hp → Prop} (Inv : Nat → Hp → Prop) (Fin : Hp → Prop)
    (hbox : ∀ i H, Inv i H → get H b = some (.row 2 true [[A, .lst 1 (es.map fun v => [v])]]))
    (step : ∀ i H, i ≤ es.length → Inv i H → YC prog yb [.prim (.int .i64 ((i : Nat) : Int)), (A :: es).getD i undefV] H (yQ (Inv (i + 1)) Fin))
    (h0 : Inv 0 H) (hK : ∀ v H, Inv (es.length + 1) H → K v H) (hF : ∀ v H, Fin H → K v H) : SC prog 223 [.yld yb, .ptr b 0 0] H K := by
  refine SC_intro mixed (FnD.of (by kernel_rfl)) ?_
  conv in lcOf _ _ => cbv
  conv in ntOf _ _ => cbv
  conv in rsOf _ _ => cbv
  simp only [RN, Nat.reduceAdd, Nat.reduceSub]
  have hb := hbox 0 H h0
  simp (maxSteps := 2000000) (disch := omega) only [↓RS, RZ, reduceCtorEq, reduceAdd, reduceLT, reduceLeDiff, List.reduceReplicate, reducePow, reduceDiv, reduceMod, reduceEqDiff, Nat.reduceBEq, hb]
  refine YC.mono ?_ (step 0 _ (Nat.zero_le _) h0)
  rintro v H1 (⟨rfl, h⟩ | ⟨rfl, h⟩)
  · have hb := hbox _ H1 h
    simp (maxSteps := 2000000) (disch := omega) only [↓RS, RZ, reduceCtorEq, reduceAdd, reduceLT, reduceLeDiff, List.reduceReplicate, reducePow, reduceDiv, reduceMod, reduceEqDiff, Nat.reduceBEq, hb, one_length]
    refine wp_lp (fun (i : Nat) J => ov [(0, .yld yb), (1, .ptr b 0 0), (11, .lst 1 (es.map fun v => [v])), (12, .prim (.int .i64 ((es.length : Nat) : Int))), (13, .prim (.int .i64 ((i : Nat) : Int)))] J 0 25) (fun i H => i ≤ es.length ∧ Inv (i + 1) H) (fun i => es.length - i) 0 rfl ⟨Nat.zero_le _, h⟩ ?_
    rintro i J H ⟨hi, hv⟩
    try conv in ov _ _ _ _ => simp only [ov, List.lookup, Option.getD_some, Option.getD_none, Nat.reduceAdd, Nat.reduceBEq]
    rcases Nat.lt_or_ge i es.length with hlt | hge
    · have g := one_getD hlt
      have st := step (i + 1) _ hlt hv
      simp (maxSteps := 2000000) (disch := omega) only [↓RS, RZ, reduceCtorEq, reduceAdd, reduceLT, reduceLeDiff, List.reduceReplicate, reducePow, reduceDiv, reduceMod, reduceEqDiff, Nat.reduceBEq, one_length, g]
      refine YC.mono ?_ st
      rintro v H' (⟨rfl, h⟩ | ⟨rfl, h⟩)
      · simp (maxSteps := 2000000) (disch := omega) only [↓RS, RZ, reduceCtorEq, reduceAdd, reduceLT, reduceLeDiff, List.reduceReplicate, reducePow, reduceDiv, reduceMod, reduceEqDiff, Nat.reduceBEq]
        exact lp_next (i + 1) rfl ⟨hlt, h⟩ (by omega)
      · simp (maxSteps := 2000000) (disch := omega) only [↓RS, RZ, reduceCtorEq, reduceAdd, reduceLT, reduceLeDiff, List.reduceReplicate, reducePow, reduceDiv, reduceMod, reduceEqDiff, Nat.reduceBEq]
        exact hF _ _ h
    · have hia : i = es.length := by omega
      subst hia
      simp (maxSteps := 2000000) (disch := omega) only [↓RS, RZ, reduceCtorEq, reduceAdd, reduceLT, reduceLeDiff, List.reduceReplicate, reducePow, reduceDiv, reduceMod, reduceEqDiff, Nat.reduceBEq, one_length]
      exact hK _ _ hv
  · simp (maxSteps := 2000000) (disch := omega) only [↓RS, RZ, reduceCtorEq, reduceAdd, reduceLT, reduceLeDiff, List.reduceReplicate, reducePow, reduceDiv, reduceMod, reduceEqDiff, Nat.reduceBEq]
    exact hF _ _ h

/-- A polygon of rings. -/
structure Rgs (L : List Pt) (Hs : List (List Pt)) : Prop where
  out : Ring L
  holes : ∀ h ∈ Hs, Ring h
  few : Hs.length ≤ 8
theorem Rgs.get {L : List Pt} {Hs : List (List Pt)} (h : Rgs L Hs) {i : Nat} (hi : i ≤ Hs.length) : Ring ((L :: Hs).getD i []) := by
  cases i with
  | zero => exact h.out
  | succ i =>
    rw [List.getD_cons_succ, List.getD_eq_getElem?_getD, List.getElem?_eq_getElem hi]
    exact h.holes _ (List.getElem_mem hi)
theorem ring_val {L : List Pt} {Hs : List (List Pt)} {i : Nat} (hi : i ≤ Hs.length) : (psV L :: Hs.map psV).getD i undefV = psV ((L :: Hs).getD i []) := by
  cases i with
  | zero => rfl
  | succ i =>
    rw [List.getD_cons_succ, List.getD_cons_succ, List.getD_eq_getElem?_getD, List.getD_eq_getElem?_getD, List.getElem?_map, List.getElem?_eq_getElem hi]; rfl
/-- The corners, and the edges, of the first rings. -/
def cornersTo (Ls : List (List Pt)) : Nat → List Pt
  | 0 => []
  | i + 1 => cornersTo Ls i ++ Ls.getD i []
theorem pc_prims (l : List Pt) : Prims (l.map pc) := by
  intro e he v hv
  obtain ⟨s, _, rfl⟩ := List.mem_map.1 he
  simp only [pc, List.mem_cons, List.not_mem_nil, or_false] at hv
  rcases hv with h | h | h | h | h | h <;> exact ⟨_, h⟩
theorem prims_cell {es : List (List V)} (h : Prims es) : ∀ y ∈ es, ∀ v ∈ y, cellV v = true := fun y hy v hv => by
  obtain ⟨x, rfl⟩ := h y hy v hv; rfl

end Go.Av
