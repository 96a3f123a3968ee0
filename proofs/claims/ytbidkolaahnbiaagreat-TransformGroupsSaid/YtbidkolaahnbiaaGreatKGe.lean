/- Helping texts: Ge. -/
import Derived.Test.YtbidkolaahnbiaaGreatKGd
import Derived.Test.YtbidkolaahnbiaaGreatKMb
set_option linter.unusedSimpArgs false
set_option linter.unusedVariables false
set_option maxRecDepth 100000
set_option maxHeartbeats 16000000
open Nat (reduceAdd reduceLT reduceLeDiff reducePow reduceDiv reduceMod reduceEqDiff)
namespace Go.Av
open Go.RowKit
open Go.Proofs.Tryz (prog)
def rtc (r : Rt) : List V := [.prim (.bool r.neg), .prim (.string (bs (r.num))), .prim (.string (bs (r.den)))]
theorem rtc_getD {l : List Rt} {k : Nat} (h : k < l.length) : (l.map rtc).getD k [] = rtc (l.getD k default) := by
  rw [List.getD_eq_getElem?_getD, List.getD_eq_getElem?_getD, List.getElem?_map, List.getElem?_eq_getElem h]; rfl
theorem rtc_length (l : List Rt) : (l.map rtc).length = l.length := List.length_map ..
theorem indexR_pc (l : List Rt) (f : FuncId) (p : Nat → Bool) (hl : l.length < 2 ^ 40) (hf : ∀ i, i < l.length → PC prog f [rV (l.getD i default)] (.prim (.bool (p i)))) :
    PC prog 168 [.lst 3 (l.map rtc), .clo f [] []] (.prim (.int .i64 (idxP l.length p))) := by
  refine PC_intro mixed (FnD.of (by kernel_rfl)) ?_
  conv in lcOf _ _ => cbv
  conv in ntOf _ _ => cbv
  conv in rsOf _ _ => cbv
  simp only [RN, Nat.reduceAdd, Nat.reduceSub]
  simp (maxSteps := 2000000) (disch := omega) only [↓RS, RZ, reduceCtorEq, reduceAdd, reduceLT, reduceLeDiff, List.reduceReplicate, reducePow, reduceDiv, reduceMod, reduceEqDiff, Nat.reduceBEq, rtc_length]
  refine wp_lp (fun (i : Nat) J => ov [(0, .lst 3 (l.map rtc)), (1, .clo f [] []), (4, .prim (.int .i64 (0))), (6, .lst 3 (l.map rtc)), (7, .prim (.int .i64 ((l.length : Nat) : Int))), (8, .prim (.int .i64 ((i : Nat) : Int)))] J 0 19) (fun i H => (i ≤ l.length ∧ ∀ j, j < i → p j = false) ∧ H = []) (fun i => l.length - i) 0 rfl ⟨⟨Nat.zero_le _, fun j hj => absurd hj (Nat.not_lt_zero j)⟩, rfl⟩ ?_
  rintro i J _ ⟨⟨hi, hp⟩, rfl⟩
  try conv in ov _ _ _ _ => simp only [ov, List.lookup, Option.getD_some, Option.getD_none, Nat.reduceAdd, Nat.reduceBEq]
  rcases Nat.lt_or_ge i l.length with hlt | hge
  · have g := rtc_getD hlt
    have h := hf i hlt
    simp (maxSteps := 2000000) (disch := omega) only [↓RS, RZ, reduceCtorEq, reduceAdd, reduceLT, reduceLeDiff, List.reduceReplicate, reducePow, reduceDiv, reduceMod, reduceEqDiff, Nat.reduceBEq, rtc_length, g, rtc]
    first | refine cP (h) ?_ | refine cD (h) ?_
    cases hpi : p i with
    | true =>
      rw [idxP_found hlt hpi hp]
      simp (maxSteps := 2000000) (disch := omega) only [↓RS, RZ, reduceCtorEq, reduceAdd, reduceLT, reduceLeDiff, List.reduceReplicate, reducePow, reduceDiv, reduceMod, reduceEqDiff, Nat.reduceBEq]
    | false =>
      simp (maxSteps := 2000000) (disch := omega) only [↓RS, RZ, reduceCtorEq, reduceAdd, reduceLT, reduceLeDiff, List.reduceReplicate, reducePow, reduceDiv, reduceMod, reduceEqDiff, Nat.reduceBEq]
      exact lp_next (i + 1) rfl ⟨⟨hlt, fun j hj => by
        rcases Nat.lt_or_ge j i with h | h
        · exact hp j h
        · rw [show j = i by omega]; exact hpi⟩, rfl⟩ (by omega)
  · have hia : i = l.length := by omega
    subst hia
    rw [idxP_none hp]
    simp (maxSteps := 2000000) (disch := omega) only [↓RS, RZ, reduceCtorEq, reduceAdd, reduceLT, reduceLeDiff, List.reduceReplicate, reducePow, reduceDiv, reduceMod, reduceEqDiff, Nat.reduceBEq, rtc_length]
theorem containsR_pc (l : List Rt) (f : FuncId) (p : Nat → Bool) (hl : l.length < 2 ^ 40) (hf : ∀ i, i < l.length → PC prog f [rV (l.getD i default)] (.prim (.bool (p i)))) :
    PC prog 78 [.lst 3 (l.map rtc), .clo f [] []] (.prim (.bool ((List.range l.length).any p))) := by
  refine PC_intro mixed (FnD.of (by kernel_rfl)) ?_
  conv in lcOf _ _ => cbv
  conv in ntOf _ _ => cbv
  conv in rsOf _ _ => cbv
  simp only [RN, Nat.reduceAdd, Nat.reduceSub]
  have h := indexR_pc l f p hl hf
  rw [← idxP_nonneg]
  simp (maxSteps := 2000000) (disch := omega) only [↓RS, RZ, reduceCtorEq, reduceAdd, reduceLT, reduceLeDiff, List.reduceReplicate, reducePow, reduceDiv, reduceMod, reduceEqDiff, Nat.reduceBEq]
  first | refine cP (h) ?_ | refine cD (h) ?_
  simp (maxSteps := 2000000) (disch := omega) only [↓RS, RZ, reduceCtorEq, reduceAdd, reduceLT, reduceLeDiff, List.reduceReplicate, reducePow, reduceDiv, reduceMod, reduceEqDiff, Nat.reduceBEq]
def big30 (r : Rt) : Bool := decide (30 < r.num.length) || decide (30 < r.den.length)
theorem great1_pc (r : Rt) (h : r.fit) : PC prog 79 [rV r] (.prim (.bool (big30 r))) := by
  have hm : maxLen < 2 ^ 63 := by decide
  obtain ⟨h1, h2⟩ := h
  unfold big30
  by_cases k1 : 30 < r.num.length
  · rw [decide_eq_true k1]
    refine PC_intro mixed (FnD.of (by kernel_rfl)) ?_
    conv in lcOf _ _ => cbv
    conv in ntOf _ _ => cbv
    conv in rsOf _ _ => cbv
    simp only [RN, Nat.reduceAdd, Nat.reduceSub]
    simp (maxSteps := 2000000) (disch := omega) only [↓RS, RZ, reduceCtorEq, reduceAdd, reduceLT, reduceLeDiff, List.reduceReplicate, reducePow, reduceDiv, reduceMod, reduceEqDiff, Nat.reduceBEq, rV]
  · rw [decide_eq_false k1]
    by_cases k2 : 30 < r.den.length
    · rw [decide_eq_true k2]
      refine PC_intro mixed (FnD.of (by kernel_rfl)) ?_
      conv in lcOf _ _ => cbv
      conv in ntOf _ _ => cbv
      conv in rsOf _ _ => cbv
      simp only [RN, Nat.reduceAdd, Nat.reduceSub]
      simp (maxSteps := 2000000) (disch := omega) only [↓RS, RZ, reduceCtorEq, reduceAdd, reduceLT, reduceLeDiff, List.reduceReplicate, reducePow, reduceDiv, reduceMod, reduceEqDiff, Nat.reduceBEq, rV]
    · rw [decide_eq_false k2]
      refine PC_intro mixed (FnD.of (by kernel_rfl)) ?_
      conv in lcOf _ _ => cbv
      conv in ntOf _ _ => cbv
      conv in rsOf _ _ => cbv
      simp only [RN, Nat.reduceAdd, Nat.reduceSub]
      simp (maxSteps := 2000000) (disch := omega) only [↓RS, RZ, reduceCtorEq, reduceAdd, reduceLT, reduceLeDiff, List.reduceReplicate, reducePow, reduceDiv, reduceMod, reduceEqDiff, Nat.reduceBEq, rV]
def anyBig (l : List Rt) : Bool := (List.range l.length).any fun i => big30 (l.getD i default)
theorem anyBig_get {l : List Rt} (h : anyBig l = false) {r : Rt} (hr : r ∈ l) : r.num.length ≤ 30 ∧ r.den.length ≤ 30 := by
  obtain ⟨i, hi, rfl⟩ := List.mem_iff_getElem.1 hr
  unfold anyBig at h
  have := anyTo_get h hi
  rw [List.getD_eq_getElem?_getD, List.getElem?_eq_getElem hi] at this
  unfold big30 at this
  simp only [Option.getD_some, Bool.or_eq_false_iff, decide_eq_false_iff_not] at this
  omega
theorem great14_pc (O : List Rp) (hs : List (List Rp)) (l : List Rt) (hr : Read O hs) (hn : l.length < 2 ^ 20) (hl : ∀ r ∈ l, r.fit) :
    PC prog 16 [pgV O hs, .lst 3 (l.map rtc)] (.prim (.bool (greatP O hs || anyBig l))) := by
  have hm : maxLen < 2 ^ 63 := by decide
  have g := greatP_pc O hs (by have := hr.n; omega) (by have := hr.o.1; omega) hr.o.2 (fun l hl => ⟨by have := (hr.h l hl).1; omega, (hr.h l hl).2⟩)
  have c := containsR_pc l 79 (fun i => big30 (l.getD i default)) (by omega) (fun i hi => great1_pc _ (hl _ (by rw [List.getD_eq_getElem?_getD, List.getElem?_eq_getElem hi]; exact List.getElem_mem hi)))
  rw [show (List.range l.length).any (fun i => big30 (l.getD i default)) = anyBig l from rfl] at c
  generalize anyBig l = y at *
  cases hx : greatP O hs with
  | true =>
    rw [hx] at g
    refine PC_intro mixed (FnD.of (by kernel_rfl)) ?_
    conv in lcOf _ _ => cbv
    conv in ntOf _ _ => cbv
    conv in rsOf _ _ => cbv
    simp only [RN, Nat.reduceAdd, Nat.reduceSub]
    simp (maxSteps := 2000000) (disch := omega) only [↓RS, RZ, reduceCtorEq, reduceAdd, reduceLT, reduceLeDiff, List.reduceReplicate, reducePow, reduceDiv, reduceMod, reduceEqDiff, Nat.reduceBEq, pgV, hsV, rpsV]
    first | refine cP (g) ?_ | refine cD (g) ?_
    simp (maxSteps := 2000000) (disch := omega) only [↓RS, RZ, reduceCtorEq, reduceAdd, reduceLT, reduceLeDiff, List.reduceReplicate, reducePow, reduceDiv, reduceMod, reduceEqDiff, Nat.reduceBEq]
  | false =>
    rw [hx] at g
    refine PC_intro mixed (FnD.of (by kernel_rfl)) ?_
    conv in lcOf _ _ => cbv
    conv in ntOf _ _ => cbv
    conv in rsOf _ _ => cbv
    simp only [RN, Nat.reduceAdd, Nat.reduceSub]
    simp (maxSteps := 2000000) (disch := omega) only [↓RS, RZ, reduceCtorEq, reduceAdd, reduceLT, reduceLeDiff, List.reduceReplicate, reducePow, reduceDiv, reduceMod, reduceEqDiff, Nat.reduceBEq, pgV, hsV, rpsV]
    first | refine cP (g) ?_ | refine cD (g) ?_
    simp (maxSteps := 2000000) (disch := omega) only [↓RS, RZ, reduceCtorEq, reduceAdd, reduceLT, reduceLeDiff, List.reduceReplicate, reducePow, reduceDiv, reduceMod, reduceEqDiff, Nat.reduceBEq]
    first | refine cP (c) ?_ | refine cD (c) ?_
    simp (maxSteps := 2000000) (disch := omega) only [↓RS, RZ, reduceCtorEq, reduceAdd, reduceLT, reduceLeDiff, List.reduceReplicate, reducePow, reduceDiv, reduceMod, reduceEqDiff, Nat.reduceBEq]
theorem greatP_12 {O : List Rp} {hs : List (List Rp)} (h : greatP O hs = false) : (∀ p ∈ O, p.le 12) ∧ ∀ i, i < hs.length → i < 11 → ∀ p ∈ hs.getD i [], p.le 12 := by
  unfold greatP at h
  simp only [Bool.or_eq_false_iff, decide_eq_false_iff_not] at h
  obtain ⟨h1, h2, h3, h4, h5, h6⟩ := h
  have one : ∀ {l : List Rp}, greatL l = false → ∀ p ∈ l, p.le 12 := by
    intro l hl p hp
    obtain ⟨i, hi, rfl⟩ := List.mem_iff_getElem.1 hp
    have := anyTo_get hl hi
    rw [List.getD_eq_getElem?_getD, List.getElem?_eq_getElem hi] at this
    unfold bigP at this
    simp only [Option.getD_some, Bool.or_eq_false_iff, decide_eq_false_iff_not] at this
    exact ⟨⟨by omega, by omega⟩, ⟨by omega, by omega⟩⟩
  refine ⟨one h3, fun i hi h11 => ?_⟩
  have := anyTo_get h4 (i := i) (by omega)
  simp only [Bool.or_eq_false_iff, decide_eq_false_iff_not] at this
  exact one this.2

/-- Arguments that are fine. -/
structure FineT (O : List Rp) (hs : List (List Rp)) (r v : Rp) (k : Rt) : Prop where
  f : Fine O hs
  few : hs.length ≤ 3
  leO : ∀ p ∈ O, p.le 12
  leH : ∀ l ∈ hs, ∀ p ∈ l, p.le 12
  rc : r.x = can r.x.val ∧ r.y = can r.y.val
  rr : isRot ⟨r.x.val, r.y.val⟩
  rl : r.le 30
  vc : v.x = can v.x.val ∧ v.y = can v.y.val
  vl : v.le 30
  kc : k = can k.val
  kl : k.le 30
theorem Rt.le_mono {r : Rt} {a b : Nat} (h : r.le a) (hab : a ≤ b) : r.le b := ⟨Nat.le_trans h.1 hab, Nat.le_trans h.2 hab⟩
theorem ptV_pV {p : Rp} (h : p.x = can p.x.val ∧ p.y = can p.y.val) : ptV p.x p.y = pV ⟨p.x.val, p.y.val⟩ := by
  show ptV p.x p.y = ptV (can p.x.val) (can p.y.val)
  rw [← h.1, ← h.2]
theorem hp_raw {p : Rp} (h : p.x = can p.x.val ∧ p.y = can p.y.val) (hl : p.le 30) : hp ⟨p.x.val, p.y.val⟩ ≤ 30 := by
  have h1 := hl.1
  have h2 := hl.2
  rw [h.1] at h1
  rw [h.2] at h2
  exact hp_mk (ht_of_le h1 (by omega)) (ht_of_le h2 (by omega))
theorem fineT_pc (O : List Rp) (hs : List (List Rp)) (r v : Rp) (k : Rt) (hr : Read O hs) (f1 : r.fit) (f2 : v.fit) (f3 : k.fit) :
    ∃ b, PC prog 33 [pgV O hs, ptV r.x r.y, ptV v.x v.y, rV k] (.prim (.bool b)) ∧ (b = true → FineT O hs r v k) := by
  have g := great14_pc O hs [r.x, r.y, v.x, v.y, k] hr (by simp) (fun x hx => by
    simp only [List.mem_cons, List.not_mem_nil, or_false] at hx
    rcases hx with rfl | rfl | rfl | rfl | rfl
    · exact f1.1
    · exact f1.2
    · exact f2.1
    · exact f2.2
    · exact f3)
  simp only [List.map_cons, List.map_nil, rtc] at g
  cases hg : greatP O hs || anyBig [r.x, r.y, v.x, v.y, k] with
  | true =>
    rw [hg] at g
    refine ⟨false, ?_, fun h => by cases h⟩
    refine PC_intro mixed (FnD.of (by kernel_rfl)) ?_
    conv in lcOf _ _ => cbv
    conv in ntOf _ _ => cbv
    conv in rsOf _ _ => cbv
    simp only [RN, Nat.reduceAdd, Nat.reduceSub]
    simp (maxSteps := 2000000) (disch := omega) only [↓RS, RZ, reduceCtorEq, reduceAdd, reduceLT, reduceLeDiff, List.reduceReplicate, reducePow, reduceDiv, reduceMod, reduceEqDiff, Nat.reduceBEq, pgV, hsV, rpsV, ptV, rV]
    first | refine cP (g) ?_ | refine cD (g) ?_
    simp (maxSteps := 2000000) (disch := omega) only [↓RS, RZ, reduceCtorEq, reduceAdd, reduceLT, reduceLeDiff, List.reduceReplicate, reducePow, reduceDiv, reduceMod, reduceEqDiff, Nat.reduceBEq]
  | false =>
    rw [hg] at g
    rw [Bool.or_eq_false_iff] at hg
    obtain ⟨hg1, hg2⟩ := hg
    obtain ⟨h1, h2, h3, h4⟩ := greatP_small hg1
    obtain ⟨l1, l2⟩ := greatP_12 hg1
    have rl : r.le 30 := ⟨anyBig_get hg2 (by simp), anyBig_get hg2 (by simp)⟩
    have vl : v.le 30 := ⟨anyBig_get hg2 (by simp), anyBig_get hg2 (by simp)⟩
    have kl : k.le 30 := anyBig_get hg2 (by simp)
    have c := Pcheck_pc O hs (by omega) (by omega) h2 h4
    have rc := rotCheck_pc r.x r.y (Rt.le_mono rl.1 (by omega)) (Rt.le_mono rl.2 (by omega))
    have vc := vcheck_pc v.x v.y (Rt.le_mono vl.1 (by omega)) (Rt.le_mono vl.2 (by omega))
    have kc := checkR2_pc k (Rt.le_mono kl (by omega))
    by_cases z1 : chkP O hs = 0
    · rw [z1] at c
      by_cases z2 : rotC r.x r.y = 0
      · rw [z2] at rc
        by_cases z3 : v.x = can v.x.val ∧ v.y = can v.y.val
        · rw [if_pos z3] at vc
          by_cases z4 : k = can k.val
          · rw [if_pos z4] at kc
            refine ⟨true, ?_, fun _ => ?_⟩
            · skip
              refine PC_intro mixed (FnD.of (by kernel_rfl)) ?_
              conv in lcOf _ _ => cbv
              conv in ntOf _ _ => cbv
              conv in rsOf _ _ => cbv
              simp only [RN, Nat.reduceAdd, Nat.reduceSub]
              simp (maxSteps := 2000000) (disch := omega) only [↓RS, RZ, reduceCtorEq, reduceAdd, reduceLT, reduceLeDiff, List.reduceReplicate, reducePow, reduceDiv, reduceMod, reduceEqDiff, Nat.reduceBEq, pgV, hsV, rpsV, ptV, rV]
              first | refine cP (g) ?_ | refine cD (g) ?_
              simp (maxSteps := 2000000) (disch := omega) only [↓RS, RZ, reduceCtorEq, reduceAdd, reduceLT, reduceLeDiff, List.reduceReplicate, reducePow, reduceDiv, reduceMod, reduceEqDiff, Nat.reduceBEq, pgV, hsV, rpsV]
              first | refine cP (c) ?_ | refine cD (c) ?_
              simp (maxSteps := 2000000) (disch := omega) only [↓RS, RZ, reduceCtorEq, reduceAdd, reduceLT, reduceLeDiff, List.reduceReplicate, reducePow, reduceDiv, reduceMod, reduceEqDiff, Nat.reduceBEq]
              first | refine cP (rc) ?_ | refine cD (rc) ?_
              simp (maxSteps := 2000000) (disch := omega) only [↓RS, RZ, reduceCtorEq, reduceAdd, reduceLT, reduceLeDiff, List.reduceReplicate, reducePow, reduceDiv, reduceMod, reduceEqDiff, Nat.reduceBEq]
              first | refine cP (vc) ?_ | refine cD (vc) ?_
              simp (maxSteps := 2000000) (disch := omega) only [↓RS, RZ, reduceCtorEq, reduceAdd, reduceLT, reduceLeDiff, List.reduceReplicate, reducePow, reduceDiv, reduceMod, reduceEqDiff, Nat.reduceBEq]
              first | refine cP (kc) ?_ | refine cD (kc) ?_
              simp (maxSteps := 2000000) (disch := omega) only [↓RS, RZ, reduceCtorEq, reduceAdd, reduceLT, reduceLeDiff, List.reduceReplicate, reducePow, reduceDiv, reduceMod, reduceEqDiff, Nat.reduceBEq]
            · have hf : Fine O hs := ⟨z1, h2, h4⟩
              have h8 := hf.few
              have few : hs.length ≤ 3 := by
                unfold greatP at hg1
                simp only [Bool.or_eq_false_iff, decide_eq_false_iff_not] at hg1
                omega
              unfold rotC at z2
              split at z2
              · rename_i q1
                split at z2
                · rename_i q2
                  refine ⟨hf, few, l1, fun l hl p hp => ?_, q1, q2, rl, z3, vl, z4, kl⟩
                  obtain ⟨i, hi, rfl⟩ := List.mem_iff_getElem.1 hl
                  refine l2 i hi (by omega) p ?_
                  rw [List.getD_eq_getElem?_getD, List.getElem?_eq_getElem hi]; exact hp
                · cases z2
              · cases z2
          · rw [if_neg z4] at kc
            refine ⟨false, ?_, fun h => by cases h⟩
            refine PC_intro mixed (FnD.of (by kernel_rfl)) ?_
            conv in lcOf _ _ => cbv
            conv in ntOf _ _ => cbv
            conv in rsOf _ _ => cbv
            simp only [RN, Nat.reduceAdd, Nat.reduceSub]
            simp (maxSteps := 2000000) (disch := omega) only [↓RS, RZ, reduceCtorEq, reduceAdd, reduceLT, reduceLeDiff, List.reduceReplicate, reducePow, reduceDiv, reduceMod, reduceEqDiff, Nat.reduceBEq, pgV, hsV, rpsV, ptV, rV]
            first | refine cP (g) ?_ | refine cD (g) ?_
            simp (maxSteps := 2000000) (disch := omega) only [↓RS, RZ, reduceCtorEq, reduceAdd, reduceLT, reduceLeDiff, List.reduceReplicate, reducePow, reduceDiv, reduceMod, reduceEqDiff, Nat.reduceBEq, pgV, hsV, rpsV]
            first | refine cP (c) ?_ | refine cD (c) ?_
            simp (maxSteps := 2000000) (disch := omega) only [↓RS, RZ, reduceCtorEq, reduceAdd, reduceLT, reduceLeDiff, List.reduceReplicate, reducePow, reduceDiv, reduceMod, reduceEqDiff, Nat.reduceBEq]
            first | refine cP (rc) ?_ | refine cD (rc) ?_
            simp (maxSteps := 2000000) (disch := omega) only [↓RS, RZ, reduceCtorEq, reduceAdd, reduceLT, reduceLeDiff, List.reduceReplicate, reducePow, reduceDiv, reduceMod, reduceEqDiff, Nat.reduceBEq]
            first | refine cP (vc) ?_ | refine cD (vc) ?_
            simp (maxSteps := 2000000) (disch := omega) only [↓RS, RZ, reduceCtorEq, reduceAdd, reduceLT, reduceLeDiff, List.reduceReplicate, reducePow, reduceDiv, reduceMod, reduceEqDiff, Nat.reduceBEq]
            first | refine cP (kc) ?_ | refine cD (kc) ?_
            simp (maxSteps := 2000000) (disch := omega) only [↓RS, RZ, reduceCtorEq, reduceAdd, reduceLT, reduceLeDiff, List.reduceReplicate, reducePow, reduceDiv, reduceMod, reduceEqDiff, Nat.reduceBEq]
        · rw [if_neg z3] at vc
          refine ⟨false, ?_, fun h => by cases h⟩
          refine PC_intro mixed (FnD.of (by kernel_rfl)) ?_
          conv in lcOf _ _ => cbv
          conv in ntOf _ _ => cbv
          conv in rsOf _ _ => cbv
          simp only [RN, Nat.reduceAdd, Nat.reduceSub]
          simp (maxSteps := 2000000) (disch := omega) only [↓RS, RZ, reduceCtorEq, reduceAdd, reduceLT, reduceLeDiff, List.reduceReplicate, reducePow, reduceDiv, reduceMod, reduceEqDiff, Nat.reduceBEq, pgV, hsV, rpsV, ptV, rV]
          first | refine cP (g) ?_ | refine cD (g) ?_
          simp (maxSteps := 2000000) (disch := omega) only [↓RS, RZ, reduceCtorEq, reduceAdd, reduceLT, reduceLeDiff, List.reduceReplicate, reducePow, reduceDiv, reduceMod, reduceEqDiff, Nat.reduceBEq, pgV, hsV, rpsV]
          first | refine cP (c) ?_ | refine cD (c) ?_
          simp (maxSteps := 2000000) (disch := omega) only [↓RS, RZ, reduceCtorEq, reduceAdd, reduceLT, reduceLeDiff, List.reduceReplicate, reducePow, reduceDiv, reduceMod, reduceEqDiff, Nat.reduceBEq]
          first | refine cP (rc) ?_ | refine cD (rc) ?_
          simp (maxSteps := 2000000) (disch := omega) only [↓RS, RZ, reduceCtorEq, reduceAdd, reduceLT, reduceLeDiff, List.reduceReplicate, reducePow, reduceDiv, reduceMod, reduceEqDiff, Nat.reduceBEq]
          first | refine cP (vc) ?_ | refine cD (vc) ?_
          simp (maxSteps := 2000000) (disch := omega) only [↓RS, RZ, reduceCtorEq, reduceAdd, reduceLT, reduceLeDiff, List.reduceReplicate, reducePow, reduceDiv, reduceMod, reduceEqDiff, Nat.reduceBEq]
      · refine ⟨false, ?_, fun h => by cases h⟩
        generalize rotC r.x r.y = z at *
        refine PC_intro mixed (FnD.of (by kernel_rfl)) ?_
        conv in lcOf _ _ => cbv
        conv in ntOf _ _ => cbv
        conv in rsOf _ _ => cbv
        simp only [RN, Nat.reduceAdd, Nat.reduceSub]
        simp (maxSteps := 2000000) (disch := omega) only [↓RS, RZ, reduceCtorEq, reduceAdd, reduceLT, reduceLeDiff, List.reduceReplicate, reducePow, reduceDiv, reduceMod, reduceEqDiff, Nat.reduceBEq, pgV, hsV, rpsV, ptV, rV]
        first | refine cP (g) ?_ | refine cD (g) ?_
        simp (maxSteps := 2000000) (disch := omega) only [↓RS, RZ, reduceCtorEq, reduceAdd, reduceLT, reduceLeDiff, List.reduceReplicate, reducePow, reduceDiv, reduceMod, reduceEqDiff, Nat.reduceBEq, pgV, hsV, rpsV]
        first | refine cP (c) ?_ | refine cD (c) ?_
        simp (maxSteps := 2000000) (disch := omega) only [↓RS, RZ, reduceCtorEq, reduceAdd, reduceLT, reduceLeDiff, List.reduceReplicate, reducePow, reduceDiv, reduceMod, reduceEqDiff, Nat.reduceBEq]
        first | refine cP (rc) ?_ | refine cD (rc) ?_
        simp (maxSteps := 2000000) (disch := omega) only [↓RS, RZ, reduceCtorEq, reduceAdd, reduceLT, reduceLeDiff, List.reduceReplicate, reducePow, reduceDiv, reduceMod, reduceEqDiff, Nat.reduceBEq]
    · refine ⟨false, ?_, fun h => by cases h⟩
      generalize chkP O hs = z at *
      refine PC_intro mixed (FnD.of (by kernel_rfl)) ?_
      conv in lcOf _ _ => cbv
      conv in ntOf _ _ => cbv
      conv in rsOf _ _ => cbv
      simp only [RN, Nat.reduceAdd, Nat.reduceSub]
      simp (maxSteps := 2000000) (disch := omega) only [↓RS, RZ, reduceCtorEq, reduceAdd, reduceLT, reduceLeDiff, List.reduceReplicate, reducePow, reduceDiv, reduceMod, reduceEqDiff, Nat.reduceBEq, pgV, hsV, rpsV, ptV, rV]
      first | refine cP (g) ?_ | refine cD (g) ?_
      simp (maxSteps := 2000000) (disch := omega) only [↓RS, RZ, reduceCtorEq, reduceAdd, reduceLT, reduceLeDiff, List.reduceReplicate, reducePow, reduceDiv, reduceMod, reduceEqDiff, Nat.reduceBEq, pgV, hsV, rpsV]
      first | refine cP (c) ?_ | refine cD (c) ?_
      simp (maxSteps := 2000000) (disch := omega) only [↓RS, RZ, reduceCtorEq, reduceAdd, reduceLT, reduceLeDiff, List.reduceReplicate, reducePow, reduceDiv, reduceMod, reduceEqDiff, Nat.reduceBEq]
end Go.Av
