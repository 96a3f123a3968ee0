/- Helping texts: Cv, Cw. -/
import Derived.Test.YtbidkolaahnbiaaGreatKCs
set_option linter.unusedSimpArgs false
set_option linter.unusedVariables false
set_option maxRecDepth 100000
set_option maxHeartbeats 16000000
open Nat (reduceAdd reduceLT reduceLeDiff reducePow reduceDiv reduceMod reduceEqDiff)
namespace Go.Av
open Go.RowKit
open Go.Proofs.Tryz (prog)
def orient (a b c : Pt) : Int := cmpQ (cross (b.sub a) (c.sub a)) 0
theorem cmpQ_abs (p q : Rat) : -1 ≤ cmpQ p q ∧ cmpQ p q ≤ 1 := by unfold cmpQ; (repeat' split) <;> omega
theorem cmpP_abs (p q : Pt) : -1 ≤ cmpP p q ∧ cmpP p q ≤ 1 := by unfold cmpP; split <;> exact cmpQ_abs _ _

theorem orient_pc (a b c : Pt) (h1 : hp a ≤ 2 ^ 26) (h2 : hp b ≤ 2 ^ 26) (h3 : hp c ≤ 2 ^ 26) : PC prog 210 [pV a, pV b, pV c] (.prim (.int .i64 (orient a b c))) := by
  have a1 := hp_sub b a; have a2 := hp_sub c a; have a3 := ht_cross (b.sub a) (c.sub a)
  refine PC_intro mixed (FnD.of (by kernel_rfl)) ?_
  conv in lcOf _ _ => cbv
  conv in ntOf _ _ => cbv
  conv in rsOf _ _ => cbv
  simp only [RN, Nat.reduceAdd, Nat.reduceSub]
  have s1 := vsub_pc b a (by omega) (by omega)
  have s2 := vsub_pc c a (by omega) (by omega)
  have s3 := vcross_pc (b.sub a) (c.sub a) (by omega) (by omega)
  have s4 := signQ_pc (cross (b.sub a) (c.sub a)) (by omega)
  simp (maxSteps := 2000000) (disch := omega) only [↓RS, RZ, reduceCtorEq, reduceAdd, reduceLT, reduceLeDiff, List.reduceReplicate, reducePow, reduceDiv, reduceMod, reduceEqDiff, Nat.reduceBEq, pV, ptV]
  first | refine cP (s1) ?_ | refine cD (s1) ?_
  simp (maxSteps := 2000000) (disch := omega) only [↓RS, RZ, reduceCtorEq, reduceAdd, reduceLT, reduceLeDiff, List.reduceReplicate, reducePow, reduceDiv, reduceMod, reduceEqDiff, Nat.reduceBEq, pV, ptV]
  first | refine cP (s2) ?_ | refine cD (s2) ?_
  simp (maxSteps := 2000000) (disch := omega) only [↓RS, RZ, reduceCtorEq, reduceAdd, reduceLT, reduceLeDiff, List.reduceReplicate, reducePow, reduceDiv, reduceMod, reduceEqDiff, Nat.reduceBEq, pV, ptV]
  first | refine cP (s3) ?_ | refine cD (s3) ?_
  simp (maxSteps := 2000000) (disch := omega) only [↓RS, RZ, reduceCtorEq, reduceAdd, reduceLT, reduceLeDiff, List.reduceReplicate, reducePow, reduceDiv, reduceMod, reduceEqDiff, Nat.reduceBEq, qV, rV]
  first | refine cP (s4) ?_ | refine cD (s4) ?_
  simp (maxSteps := 2000000) (disch := omega) only [↓RS, RZ, reduceCtorEq, reduceAdd, reduceLT, reduceLeDiff, List.reduceReplicate, reducePow, reduceDiv, reduceMod, reduceEqDiff, Nat.reduceBEq]
  try rfl

/-- Whether p lies on the segment from a to b. -/
def between (a b p : Pt) : Bool := decide (orient a b p = 0) && (decide (0 ≤ cmpP a p * cmpP p b) && (decide (cmpP a b ≠ 0) || decide (cmpP a p = 0)))
theorem between_pc (a b p : Pt) (h1 : hp a ≤ 2 ^ 26) (h2 : hp b ≤ 2 ^ 26) (h3 : hp p ≤ 2 ^ 26) : PC prog 134 [pV a, pV b, pV p] (.prim (.bool (between a b p))) := by
  refine PC_intro mixed (FnD.of (by kernel_rfl)) ?_
  conv in lcOf _ _ => cbv
  conv in ntOf _ _ => cbv
  conv in rsOf _ _ => cbv
  simp only [RN, Nat.reduceAdd, Nat.reduceSub]
  have s1 := orient_pc a b p h1 h2 h3
  have c1 := vcmp_pc a p (by omega) (by omega)
  have c2 := vcmp_pc p b (by omega) (by omega)
  have c3 := vcmp_pc a b (by omega) (by omega)
  have b1 := cmpP_abs a p
  have b2 := cmpP_abs p b
  unfold between
  generalize orient a b p = o at *
  generalize cmpP a p = x at *
  generalize cmpP p b = y at *
  generalize cmpP a b = z at *
  have hxy : x * y = -1 ∨ x * y = 0 ∨ x * y = 1 := by
    have hx : x = -1 ∨ x = 0 ∨ x = 1 := by omega
    have hy : y = -1 ∨ y = 0 ∨ y = 1 := by omega
    rcases hx with rfl | rfl | rfl <;> rcases hy with rfl | rfl | rfl <;> simp
  by_cases ho : o = 0
  · subst ho
    by_cases hx : 0 ≤ x * y
    · by_cases hz : z = 0
      · simp (maxSteps := 2000000) (disch := omega) only [↓RS, RZ, reduceCtorEq, reduceAdd, reduceLT, reduceLeDiff, List.reduceReplicate, reducePow, reduceDiv, reduceMod, reduceEqDiff, Nat.reduceBEq, pV, ptV]
        first | refine cP (s1) ?_ | refine cD (s1) ?_
        simp (maxSteps := 2000000) (disch := omega) only [↓RS, RZ, reduceCtorEq, reduceAdd, reduceLT, reduceLeDiff, List.reduceReplicate, reducePow, reduceDiv, reduceMod, reduceEqDiff, Nat.reduceBEq, pV, ptV]
        first | refine cP (c1) ?_ | refine cD (c1) ?_
        simp (maxSteps := 2000000) (disch := omega) only [↓RS, RZ, reduceCtorEq, reduceAdd, reduceLT, reduceLeDiff, List.reduceReplicate, reducePow, reduceDiv, reduceMod, reduceEqDiff, Nat.reduceBEq, pV, ptV]
        first | refine cP (c2) ?_ | refine cD (c2) ?_
        simp (maxSteps := 2000000) (disch := omega) only [↓RS, RZ, reduceCtorEq, reduceAdd, reduceLT, reduceLeDiff, List.reduceReplicate, reducePow, reduceDiv, reduceMod, reduceEqDiff, Nat.reduceBEq, pV, ptV]
        first | refine cP (c3) ?_ | refine cD (c3) ?_
        simp (maxSteps := 2000000) (disch := omega) only [↓RS, RZ, reduceCtorEq, reduceAdd, reduceLT, reduceLeDiff, List.reduceReplicate, reducePow, reduceDiv, reduceMod, reduceEqDiff, Nat.reduceBEq, pV, ptV]
        first | refine cP (c1) ?_ | refine cD (c1) ?_
        by_cases hx0 : x = 0
        · simp (maxSteps := 2000000) (disch := omega) only [↓RS, RZ, reduceCtorEq, reduceAdd, reduceLT, reduceLeDiff, List.reduceReplicate, reducePow, reduceDiv, reduceMod, reduceEqDiff, Nat.reduceBEq]
          try simp [hx0, hz, hx]
        · simp (maxSteps := 2000000) (disch := omega) only [↓RS, RZ, reduceCtorEq, reduceAdd, reduceLT, reduceLeDiff, List.reduceReplicate, reducePow, reduceDiv, reduceMod, reduceEqDiff, Nat.reduceBEq]
          try simp [hx0, hz, hx]
      · simp (maxSteps := 2000000) (disch := omega) only [↓RS, RZ, reduceCtorEq, reduceAdd, reduceLT, reduceLeDiff, List.reduceReplicate, reducePow, reduceDiv, reduceMod, reduceEqDiff, Nat.reduceBEq, pV, ptV]
        first | refine cP (s1) ?_ | refine cD (s1) ?_
        simp (maxSteps := 2000000) (disch := omega) only [↓RS, RZ, reduceCtorEq, reduceAdd, reduceLT, reduceLeDiff, List.reduceReplicate, reducePow, reduceDiv, reduceMod, reduceEqDiff, Nat.reduceBEq, pV, ptV]
        first | refine cP (c1) ?_ | refine cD (c1) ?_
        simp (maxSteps := 2000000) (disch := omega) only [↓RS, RZ, reduceCtorEq, reduceAdd, reduceLT, reduceLeDiff, List.reduceReplicate, reducePow, reduceDiv, reduceMod, reduceEqDiff, Nat.reduceBEq, pV, ptV]
        first | refine cP (c2) ?_ | refine cD (c2) ?_
        simp (maxSteps := 2000000) (disch := omega) only [↓RS, RZ, reduceCtorEq, reduceAdd, reduceLT, reduceLeDiff, List.reduceReplicate, reducePow, reduceDiv, reduceMod, reduceEqDiff, Nat.reduceBEq, pV, ptV]
        first | refine cP (c3) ?_ | refine cD (c3) ?_
        simp (maxSteps := 2000000) (disch := omega) only [↓RS, RZ, reduceCtorEq, reduceAdd, reduceLT, reduceLeDiff, List.reduceReplicate, reducePow, reduceDiv, reduceMod, reduceEqDiff, Nat.reduceBEq, pV, ptV]
        try simp [hz, hx]
    · simp (maxSteps := 2000000) (disch := omega) only [↓RS, RZ, reduceCtorEq, reduceAdd, reduceLT, reduceLeDiff, List.reduceReplicate, reducePow, reduceDiv, reduceMod, reduceEqDiff, Nat.reduceBEq, pV, ptV]
      first | refine cP (s1) ?_ | refine cD (s1) ?_
      simp (maxSteps := 2000000) (disch := omega) only [↓RS, RZ, reduceCtorEq, reduceAdd, reduceLT, reduceLeDiff, List.reduceReplicate, reducePow, reduceDiv, reduceMod, reduceEqDiff, Nat.reduceBEq, pV, ptV]
      first | refine cP (c1) ?_ | refine cD (c1) ?_
      simp (maxSteps := 2000000) (disch := omega) only [↓RS, RZ, reduceCtorEq, reduceAdd, reduceLT, reduceLeDiff, List.reduceReplicate, reducePow, reduceDiv, reduceMod, reduceEqDiff, Nat.reduceBEq, pV, ptV]
      first | refine cP (c2) ?_ | refine cD (c2) ?_
      simp (maxSteps := 2000000) (disch := omega) only [↓RS, RZ, reduceCtorEq, reduceAdd, reduceLT, reduceLeDiff, List.reduceReplicate, reducePow, reduceDiv, reduceMod, reduceEqDiff, Nat.reduceBEq, pV, ptV]
      try simp [hx]
  · simp (maxSteps := 2000000) (disch := omega) only [↓RS, RZ, reduceCtorEq, reduceAdd, reduceLT, reduceLeDiff, List.reduceReplicate, reducePow, reduceDiv, reduceMod, reduceEqDiff, Nat.reduceBEq, pV, ptV]
    first | refine cP (s1) ?_ | refine cD (s1) ?_
    simp (maxSteps := 2000000) (disch := omega) only [↓RS, RZ, reduceCtorEq, reduceAdd, reduceLT, reduceLeDiff, List.reduceReplicate, reducePow, reduceDiv, reduceMod, reduceEqDiff, Nat.reduceBEq]
    try simp [ho]
end Go.Av
set_option maxRecDepth 100000
set_option maxHeartbeats 16000000
open Nat (reduceAdd reduceLT reduceLeDiff reducePow reduceDiv reduceMod reduceEqDiff)
namespace Go.Av
open Go.RowKit
open Go.Proofs.Tryz (prog)
structure Sg where
  a : Pt
  b : Pt
theorem Sg.ext {p q : Sg} (h1 : p.a = q.a) (h2 : p.b = q.b) : p = q := by cases p; cases q; simp at h1 h2; simp [h1, h2]
instance : DecidableEq Sg := fun a b => decidable_of_iff (a.a = b.a ∧ a.b = b.b) ⟨fun h => Sg.ext h.1 h.2, fun h => by subst h; exact ⟨rfl, rfl⟩⟩
def s4V (A B C D : Rt) : V := .agg [.prim (.bool A.neg), .prim (.string (bs (A.num))), .prim (.string (bs (A.den))), .prim (.bool B.neg), .prim (.string (bs (B.num))), .prim (.string (bs (B.den))), .prim (.bool C.neg), .prim (.string (bs (C.num))), .prim (.string (bs (C.den))), .prim (.bool D.neg), .prim (.string (bs (D.num))), .prim (.string (bs (D.den)))]
def sgV (s : Sg) : V := s4V (can s.a.x) (can s.a.y) (can s.b.x) (can s.b.y)
def hs (s : Sg) : Nat := max (hp s.a) (hp s.b)
theorem hs_a (s : Sg) : hp s.a ≤ hs s := Nat.le_max_left _ _
theorem hs_b (s : Sg) : hp s.b ≤ hs s := Nat.le_max_right _ _
theorem hs_mk {a b : Pt} {k : Nat} (h1 : hp a ≤ k) (h2 : hp b ≤ k) : hs ⟨a, b⟩ ≤ k := Nat.max_le.2 ⟨h1, h2⟩
def pt0 : Pt := ⟨0, 0⟩
theorem add_pt0 (p : Pt) : p.add pt0 = p := Pt.ext (Rat.add_zero _) (Rat.add_zero _)
theorem ht_zero : ht 0 ≤ 1 := @ht_int 0 (by omega)
theorem hp_pt0 : hp pt0 ≤ 1 := hp_mk ht_zero ht_zero
theorem pV0 : pV pt0 = .agg [.prim (.bool false), .prim (.string (bs ([]))), .prim (.string (bs ([]))), .prim (.bool false), .prim (.string (bs ([]))), .prim (.string (bs ([])))] := by simp only [pV, ptV, pt0, can_zero]

theorem scan_pc (p : Pt) (h : hp p ≤ 2 ^ 30) : PC prog 306 [pV p] (pV p) := by
  have h0 := hp_pt0
  refine PC_intro mixed (FnD.of (by kernel_rfl)) ?_
  conv in lcOf _ _ => cbv
  conv in ntOf _ _ => cbv
  conv in rsOf _ _ => cbv
  simp only [RN, Nat.reduceAdd, Nat.reduceSub]
  have hh := vadd_pc p pt0 (by omega) (by omega)
  rw [add_pt0, pV0] at hh
  simp (maxSteps := 2000000) (disch := omega) only [↓RS, RZ, reduceCtorEq, reduceAdd, reduceLT, reduceLeDiff, List.reduceReplicate, reducePow, reduceDiv, reduceMod, reduceEqDiff, Nat.reduceBEq, pV, ptV]
  first | refine cP (hh) ?_ | refine cD (hh) ?_
  simp (maxSteps := 2000000) (disch := omega) only [↓RS, RZ, reduceCtorEq, reduceAdd, reduceLT, reduceLeDiff, List.reduceReplicate, reducePow, reduceDiv, reduceMod, reduceEqDiff, Nat.reduceBEq, pV, ptV]
  try rfl

theorem scheck_pc (s : Sg) (h : hs s ≤ 2 ^ 30) : PC prog 146 [sgV s] (.prim (.int .i64 (if cmpP s.a s.b = 0 then 12 else 0))) := by
  have := hs_a s; have := hs_b s
  refine PC_intro mixed (FnD.of (by kernel_rfl)) ?_
  conv in lcOf _ _ => cbv
  conv in ntOf _ _ => cbv
  conv in rsOf _ _ => cbv
  simp only [RN, Nat.reduceAdd, Nat.reduceSub]
  have c := vcmp_pc s.a s.b (by omega) (by omega)
  by_cases hc : cmpP s.a s.b = 0
  · rw [if_pos hc]
    rw [hc] at c
    simp (maxSteps := 2000000) (disch := omega) only [↓RS, RZ, reduceCtorEq, reduceAdd, reduceLT, reduceLeDiff, List.reduceReplicate, reducePow, reduceDiv, reduceMod, reduceEqDiff, Nat.reduceBEq, sgV, s4V]
    first | refine cP (c) ?_ | refine cD (c) ?_
    simp (maxSteps := 2000000) (disch := omega) only [↓RS, RZ, reduceCtorEq, reduceAdd, reduceLT, reduceLeDiff, List.reduceReplicate, reducePow, reduceDiv, reduceMod, reduceEqDiff, Nat.reduceBEq]
  · rw [if_neg hc]
    simp (maxSteps := 2000000) (disch := omega) only [↓RS, RZ, reduceCtorEq, reduceAdd, reduceLT, reduceLeDiff, List.reduceReplicate, reducePow, reduceDiv, reduceMod, reduceEqDiff, Nat.reduceBEq, sgV, s4V]
    first | refine cP (c) ?_ | refine cD (c) ?_
    simp (maxSteps := 2000000) (disch := omega) only [↓RS, RZ, reduceCtorEq, reduceAdd, reduceLT, reduceLeDiff, List.reduceReplicate, reducePow, reduceDiv, reduceMod, reduceEqDiff, Nat.reduceBEq]

def Sg.order (s : Sg) : Sg := if 0 < cmpP s.a s.b then ⟨s.b, s.a⟩ else s
theorem hs_order (s : Sg) : hs s.order = hs s := by unfold Sg.order; split <;> simp [hs, Nat.max_comm]
theorem sorder_pc (s : Sg) (h : hs s ≤ 2 ^ 30) : PC prog 275 [sgV s] (sgV s.order) := by
  have := hs_a s; have := hs_b s
  refine PC_intro mixed (FnD.of (by kernel_rfl)) ?_
  conv in lcOf _ _ => cbv
  conv in ntOf _ _ => cbv
  conv in rsOf _ _ => cbv
  simp only [RN, Nat.reduceAdd, Nat.reduceSub]
  have c1 := scan_pc s.a (by omega)
  have c2 := scan_pc s.b (by omega)
  have c := vcmp_pc s.a s.b (by omega) (by omega)
  by_cases hc : 0 < cmpP s.a s.b
  · rw [Sg.order, if_pos hc]
    simp (maxSteps := 2000000) (disch := omega) only [↓RS, RZ, reduceCtorEq, reduceAdd, reduceLT, reduceLeDiff, List.reduceReplicate, reducePow, reduceDiv, reduceMod, reduceEqDiff, Nat.reduceBEq, sgV, s4V]
    first | refine cP (c1) ?_ | refine cD (c1) ?_
    simp (maxSteps := 2000000) (disch := omega) only [↓RS, RZ, reduceCtorEq, reduceAdd, reduceLT, reduceLeDiff, List.reduceReplicate, reducePow, reduceDiv, reduceMod, reduceEqDiff, Nat.reduceBEq, pV, ptV]
    first | refine cP (c2) ?_ | refine cD (c2) ?_
    simp (maxSteps := 2000000) (disch := omega) only [↓RS, RZ, reduceCtorEq, reduceAdd, reduceLT, reduceLeDiff, List.reduceReplicate, reducePow, reduceDiv, reduceMod, reduceEqDiff, Nat.reduceBEq, pV, ptV]
    first | refine cP (c) ?_ | refine cD (c) ?_
    simp (maxSteps := 2000000) (disch := omega) only [↓RS, RZ, reduceCtorEq, reduceAdd, reduceLT, reduceLeDiff, List.reduceReplicate, reducePow, reduceDiv, reduceMod, reduceEqDiff, Nat.reduceBEq, sgV, s4V]
    try rfl
  · rw [Sg.order, if_neg hc]
    simp (maxSteps := 2000000) (disch := omega) only [↓RS, RZ, reduceCtorEq, reduceAdd, reduceLT, reduceLeDiff, List.reduceReplicate, reducePow, reduceDiv, reduceMod, reduceEqDiff, Nat.reduceBEq, sgV, s4V]
    first | refine cP (c1) ?_ | refine cD (c1) ?_
    simp (maxSteps := 2000000) (disch := omega) only [↓RS, RZ, reduceCtorEq, reduceAdd, reduceLT, reduceLeDiff, List.reduceReplicate, reducePow, reduceDiv, reduceMod, reduceEqDiff, Nat.reduceBEq, pV, ptV]
    first | refine cP (c2) ?_ | refine cD (c2) ?_
    simp (maxSteps := 2000000) (disch := omega) only [↓RS, RZ, reduceCtorEq, reduceAdd, reduceLT, reduceLeDiff, List.reduceReplicate, reducePow, reduceDiv, reduceMod, reduceEqDiff, Nat.reduceBEq, pV, ptV]
    first | refine cP (c) ?_ | refine cD (c) ?_
    simp (maxSteps := 2000000) (disch := omega) only [↓RS, RZ, reduceCtorEq, reduceAdd, reduceLT, reduceLeDiff, List.reduceReplicate, reducePow, reduceDiv, reduceMod, reduceEqDiff, Nat.reduceBEq, sgV, s4V]
    try rfl

def Sg.dir (s : Sg) : Pt := s.b.sub s.a
theorem hp_dir (s : Sg) : hp s.dir ≤ 2 * hs s + 1 := by have := hp_sub s.b s.a; have := hs_a s; have := hs_b s; unfold Sg.dir; omega
theorem sdir_pc (s : Sg) (h : hs s ≤ 2 ^ 30) : PC prog 203 [sgV s] (pV s.dir) := by
  have := hs_a s; have := hs_b s
  refine PC_intro mixed (FnD.of (by kernel_rfl)) ?_
  conv in lcOf _ _ => cbv
  conv in ntOf _ _ => cbv
  conv in rsOf _ _ => cbv
  simp only [RN, Nat.reduceAdd, Nat.reduceSub]
  have c := vsub_pc s.b s.a (by omega) (by omega)
  simp (maxSteps := 2000000) (disch := omega) only [↓RS, RZ, reduceCtorEq, reduceAdd, reduceLT, reduceLeDiff, List.reduceReplicate, reducePow, reduceDiv, reduceMod, reduceEqDiff, Nat.reduceBEq, sgV, s4V]
  first | refine cP (c) ?_ | refine cD (c) ?_
  simp (maxSteps := 2000000) (disch := omega) only [↓RS, RZ, reduceCtorEq, reduceAdd, reduceLT, reduceLeDiff, List.reduceReplicate, reducePow, reduceDiv, reduceMod, reduceEqDiff, Nat.reduceBEq, pV, ptV]
  try rfl

def unit (t : Rat) : Bool := decide (0 ≤ cmpQ t 0) && decide (cmpQ t 1 ≤ 0)
theorem unit_pc (t : Rat) (h : ht t ≤ 2 ^ 30) : PC prog 204 [qV t] (.prim (.bool (unit t))) := by
  refine PC_intro mixed (FnD.of (by kernel_rfl)) ?_
  conv in lcOf _ _ => cbv
  conv in ntOf _ _ => cbv
  conv in rsOf _ _ => cbv
  simp only [RN, Nat.reduceAdd, Nat.reduceSub]
  have h1 := @ht_int 1 (by omega)
  have s := signQ_pc t (by omega)
  have o := ofQ_pc 1 (by omega) (by omega)
  have c := cmpQ_pc t ((1 : Int) : Rat) (by omega) (by omega)
  have e : ((1 : Int) : Rat) = 1 := rfl
  rw [e] at c
  unfold unit
  by_cases h0 : 0 ≤ cmpQ t 0
  · simp (maxSteps := 2000000) (disch := omega) only [↓RS, RZ, reduceCtorEq, reduceAdd, reduceLT, reduceLeDiff, List.reduceReplicate, reducePow, reduceDiv, reduceMod, reduceEqDiff, Nat.reduceBEq, qV, rV]
    first | refine cP (s) ?_ | refine cD (s) ?_
    simp (maxSteps := 2000000) (disch := omega) only [↓RS, RZ, reduceCtorEq, reduceAdd, reduceLT, reduceLeDiff, List.reduceReplicate, reducePow, reduceDiv, reduceMod, reduceEqDiff, Nat.reduceBEq, qV, rV]
    first | refine cP (o) ?_ | refine cD (o) ?_
    simp (maxSteps := 2000000) (disch := omega) only [↓RS, RZ, reduceCtorEq, reduceAdd, reduceLT, reduceLeDiff, List.reduceReplicate, reducePow, reduceDiv, reduceMod, reduceEqDiff, Nat.reduceBEq, qV, rV]
    first | refine cP (c) ?_ | refine cD (c) ?_
    simp (maxSteps := 2000000) (disch := omega) only [↓RS, RZ, reduceCtorEq, reduceAdd, reduceLT, reduceLeDiff, List.reduceReplicate, reducePow, reduceDiv, reduceMod, reduceEqDiff, Nat.reduceBEq]
    try rfl
  · simp (maxSteps := 2000000) (disch := omega) only [↓RS, RZ, reduceCtorEq, reduceAdd, reduceLT, reduceLeDiff, List.reduceReplicate, reducePow, reduceDiv, reduceMod, reduceEqDiff, Nat.reduceBEq, qV, rV]
    first | refine cP (s) ?_ | refine cD (s) ?_
    simp (maxSteps := 2000000) (disch := omega) only [↓RS, RZ, reduceCtorEq, reduceAdd, reduceLT, reduceLeDiff, List.reduceReplicate, reducePow, reduceDiv, reduceMod, reduceEqDiff, Nat.reduceBEq]
    try simp [h0]

def greater (p q : Pt) : Pt := if cmpP p q < 0 then q else p
def lesser (p q : Pt) : Pt := if cmpP p q < 0 then p else q
theorem greater_pc (p q : Pt) (h1 : hp p ≤ 2 ^ 30) (h2 : hp q ≤ 2 ^ 30) : PC prog 276 [pV p, pV q] (pV (greater p q)) := by
  refine PC_intro mixed (FnD.of (by kernel_rfl)) ?_
  conv in lcOf _ _ => cbv
  conv in ntOf _ _ => cbv
  conv in rsOf _ _ => cbv
  simp only [RN, Nat.reduceAdd, Nat.reduceSub]
  have c := vcmp_pc p q (by omega) (by omega)
  by_cases h0 : cmpP p q < 0
  · rw [greater, if_pos h0]
    simp (maxSteps := 2000000) (disch := omega) only [↓RS, RZ, reduceCtorEq, reduceAdd, reduceLT, reduceLeDiff, List.reduceReplicate, reducePow, reduceDiv, reduceMod, reduceEqDiff, Nat.reduceBEq, pV, ptV]
    first | refine cP (c) ?_ | refine cD (c) ?_
    simp (maxSteps := 2000000) (disch := omega) only [↓RS, RZ, reduceCtorEq, reduceAdd, reduceLT, reduceLeDiff, List.reduceReplicate, reducePow, reduceDiv, reduceMod, reduceEqDiff, Nat.reduceBEq, pV, ptV]
  · rw [greater, if_neg h0]
    simp (maxSteps := 2000000) (disch := omega) only [↓RS, RZ, reduceCtorEq, reduceAdd, reduceLT, reduceLeDiff, List.reduceReplicate, reducePow, reduceDiv, reduceMod, reduceEqDiff, Nat.reduceBEq, pV, ptV]
    first | refine cP (c) ?_ | refine cD (c) ?_
    simp (maxSteps := 2000000) (disch := omega) only [↓RS, RZ, reduceCtorEq, reduceAdd, reduceLT, reduceLeDiff, List.reduceReplicate, reducePow, reduceDiv, reduceMod, reduceEqDiff, Nat.reduceBEq, pV, ptV]
theorem lesser_pc (p q : Pt) (h1 : hp p ≤ 2 ^ 30) (h2 : hp q ≤ 2 ^ 30) : PC prog 277 [pV p, pV q] (pV (lesser p q)) := by
  refine PC_intro mixed (FnD.of (by kernel_rfl)) ?_
  conv in lcOf _ _ => cbv
  conv in ntOf _ _ => cbv
  conv in rsOf _ _ => cbv
  simp only [RN, Nat.reduceAdd, Nat.reduceSub]
  have c := vcmp_pc p q (by omega) (by omega)
  by_cases h0 : cmpP p q < 0
  · rw [lesser, if_pos h0]
    simp (maxSteps := 2000000) (disch := omega) only [↓RS, RZ, reduceCtorEq, reduceAdd, reduceLT, reduceLeDiff, List.reduceReplicate, reducePow, reduceDiv, reduceMod, reduceEqDiff, Nat.reduceBEq, pV, ptV]
    first | refine cP (c) ?_ | refine cD (c) ?_
    simp (maxSteps := 2000000) (disch := omega) only [↓RS, RZ, reduceCtorEq, reduceAdd, reduceLT, reduceLeDiff, List.reduceReplicate, reducePow, reduceDiv, reduceMod, reduceEqDiff, Nat.reduceBEq, pV, ptV]
  · rw [lesser, if_neg h0]
    simp (maxSteps := 2000000) (disch := omega) only [↓RS, RZ, reduceCtorEq, reduceAdd, reduceLT, reduceLeDiff, List.reduceReplicate, reducePow, reduceDiv, reduceMod, reduceEqDiff, Nat.reduceBEq, pV, ptV]
    first | refine cP (c) ?_ | refine cD (c) ?_
    simp (maxSteps := 2000000) (disch := omega) only [↓RS, RZ, reduceCtorEq, reduceAdd, reduceLT, reduceLeDiff, List.reduceReplicate, reducePow, reduceDiv, reduceMod, reduceEqDiff, Nat.reduceBEq, pV, ptV]
end Go.Av
