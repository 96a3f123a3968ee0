/- Helping texts: Cy, Cz. -/
import Derived.Test.YtbidkolaahnbiaaGreatKCv
set_option linter.unusedSimpArgs false
set_option linter.unusedVariables false
set_option maxRecDepth 100000
set_option maxHeartbeats 16000000
open Nat (reduceAdd reduceLT reduceLeDiff reducePow reduceDiv reduceMod reduceEqDiff)
namespace Go.Av
open Go.RowKit
open Go.Proofs.Tryz (prog)
theorem cmpQ_zero {p q : Rat} : cmpQ p q = 0 ↔ p = q := by
  unfold cmpQ
  constructor
  · intro h
    split at h
    · omega
    · split at h
      · omega
      · rename_i h1 h2
        exact Rat.le_antisymm (Rat.not_lt.1 h2) (Rat.not_lt.1 h1)
  · rintro rfl
    rw [if_neg (Rat.lt_irrefl), if_neg (Rat.lt_irrefl)]
def sg0 : Sg := ⟨pt0, pt0⟩
theorem sgV0 : sgV sg0 = .agg [.prim (.bool false), .prim (.string (bs ([]))), .prim (.string (bs ([]))), .prim (.bool false), .prim (.string (bs ([]))), .prim (.string (bs ([]))), .prim (.bool false), .prim (.string (bs ([]))), .prim (.string (bs ([]))), .prim (.bool false), .prim (.string (bs ([]))), .prim (.string (bs ([])))] := by simp only [sgV, s4V, sg0, pt0, can_zero]

/-- The common points of two segments. -/
def meetS (s t : Sg) : Option Sg :=
  if cross s.dir t.dir ≠ 0 then
    if unit (cross (t.a.sub s.a) t.dir / cross s.dir t.dir) && unit (cross (t.a.sub s.a) s.dir / cross s.dir t.dir) then
      some ⟨s.a.at s.b (cross (t.a.sub s.a) t.dir / cross s.dir t.dir), s.a.at s.b (cross (t.a.sub s.a) t.dir / cross s.dir t.dir)⟩
    else none
  else if cross s.dir (t.a.sub s.a) ≠ 0 then none
  else if 0 < cmpP (greater s.order.a t.order.a) (lesser s.order.b t.order.b) then none
  else some ⟨greater s.order.a t.order.a, lesser s.order.b t.order.b⟩
def optV (o : Option Sg) : V := .tup [sgV (o.getD sg0), .prim (.bool o.isSome)]
theorem hp_greater (p q : Pt) : hp (greater p q) ≤ max (hp p) (hp q) := by unfold greater; split <;> omega
theorem hp_lesser (p q : Pt) : hp (lesser p q) ≤ max (hp p) (hp q) := by unfold lesser; split <;> omega

theorem smeet_pc (s t : Sg) (h1 : hs s ≤ 2 ^ 20) (h2 : hs t ≤ 2 ^ 20) : PC prog 222 [sgV s, sgV t] (optV (meetS s t)) := by
  have a1 := hp_dir s; have a2 := hp_dir t; have a3 := hp_sub t.a s.a; have a4 := hs_a s; have a5 := hs_a t; have a6 := hs_b s; have a7 := hs_b t
  have a8 := ht_cross s.dir t.dir
  have a9 := ht_cross (t.a.sub s.a) t.dir
  have a10 := ht_cross (t.a.sub s.a) s.dir
  have a11 := ht_cross s.dir (t.a.sub s.a)
  have a12 := ht_div (cross (t.a.sub s.a) t.dir) (cross s.dir t.dir)
  have a13 := ht_div (cross (t.a.sub s.a) s.dir) (cross s.dir t.dir)
  refine PC_intro mixed (FnD.of (by kernel_rfl)) ?_
  conv in lcOf _ _ => cbv
  conv in ntOf _ _ => cbv
  conv in rsOf _ _ => cbv
  simp only [RN, Nat.reduceAdd, Nat.reduceSub]
  have d1 := sdir_pc s (by omega)
  have d2 := sdir_pc t (by omega)
  have d3 := vsub_pc t.a s.a (by omega) (by omega)
  have c1 := vcross_pc s.dir t.dir (by omega) (by omega)
  have c2 := vcross_pc (t.a.sub s.a) t.dir (by omega) (by omega)
  have c3 := vcross_pc (t.a.sub s.a) s.dir (by omega) (by omega)
  have c4 := vcross_pc s.dir (t.a.sub s.a) (by omega) (by omega)
  have g1 := signQ_pc (cross s.dir t.dir) (by omega)
  have g2 := signQ_pc (cross s.dir (t.a.sub s.a)) (by omega)
  have o1 := sorder_pc s (by omega)
  have o2 := sorder_pc t (by omega)
  have b1 := hs_order s; have b2 := hs_order t
  have b3 := hs_a s.order; have b4 := hs_b s.order; have b5 := hs_a t.order; have b6 := hs_b t.order
  have k1 := greater_pc s.order.a t.order.a (by omega) (by omega)
  have k2 := lesser_pc s.order.b t.order.b (by omega) (by omega)
  have b7 := hp_greater s.order.a t.order.a; have b8 := hp_lesser s.order.b t.order.b
  have k3 := vcmp_pc (greater s.order.a t.order.a) (lesser s.order.b t.order.b) (by omega) (by omega)
  have q1 := fun h => quoQ_pc (cross (t.a.sub s.a) t.dir) (cross s.dir t.dir) (by omega) (by omega) h
  have q2 := fun h => quoQ_pc (cross (t.a.sub s.a) s.dir) (cross s.dir t.dir) (by omega) (by omega) h
  have u1 := unit_pc (cross (t.a.sub s.a) t.dir / cross s.dir t.dir) (by omega)
  have u2 := unit_pc (cross (t.a.sub s.a) s.dir / cross s.dir t.dir) (by omega)
  have p1 := vat_pc s.a s.b (cross (t.a.sub s.a) t.dir / cross s.dir t.dir) (by omega) (by omega) (by omega)
  have z1 : cmpQ (cross s.dir t.dir) 0 = 0 ↔ cross s.dir t.dir = 0 := cmpQ_zero
  have z2 : cmpQ (cross s.dir (t.a.sub s.a)) 0 = 0 ↔ cross s.dir (t.a.sub s.a) = 0 := cmpQ_zero
  have none_eq : optV none = .tup [.agg [.prim (.bool false), .prim (.string (bs ([]))), .prim (.string (bs ([]))), .prim (.bool false), .prim (.string (bs ([]))), .prim (.string (bs ([]))), .prim (.bool false), .prim (.string (bs ([]))), .prim (.string (bs ([]))), .prim (.bool false), .prim (.string (bs ([]))), .prim (.string (bs ([])))], .prim (.bool false)] := by unfold optV; rw [Option.getD_none, sgV0]; rfl
  clear a1 a2 a3 a4 a5 a6 a7 a8 a9 a10 a11 a12 a13 b1 b2 b3 b4 b5 b6 b7 b8
  simp (maxSteps := 2000000) (disch := omega) only [↓RS, RZ, reduceCtorEq, reduceAdd, reduceLT, reduceLeDiff, List.reduceReplicate, reducePow, reduceDiv, reduceMod, reduceEqDiff, Nat.reduceBEq, sgV, s4V]
  first | refine cP (d1) ?_ | refine cD (d1) ?_
  simp (maxSteps := 2000000) (disch := omega) only [↓RS, RZ, reduceCtorEq, reduceAdd, reduceLT, reduceLeDiff, List.reduceReplicate, reducePow, reduceDiv, reduceMod, reduceEqDiff, Nat.reduceBEq, pV, ptV]
  first | refine cP (d2) ?_ | refine cD (d2) ?_
  simp (maxSteps := 2000000) (disch := omega) only [↓RS, RZ, reduceCtorEq, reduceAdd, reduceLT, reduceLeDiff, List.reduceReplicate, reducePow, reduceDiv, reduceMod, reduceEqDiff, Nat.reduceBEq, pV, ptV]
  first | refine cP (d3) ?_ | refine cD (d3) ?_
  simp (maxSteps := 2000000) (disch := omega) only [↓RS, RZ, reduceCtorEq, reduceAdd, reduceLT, reduceLeDiff, List.reduceReplicate, reducePow, reduceDiv, reduceMod, reduceEqDiff, Nat.reduceBEq, pV, ptV]
  first | refine cP (c1) ?_ | refine cD (c1) ?_
  simp (maxSteps := 2000000) (disch := omega) only [↓RS, RZ, reduceCtorEq, reduceAdd, reduceLT, reduceLeDiff, List.reduceReplicate, reducePow, reduceDiv, reduceMod, reduceEqDiff, Nat.reduceBEq, qV, rV]
  first | refine cP (g1) ?_ | refine cD (g1) ?_
  by_cases hd : cross s.dir t.dir = 0
  · have hz := z1.2 hd
    simp (maxSteps := 2000000) (disch := omega) only [↓RS, RZ, reduceCtorEq, reduceAdd, reduceLT, reduceLeDiff, List.reduceReplicate, reducePow, reduceDiv, reduceMod, reduceEqDiff, Nat.reduceBEq, pV, ptV]
    first | refine cP (c4) ?_ | refine cD (c4) ?_
    simp (maxSteps := 2000000) (disch := omega) only [↓RS, RZ, reduceCtorEq, reduceAdd, reduceLT, reduceLeDiff, List.reduceReplicate, reducePow, reduceDiv, reduceMod, reduceEqDiff, Nat.reduceBEq, qV, rV]
    first | refine cP (g2) ?_ | refine cD (g2) ?_
    by_cases hw : cross s.dir (t.a.sub s.a) = 0
    · have hz2 := z2.2 hw
      simp (maxSteps := 2000000) (disch := omega) only [↓RS, RZ, reduceCtorEq, reduceAdd, reduceLT, reduceLeDiff, List.reduceReplicate, reducePow, reduceDiv, reduceMod, reduceEqDiff, Nat.reduceBEq, sgV, s4V]
      first | refine cP (o1) ?_ | refine cD (o1) ?_
      simp (maxSteps := 2000000) (disch := omega) only [↓RS, RZ, reduceCtorEq, reduceAdd, reduceLT, reduceLeDiff, List.reduceReplicate, reducePow, reduceDiv, reduceMod, reduceEqDiff, Nat.reduceBEq, sgV, s4V]
      first | refine cP (o2) ?_ | refine cD (o2) ?_
      simp (maxSteps := 2000000) (disch := omega) only [↓RS, RZ, reduceCtorEq, reduceAdd, reduceLT, reduceLeDiff, List.reduceReplicate, reducePow, reduceDiv, reduceMod, reduceEqDiff, Nat.reduceBEq, sgV, s4V]
      first | refine cP (k1) ?_ | refine cD (k1) ?_
      simp (maxSteps := 2000000) (disch := omega) only [↓RS, RZ, reduceCtorEq, reduceAdd, reduceLT, reduceLeDiff, List.reduceReplicate, reducePow, reduceDiv, reduceMod, reduceEqDiff, Nat.reduceBEq, pV, ptV]
      first | refine cP (k2) ?_ | refine cD (k2) ?_
      simp (maxSteps := 2000000) (disch := omega) only [↓RS, RZ, reduceCtorEq, reduceAdd, reduceLT, reduceLeDiff, List.reduceReplicate, reducePow, reduceDiv, reduceMod, reduceEqDiff, Nat.reduceBEq, pV, ptV]
      first | refine cP (k3) ?_ | refine cD (k3) ?_
      by_cases hc : 0 < cmpP (greater s.order.a t.order.a) (lesser s.order.b t.order.b)
      · rw [meetS, if_neg (fun h => h hd), if_neg (fun h => h hw), if_pos hc, none_eq]
        simp (maxSteps := 2000000) (disch := omega) only [↓RS, RZ, reduceCtorEq, reduceAdd, reduceLT, reduceLeDiff, List.reduceReplicate, reducePow, reduceDiv, reduceMod, reduceEqDiff, Nat.reduceBEq]
        try rfl
      · rw [meetS, if_neg (fun h => h hd), if_neg (fun h => h hw), if_neg hc]
        simp (maxSteps := 2000000) (disch := omega) only [↓RS, RZ, reduceCtorEq, reduceAdd, reduceLT, reduceLeDiff, List.reduceReplicate, reducePow, reduceDiv, reduceMod, reduceEqDiff, Nat.reduceBEq, pV, ptV]
        try rfl
    · have hz2 : cmpQ (cross s.dir (t.a.sub s.a)) 0 ≠ 0 := fun h => hw (z2.1 h)
      rw [meetS, if_neg (fun h => h hd), if_pos hw, none_eq]
      simp (maxSteps := 2000000) (disch := omega) only [↓RS, RZ, reduceCtorEq, reduceAdd, reduceLT, reduceLeDiff, List.reduceReplicate, reducePow, reduceDiv, reduceMod, reduceEqDiff, Nat.reduceBEq]
      try rfl
  · have hz : cmpQ (cross s.dir t.dir) 0 ≠ 0 := fun h => hd (z1.1 h)
    have q1 := q1 hd
    have q2 := q2 hd
    simp (maxSteps := 2000000) (disch := omega) only [↓RS, RZ, reduceCtorEq, reduceAdd, reduceLT, reduceLeDiff, List.reduceReplicate, reducePow, reduceDiv, reduceMod, reduceEqDiff, Nat.reduceBEq, pV, ptV]
    first | refine cP (c2) ?_ | refine cD (c2) ?_
    simp (maxSteps := 2000000) (disch := omega) only [↓RS, RZ, reduceCtorEq, reduceAdd, reduceLT, reduceLeDiff, List.reduceReplicate, reducePow, reduceDiv, reduceMod, reduceEqDiff, Nat.reduceBEq, qV, rV]
    first | refine cP (q1) ?_ | refine cD (q1) ?_
    simp (maxSteps := 2000000) (disch := omega) only [↓RS, RZ, reduceCtorEq, reduceAdd, reduceLT, reduceLeDiff, List.reduceReplicate, reducePow, reduceDiv, reduceMod, reduceEqDiff, Nat.reduceBEq, pV, ptV, qV, rV]
    first | refine cP (c3) ?_ | refine cD (c3) ?_
    simp (maxSteps := 2000000) (disch := omega) only [↓RS, RZ, reduceCtorEq, reduceAdd, reduceLT, reduceLeDiff, List.reduceReplicate, reducePow, reduceDiv, reduceMod, reduceEqDiff, Nat.reduceBEq, qV, rV]
    first | refine cP (q2) ?_ | refine cD (q2) ?_
    simp (maxSteps := 2000000) (disch := omega) only [↓RS, RZ, reduceCtorEq, reduceAdd, reduceLT, reduceLeDiff, List.reduceReplicate, reducePow, reduceDiv, reduceMod, reduceEqDiff, Nat.reduceBEq, qV, rV]
    first | refine cP (u1) ?_ | refine cD (u1) ?_
    cases hu1 : unit (cross (t.a.sub s.a) t.dir / cross s.dir t.dir) with
    | false =>
      rw [meetS, if_pos hd, hu1, Bool.false_and, if_neg (by simp), none_eq]
      simp (maxSteps := 2000000) (disch := omega) only [↓RS, RZ, reduceCtorEq, reduceAdd, reduceLT, reduceLeDiff, List.reduceReplicate, reducePow, reduceDiv, reduceMod, reduceEqDiff, Nat.reduceBEq, qV, rV]
      try rfl
    | true =>
      simp (maxSteps := 2000000) (disch := omega) only [↓RS, RZ, reduceCtorEq, reduceAdd, reduceLT, reduceLeDiff, List.reduceReplicate, reducePow, reduceDiv, reduceMod, reduceEqDiff, Nat.reduceBEq, qV, rV]
      first | refine cP (u2) ?_ | refine cD (u2) ?_
      cases hu2 : unit (cross (t.a.sub s.a) s.dir / cross s.dir t.dir) with
      | false =>
        rw [meetS, if_pos hd, hu1, hu2, if_neg (by simp), none_eq]
        simp (maxSteps := 2000000) (disch := omega) only [↓RS, RZ, reduceCtorEq, reduceAdd, reduceLT, reduceLeDiff, List.reduceReplicate, reducePow, reduceDiv, reduceMod, reduceEqDiff, Nat.reduceBEq, qV, rV]
        try rfl
      | true =>
        rw [meetS, if_pos hd, hu1, hu2, if_pos (by simp)]
        simp (maxSteps := 2000000) (disch := omega) only [↓RS, RZ, reduceCtorEq, reduceAdd, reduceLT, reduceLeDiff, List.reduceReplicate, reducePow, reduceDiv, reduceMod, reduceEqDiff, Nat.reduceBEq, qV, rV, pV, ptV]
        first | refine cP (p1) ?_ | refine cD (p1) ?_
        simp (maxSteps := 2000000) (disch := omega) only [↓RS, RZ, reduceCtorEq, reduceAdd, reduceLT, reduceLeDiff, List.reduceReplicate, reducePow, reduceDiv, reduceMod, reduceEqDiff, Nat.reduceBEq, qV, rV, pV, ptV]
        try rfl
end Go.Av
set_option maxRecDepth 100000
set_option maxHeartbeats 16000000
open Nat (reduceAdd reduceLT reduceLeDiff reducePow reduceDiv reduceMod reduceEqDiff)
namespace Go.Av
open Go.RowKit
open Go.Proofs.Tryz (prog)
def Sg.ok (s : Sg) : Prop := cmpP s.a s.b ≠ 0
instance (s : Sg) : Decidable s.ok := inferInstanceAs (Decidable (_ ≠ _))

theorem swrong_pc (s t : Sg) (h1 : hs s ≤ 2 ^ 20) (h2 : hs t ≤ 2 ^ 20) : PC prog 221 [sgV s, sgV t] (.prim (.bool (!(decide s.ok && decide t.ok)))) := by
  refine PC_intro mixed (FnD.of (by kernel_rfl)) ?_
  conv in lcOf _ _ => cbv
  conv in ntOf _ _ => cbv
  conv in rsOf _ _ => cbv
  simp only [RN, Nat.reduceAdd, Nat.reduceSub]
  have c1 := scheck_pc s (by omega)
  have c2 := scheck_pc t (by omega)
  by_cases hs1 : cmpP s.a s.b = 0
  · have e : decide s.ok = false := decide_eq_false (fun h => h hs1)
    rw [if_pos hs1] at c1
    rw [e]
    simp (maxSteps := 2000000) (disch := omega) only [↓RS, RZ, reduceCtorEq, reduceAdd, reduceLT, reduceLeDiff, List.reduceReplicate, reducePow, reduceDiv, reduceMod, reduceEqDiff, Nat.reduceBEq, sgV, s4V]
    first | refine cP (c1) ?_ | refine cD (c1) ?_
    simp (maxSteps := 2000000) (disch := omega) only [↓RS, RZ, reduceCtorEq, reduceAdd, reduceLT, reduceLeDiff, List.reduceReplicate, reducePow, reduceDiv, reduceMod, reduceEqDiff, Nat.reduceBEq]
    try rfl
  · have e : decide s.ok = true := decide_eq_true hs1
    rw [if_neg hs1] at c1
    rw [e]
    by_cases hs2 : cmpP t.a t.b = 0
    · have e : decide t.ok = false := decide_eq_false (fun h => h hs2)
      rw [if_pos hs2] at c2
      rw [e]
      simp (maxSteps := 2000000) (disch := omega) only [↓RS, RZ, reduceCtorEq, reduceAdd, reduceLT, reduceLeDiff, List.reduceReplicate, reducePow, reduceDiv, reduceMod, reduceEqDiff, Nat.reduceBEq, sgV, s4V]
      first | refine cP (c1) ?_ | refine cD (c1) ?_
      simp (maxSteps := 2000000) (disch := omega) only [↓RS, RZ, reduceCtorEq, reduceAdd, reduceLT, reduceLeDiff, List.reduceReplicate, reducePow, reduceDiv, reduceMod, reduceEqDiff, Nat.reduceBEq]
      first | refine cP (c2) ?_ | refine cD (c2) ?_
      simp (maxSteps := 2000000) (disch := omega) only [↓RS, RZ, reduceCtorEq, reduceAdd, reduceLT, reduceLeDiff, List.reduceReplicate, reducePow, reduceDiv, reduceMod, reduceEqDiff, Nat.reduceBEq]
      try rfl
    · have e : decide t.ok = true := decide_eq_true hs2
      rw [if_neg hs2] at c2
      rw [e]
      simp (maxSteps := 2000000) (disch := omega) only [↓RS, RZ, reduceCtorEq, reduceAdd, reduceLT, reduceLeDiff, List.reduceReplicate, reducePow, reduceDiv, reduceMod, reduceEqDiff, Nat.reduceBEq, sgV, s4V]
      first | refine cP (c1) ?_ | refine cD (c1) ?_
      simp (maxSteps := 2000000) (disch := omega) only [↓RS, RZ, reduceCtorEq, reduceAdd, reduceLT, reduceLeDiff, List.reduceReplicate, reducePow, reduceDiv, reduceMod, reduceEqDiff, Nat.reduceBEq]
      first | refine cP (c2) ?_ | refine cD (c2) ?_
      simp (maxSteps := 2000000) (disch := omega) only [↓RS, RZ, reduceCtorEq, reduceAdd, reduceLT, reduceLeDiff, List.reduceReplicate, reducePow, reduceDiv, reduceMod, reduceEqDiff, Nat.reduceBEq]
      try rfl

/-- What Meet answers. -/
def meetM (s t : Sg) : Option Sg := if s.ok ∧ t.ok then meetS s t else none
theorem Smeet_pc (s t : Sg) (h1 : hs s ≤ 2 ^ 20) (h2 : hs t ≤ 2 ^ 20) : PC prog 150 [sgV s, sgV t] (.tup [sgV ((meetM s t).getD sg0), .prim (.bool (meetM s t).isSome), .prim (.int .i64 (if s.ok ∧ t.ok then 0 else 12))]) := by
  refine PC_intro mixed (FnD.of (by kernel_rfl)) ?_
  conv in lcOf _ _ => cbv
  conv in ntOf _ _ => cbv
  conv in rsOf _ _ => cbv
  simp only [RN, Nat.reduceAdd, Nat.reduceSub]
  have w := swrong_pc s t h1 h2
  have m := smeet_pc s t h1 h2
  by_cases hok : s.ok ∧ t.ok
  · have e : (!(decide s.ok && decide t.ok)) = false := by simp [hok.1, hok.2]
    rw [e] at w
    rw [meetM, if_pos hok, if_pos hok]
    generalize meetS s t = o at *
    simp (maxSteps := 2000000) (disch := omega) only [↓RS, RZ, reduceCtorEq, reduceAdd, reduceLT, reduceLeDiff, List.reduceReplicate, reducePow, reduceDiv, reduceMod, reduceEqDiff, Nat.reduceBEq, sgV, s4V]
    first | refine cP (w) ?_ | refine cD (w) ?_
    simp (maxSteps := 2000000) (disch := omega) only [↓RS, RZ, reduceCtorEq, reduceAdd, reduceLT, reduceLeDiff, List.reduceReplicate, reducePow, reduceDiv, reduceMod, reduceEqDiff, Nat.reduceBEq]
    first | refine cP (m) ?_ | refine cD (m) ?_
    simp (maxSteps := 2000000) (disch := omega) only [↓RS, RZ, reduceCtorEq, reduceAdd, reduceLT, reduceLeDiff, List.reduceReplicate, reducePow, reduceDiv, reduceMod, reduceEqDiff, Nat.reduceBEq, optV, sgV, s4V]
    try rfl
  · have e : (!(decide s.ok && decide t.ok)) = true := by
      rw [← Bool.decide_and, decide_eq_false hok]; rfl
    rw [e] at w
    rw [meetM, if_neg hok, if_neg hok, Option.getD_none, sgV0, Option.isSome_none]
    simp (maxSteps := 2000000) (disch := omega) only [↓RS, RZ, reduceCtorEq, reduceAdd, reduceLT, reduceLeDiff, List.reduceReplicate, reducePow, reduceDiv, reduceMod, reduceEqDiff, Nat.reduceBEq, sgV, s4V]
    first | refine cP (w) ?_ | refine cD (w) ?_
    simp (maxSteps := 2000000) (disch := omega) only [↓RS, RZ, reduceCtorEq, reduceAdd, reduceLT, reduceLeDiff, List.reduceReplicate, reducePow, reduceDiv, reduceMod, reduceEqDiff, Nat.reduceBEq]
    try rfl

/-- What Height answers: a number and an error number. -/
def heightS (s : Sg) (x : Rat) : Rat × Int :=
  if ¬ s.ok then (0, 12) else if s.dir.x = 0 then (0, 24) else if unit ((x - s.a.x) / s.dir.x) then (s.a.y + (x - s.a.x) / s.dir.x * s.dir.y, 0) else (0, 14)
theorem qV0 : qV 0 = .agg [.prim (.bool false), .prim (.string (bs ([]))), .prim (.string (bs ([])))] := by simp only [qV, rV, can_zero]
theorem height_pc (s : Sg) (x : Rat) (h1 : hs s ≤ 2 ^ 20) (h2 : ht x ≤ 2 ^ 20) : PC prog 131 [sgV s, qV x] (.tup [qV (heightS s x).1, .prim (.int .i64 ((heightS s x).2))]) := by
  have a1 := hp_dir s; have a2 := hp_x s.dir; have a3 := hp_y s.dir; have a4 := hs_a s; have a5 := hp_x s.a; have a6 := hp_y s.a
  have a7 := ht_sub x s.a.x
  have a8 := ht_div (x - s.a.x) s.dir.x
  have a9 := ht_mul ((x - s.a.x) / s.dir.x) s.dir.y
  refine PC_intro mixed (FnD.of (by kernel_rfl)) ?_
  conv in lcOf _ _ => cbv
  conv in ntOf _ _ => cbv
  conv in rsOf _ _ => cbv
  simp only [RN, Nat.reduceAdd, Nat.reduceSub]
  have c := scheck_pc s (by omega)
  have d := sdir_pc s (by omega)
  have e := subQ_pc x s.a.x (by omega) (by omega)
  have q1 := fun h => quoQ_pc (x - s.a.x) s.dir.x (by omega) (by omega) h
  have q0 := fun h => quo0_pc (x - s.a.x) s.dir.x (by omega) (by omega) h
  have u := unit_pc ((x - s.a.x) / s.dir.x) (by omega)
  have m := mulQ_pc ((x - s.a.x) / s.dir.x) s.dir.y (by omega) (by omega)
  have p := addQ_pc s.a.y ((x - s.a.x) / s.dir.x * s.dir.y) (by omega) (by omega)
  clear a1 a2 a3 a4 a5 a6 a7 a8 a9
  by_cases hok : s.ok
  · have hok' : ¬ cmpP s.a s.b = 0 := hok
    rw [if_neg hok'] at c
    simp (maxSteps := 2000000) (disch := omega) only [↓RS, RZ, reduceCtorEq, reduceAdd, reduceLT, reduceLeDiff, List.reduceReplicate, reducePow, reduceDiv, reduceMod, reduceEqDiff, Nat.reduceBEq, sgV, s4V]
    first | refine cP (c) ?_ | refine cD (c) ?_
    simp (maxSteps := 2000000) (disch := omega) only [↓RS, RZ, reduceCtorEq, reduceAdd, reduceLT, reduceLeDiff, List.reduceReplicate, reducePow, reduceDiv, reduceMod, reduceEqDiff, Nat.reduceBEq, sgV, s4V]
    first | refine cP (d) ?_ | refine cD (d) ?_
    simp (maxSteps := 2000000) (disch := omega) only [↓RS, RZ, reduceCtorEq, reduceAdd, reduceLT, reduceLeDiff, List.reduceReplicate, reducePow, reduceDiv, reduceMod, reduceEqDiff, Nat.reduceBEq, qV, rV, pV, ptV]
    first | refine cP (e) ?_ | refine cD (e) ?_
    by_cases hz : s.dir.x = 0
    · have q0 := q0 hz
      have e1 : heightS s x = (0, 24) := by rw [heightS, if_neg (fun h => h hok), if_pos hz]
      simp only [e1, qV0]
      rw [qV0] at q0
      simp (maxSteps := 2000000) (disch := omega) only [↓RS, RZ, reduceCtorEq, reduceAdd, reduceLT, reduceLeDiff, List.reduceReplicate, reducePow, reduceDiv, reduceMod, reduceEqDiff, Nat.reduceBEq, qV, rV, pV, ptV]
      first | refine cP (q0) ?_ | refine cD (q0) ?_
      simp (maxSteps := 2000000) (disch := omega) only [↓RS, RZ, reduceCtorEq, reduceAdd, reduceLT, reduceLeDiff, List.reduceReplicate, reducePow, reduceDiv, reduceMod, reduceEqDiff, Nat.reduceBEq]
      try (simp only [can_zero])
    · have q1 := q1 hz
      simp (maxSteps := 2000000) (disch := omega) only [↓RS, RZ, reduceCtorEq, reduceAdd, reduceLT, reduceLeDiff, List.reduceReplicate, reducePow, reduceDiv, reduceMod, reduceEqDiff, Nat.reduceBEq, qV, rV, pV, ptV]
      first | refine cP (q1) ?_ | refine cD (q1) ?_
      simp (maxSteps := 2000000) (disch := omega) only [↓RS, RZ, reduceCtorEq, reduceAdd, reduceLT, reduceLeDiff, List.reduceReplicate, reducePow, reduceDiv, reduceMod, reduceEqDiff, Nat.reduceBEq, qV, rV]
      first | refine cP (u) ?_ | refine cD (u) ?_
      cases hu : unit ((x - s.a.x) / s.dir.x) with
      | false =>
        have e1 : heightS s x = (0, 14) := by rw [heightS, if_neg (fun h => h hok), if_neg hz, hu]; rfl
        simp only [e1, qV0]
        simp (maxSteps := 2000000) (disch := omega) only [↓RS, RZ, reduceCtorEq, reduceAdd, reduceLT, reduceLeDiff, List.reduceReplicate, reducePow, reduceDiv, reduceMod, reduceEqDiff, Nat.reduceBEq, qV, rV]
        try (simp only [can_zero])
      | true =>
        have e1 : heightS s x = (s.a.y + (x - s.a.x) / s.dir.x * s.dir.y, 0) := by rw [heightS, if_neg (fun h => h hok), if_neg hz, hu]; rfl
        simp only [e1]
        simp (maxSteps := 2000000) (disch := omega) only [↓RS, RZ, reduceCtorEq, reduceAdd, reduceLT, reduceLeDiff, List.reduceReplicate, reducePow, reduceDiv, reduceMod, reduceEqDiff, Nat.reduceBEq, qV, rV, pV, ptV]
        first | refine cP (m) ?_ | refine cD (m) ?_
        simp (maxSteps := 2000000) (disch := omega) only [↓RS, RZ, reduceCtorEq, reduceAdd, reduceLT, reduceLeDiff, List.reduceReplicate, reducePow, reduceDiv, reduceMod, reduceEqDiff, Nat.reduceBEq, qV, rV, pV, ptV]
        first | refine cP (p) ?_ | refine cD (p) ?_
        simp (maxSteps := 2000000) (disch := omega) only [↓RS, RZ, reduceCtorEq, reduceAdd, reduceLT, reduceLeDiff, List.reduceReplicate, reducePow, reduceDiv, reduceMod, reduceEqDiff, Nat.reduceBEq, qV, rV, pV, ptV]
        try (simp only [can_zero])
  · have hok' : cmpP s.a s.b = 0 := Decidable.not_not.1 hok
    have e1 : heightS s x = (0, 12) := by rw [heightS, if_pos hok]
    rw [if_pos hok'] at c
    simp only [e1, qV0]
    simp (maxSteps := 2000000) (disch := omega) only [↓RS, RZ, reduceCtorEq, reduceAdd, reduceLT, reduceLeDiff, List.reduceReplicate, reducePow, reduceDiv, reduceMod, reduceEqDiff, Nat.reduceBEq, sgV, s4V]
    first | refine cP (c) ?_ | refine cD (c) ?_
    simp (maxSteps := 2000000) (disch := omega) only [↓RS, RZ, reduceCtorEq, reduceAdd, reduceLT, reduceLeDiff, List.reduceReplicate, reducePow, reduceDiv, reduceMod, reduceEqDiff, Nat.reduceBEq, sgV, s4V]
    try (simp only [can_zero])
end Go.Av
