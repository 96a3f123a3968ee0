/- Helping texts: Td. -/
import Derived.Test.YtbidkolaahnbiaaGreatKTc
import Derived.Test.YtbidkolaahnbiaaGreatKSp
set_option linter.unusedSimpArgs false
set_option linter.unusedVariables false
set_option maxRecDepth 100000
set_option maxHeartbeats 16000000
namespace Go.Av
open Go.RowKit
open Go.Proofs.Tryz (prog)
theorem equalR_pc (A B : List Rp) (hA : A.length < 2 ^ 40) (hB : B.length < 2 ^ 40) : PC prog 69 [rpsV A, rpsV B] (.prim (.bool (decide (A = B)))) := by
 by_cases hl : A.length = B.length
 ·skip
  refine PCi ?_
  conv in trip _ _ => cbv
  simp only [runT, RN, simprocAttr]
  simp (disch := omega) only [↓RS, RZ, simprocAttr, rpsV, rpc_length]
  refine wp_lp (fun (i : Nat) J => ov [(0, rpsV A), (1, rpsV B), (4, .prim (.bool false)), (11, rpsV A), (12, .prim (.int .i64 ((A.length : Nat) : Int))), (13, .prim (.int .i64 ((i : Nat) : Int)))] J 0 26) (fun i H => (i ≤ A.length ∧ ∀ j, j < i → A.getD j default = B.getD j default) ∧ H = []) (fun i => A.length - i) 0 rfl ⟨⟨Nat.zero_le _, fun j hj => absurd hj (Nat.not_lt_zero j)⟩, rfl⟩ ?_
  rintro i J _ ⟨⟨hi, hp⟩, rfl⟩
  try conv in ov _ _ _ _ => simp only [ov, List.lookup, RO, simprocAttr]
  rcases Nat.lt_or_ge i A.length with hlt | hge
  ·have g1 := rpc_getD hlt
   have g2 := rpc_getD (l := B) (k := i) (by omega)
   have e := eqA_rp (A.getD i default) (B.getD i default)
   by_cases h : A.getD i default = B.getD i default
   ·rw [decide_eq_true h] at e
    simp (disch := omega) only [↓RS, RZ, simprocAttr, rpsV, rpc_length, g1, g2, rpc, e]
    exact lp_next (i + 1) rfl ⟨⟨hlt, fun j hj => by
     rcases Nat.lt_or_ge j i with h | h
     ·exact hp j h
     ·rw [show j = i by omega]; assumption⟩, rfl⟩ (by omega)
   ·rw [decide_eq_false h] at e
    rw [decide_eq_false (fun k => h (by rw [k]))]
    simp (disch := omega) only [↓RS, RZ, simprocAttr, rpsV, rpc_length, g1, g2, rpc, e]
  ·have hia : i = A.length := by omega
   subst hia
   rw [decide_eq_true ((list_eq_iff (d := default)).2 ⟨hl, hp⟩)]
   simp (disch := omega) only [↓RS, RZ, simprocAttr, rpsV, rpc_length]
 ·rw [decide_eq_false (fun k => hl (by rw [k]))]
  refine PCi ?_
  conv in trip _ _ => cbv
  simp only [runT, RN, simprocAttr]
  simp (disch := omega) only [↓RS, RZ, simprocAttr, rpsV, rpc_length]
theorem equalF_pc (hs hs' : List (List Rp)) (h3 : hs.length < 2 ^ 40) (h4 : hs'.length < 2 ^ 40) (k1 : ∀ l ∈ hs, l.length < 2 ^ 40) (k2 : ∀ l ∈ hs', l.length < 2 ^ 40) :
 PC prog 109 [hsV hs, hsV hs', .clo 69 [] []] (.prim (.bool (decide (hs = hs')))) := by
 by_cases hl : hs.length = hs'.length
 ·skip
  refine PCi ?_
  conv in trip _ _ => cbv
  simp only [runT, RN, simprocAttr]
  simp (disch := omega) only [↓RS, RZ, simprocAttr, hsV, one_length, hs_length]
  refine wp_lp (fun (i : Nat) J => ov [(0, hsV hs), (1, hsV hs'), (2, .clo 69 [] []), (15, hsV hs), (16, .prim (.int .i64 ((hs.length : Nat) : Int))), (17, .prim (.int .i64 ((i : Nat) : Int)))] J 0 32) (fun i _ => i ≤ hs.length ∧ ∀ j, j < i → hs.getD j [] = hs'.getD j []) (fun i => hs.length - i) 0 rfl ⟨Nat.zero_le _, fun j hj => absurd hj (Nat.not_lt_zero j)⟩ ?_
  rintro i J H ⟨hi, hp⟩
  try conv in ov _ _ _ _ => simp only [ov, List.lookup, RO, simprocAttr]
  rcases Nat.lt_or_ge i hs.length with hlt | hge
  ·have g1 : ((hs.map rpsV).map fun v => [v]).getD i [] = [rpsV (hs.getD i [])] := by rw [one_getD (by rw [hs_length]; exact hlt), hs_getD hlt]
   have g2 : ((hs'.map rpsV).map fun v => [v]).getD i [] = [rpsV (hs'.getD i [])] := by rw [one_getD (by rw [hs_length]; omega), hs_getD (by omega)]
   have m1 : hs.getD i [] ∈ hs := by rw [List.getD_eq_getElem?_getD, List.getElem?_eq_getElem hlt]; exact List.getElem_mem hlt
   have m2 : hs'.getD i [] ∈ hs' := by rw [List.getD_eq_getElem?_getD, List.getElem?_eq_getElem (by omega)]; exact List.getElem_mem (by omega)
   have c := equalR_pc (hs.getD i []) (hs'.getD i []) (k1 _ m1) (k2 _ m2)
   by_cases h : hs.getD i [] = hs'.getD i []
   ·rw [decide_eq_true h] at c
    simp (disch := omega) only [↓RS, RZ, simprocAttr, hsV, rpsV, one_length, hs_length, g1, g2]
    refine cX c ?_
    simp (disch := omega) only [↓RS, RZ, simprocAttr]
    exact lp_next (i + 1) rfl ⟨hlt, fun j hj => by
     rcases Nat.lt_or_ge j i with h | h
     ·exact hp j h
     ·rw [show j = i by omega]; assumption⟩ (by omega)
   ·rw [decide_eq_false h] at c
    rw [decide_eq_false (fun k => h (by rw [k]))]
    simp (disch := omega) only [↓RS, RZ, simprocAttr, hsV, rpsV, one_length, hs_length, g1, g2]
    refine cX c ?_
    simp (disch := omega) only [↓RS, RZ, simprocAttr]
  ·have hia : i = hs.length := by omega
   subst hia
   rw [decide_eq_true ((list_eq_iff (d := [])).2 ⟨hl, hp⟩)]
   simp (disch := omega) only [↓RS, RZ, simprocAttr, hsV, one_length, hs_length]
 ·rw [decide_eq_false (fun k => hl (by rw [k]))]
  refine PCi ?_
  conv in trip _ _ => cbv
  simp only [runT, RN, simprocAttr]
  simp (disch := omega) only [↓RS, RZ, simprocAttr, hsV, one_length, hs_length]
theorem sameR_pc (O : List Rp) (hs : List (List Rp)) (O' : List Rp) (hs' : List (List Rp)) (h1 : O.length < 2 ^ 40) (h2 : O'.length < 2 ^ 40) (h3 : hs.length < 2 ^ 40) (h4 : hs'.length < 2 ^ 40) (k1 : ∀ l ∈ hs, l.length < 2 ^ 40) (k2 : ∀ l ∈ hs', l.length < 2 ^ 40) :
 PC prog 40 [pgV O hs, pgV O' hs'] (.prim (.bool (decide (O = O' ∧ hs = hs')))) := by
 have e1 := equalR_pc O O' h1 h2
 have e2 := equalF_pc hs hs' h3 h4 k1 k2
 by_cases hO : O = O'
 ·rw [decide_eq_true hO] at e1
  rw [show decide (O = O' ∧ hs = hs') = decide (hs = hs') from decide_eq_decide.2 ⟨fun h => h.2, fun h => ⟨hO, h⟩⟩]
  generalize decide (hs = hs') = z at *
  refine PCi ?_
  conv in trip _ _ => cbv
  simp only [runT, RN, simprocAttr]
  simp (disch := omega) only [↓RS, RZ, simprocAttr, pgV, hsV, rpsV]
  refine cX e1 ?_
  simp (disch := omega) only [↓RS, RZ, simprocAttr, hsV, rpsV]
  refine cX e2 ?_
  simp (disch := omega) only [↓RS, RZ, simprocAttr]
 ·rw [decide_eq_false hO] at e1
  rw [decide_eq_false (fun k => hO k.1)]
  refine PCi ?_
  conv in trip _ _ => cbv
  simp only [runT, RN, simprocAttr]
  simp (disch := omega) only [↓RS, RZ, simprocAttr, pgV, hsV, rpsV]
  refine cX e1 ?_
  simp (disch := omega) only [↓RS, RZ, simprocAttr]
variable {O : List Rp} {hs : List (List Rp)}
theorem diagBad_pc (sm : Small O hs) (s : R2) (ha : s.a.le (2 ^ 20)) (hb : s.b.le (2 ^ 20)) (hbad : chkP O hs ≠ 0 ∨ ¬ s.a.can ∨ ¬ s.b.can) : PC prog 70 [pgV O hs, r2V s] (.tup [.prim (.bool false), .prim (.int .i64 (1))]) := by
 have ck := sm.check
 have c1 := vcheck_pc s.a.x s.a.y (Rp.le32 ha).1 (Rp.le32 ha).2
 have c2 := vcheck_pc s.b.x s.b.y (Rp.le32 hb).1 (Rp.le32 hb).2
 by_cases hz : chkP O hs = 0
 ·rw [hz] at ck
  by_cases h1 : s.a.x = can s.a.x.val ∧ s.a.y = can s.a.y.val
  ·rw [if_pos h1] at c1
   rw [if_neg (show ¬ (s.b.x = can s.b.x.val ∧ s.b.y = can s.b.y.val) from by
    rcases hbad with k | k | k
    ·exact absurd hz k
    ·exact absurd h1 k
    ·exact k)] at c2
   refine PCi ?_
   conv in trip _ _ => cbv
   simp only [runT, RN, simprocAttr]
   simp (disch := omega) only [↓RS, RZ, simprocAttr, pgV, hsV, rpsV, r2V, s4V, ptV]
   refine cX ck ?_
   simp (disch := omega) only [↓RS, RZ, simprocAttr, hsV, rpsV, ptV]
   refine cX c1 ?_
   simp (disch := omega) only [↓RS, RZ, simprocAttr, hsV, rpsV, ptV]
   refine cX c2 ?_
   simp (disch := omega) only [↓RS, RZ, simprocAttr]
  ·rw [if_neg h1] at c1
   refine PCi ?_
   conv in trip _ _ => cbv
   simp only [runT, RN, simprocAttr]
   simp (disch := omega) only [↓RS, RZ, simprocAttr, pgV, hsV, rpsV, r2V, s4V, ptV]
   refine cX ck ?_
   simp (disch := omega) only [↓RS, RZ, simprocAttr, hsV, rpsV, ptV]
   refine cX c1 ?_
   simp (disch := omega) only [↓RS, RZ, simprocAttr]
 ·generalize chkP O hs = z at *
  refine PCi ?_
  conv in trip _ _ => cbv
  simp only [runT, RN, simprocAttr]
  simp (disch := omega) only [↓RS, RZ, simprocAttr, pgV, hsV, rpsV, r2V, s4V, ptV]
  refine cX ck ?_
  simp (disch := omega) only [↓RS, RZ, simprocAttr]
theorem rdiagBad_pc (sm : Small O hs) (s : R2) (ha : s.a.le (2 ^ 20)) (hb : s.b.le (2 ^ 20)) (hbad : chkP O hs ≠ 0 ∨ ¬ s.a.can ∨ ¬ s.b.can) : PC prog 71 [pgV O hs, r2V s] (.tup [.prim (.bool false), .prim (.int .i64 (1))]) := by
 have ck := sm.rcheck
 have c1 := rvcheck_pc s.a.x s.a.y (Rp.le32 ha).1 (Rp.le32 ha).2
 have c2 := rvcheck_pc s.b.x s.b.y (Rp.le32 hb).1 (Rp.le32 hb).2
 by_cases hz : chkP O hs = 0
 ·rw [hz] at ck
  by_cases h1 : s.a.x = can s.a.x.val ∧ s.a.y = can s.a.y.val
  ·rw [if_pos h1] at c1
   rw [if_neg (show ¬ (s.b.x = can s.b.x.val ∧ s.b.y = can s.b.y.val) from by
    rcases hbad with k | k | k
    ·exact absurd hz k
    ·exact absurd h1 k
    ·exact k)] at c2
   refine PCi ?_
   conv in trip _ _ => cbv
   simp only [runT, RN, simprocAttr]
   simp (disch := omega) only [↓RS, RZ, simprocAttr, pgV, hsV, rpsV, r2V, s4V, ptV]
   refine cX ck ?_
   simp (disch := omega) only [↓RS, RZ, simprocAttr, hsV, rpsV, ptV]
   refine cX c1 ?_
   simp (disch := omega) only [↓RS, RZ, simprocAttr, hsV, rpsV, ptV]
   refine cX c2 ?_
   simp (disch := omega) only [↓RS, RZ, simprocAttr]
  ·rw [if_neg h1] at c1
   refine PCi ?_
   conv in trip _ _ => cbv
   simp only [runT, RN, simprocAttr]
   simp (disch := omega) only [↓RS, RZ, simprocAttr, pgV, hsV, rpsV, r2V, s4V, ptV]
   refine cX ck ?_
   simp (disch := omega) only [↓RS, RZ, simprocAttr, hsV, rpsV, ptV]
   refine cX c1 ?_
   simp (disch := omega) only [↓RS, RZ, simprocAttr]
 ·generalize chkP O hs = z at *
  refine PCi ?_
  conv in trip _ _ => cbv
  simp only [runT, RN, simprocAttr]
  simp (disch := omega) only [↓RS, RZ, simprocAttr, pgV, hsV, rpsV, r2V, s4V, ptV]
  refine cX ck ?_
  simp (disch := omega) only [↓RS, RZ, simprocAttr]
theorem mid_at (a b : Pt) : (⟨(a.x + b.x) / 2, (a.y + b.y) / 2⟩ : Pt) = a.at b (1 / 2) := by
 refine Pt.ext ?_ ?_ <;> (unfold Pt.at Pt.add Pt.smul Pt.sub; simp only; grind)
theorem rDiagonal_pc {L : List Pt} {Hs : List (List Pt)} (hv : Valid L Hs) (hap : Apart (L :: Hs)) (s : Sg) (h1 : Av.hs s ≤ 2 ^ 16) : PC prog 71 [cgV L Hs, sgV s] (.tup [.prim (.bool (diagS L Hs s).1), .prim (.int .i64 ((diagS L Hs s).2))]) := by
 have ck := hv.rcheck_pc
 have a4 := hs_a s; have a5 := hs_b s
 have v1 := rvcheckP_pc s.a (by omega)
 have v2 := rvcheckP_pc s.b (by omega)
 have sc := rscheck_pc s (by omega)
 have cc := rcorners_pc L Hs hv
 have ce := redges_pc L Hs hv
 by_cases hz : cmpP s.a s.b = 0
 ·have hD : diagS L Hs s = (false, 12) := by unfold diagS; rw [if_pos hz]
  rw [hD]
  rw [if_pos hz] at sc
  refine PCi ?_
  conv in trip _ _ => cbv
  simp only [runT, RN, simprocAttr]
  simp (disch := omega) only [↓RS, RZ, simprocAttr, cgV, psV, sgV, s4V]
  refine cX ck ?_
  simp (disch := omega) only [↓RS, RZ, simprocAttr, psV, sgV, s4V]
  refine cX v1 ?_
  simp (disch := omega) only [↓RS, RZ, simprocAttr, psV, sgV, s4V]
  refine cX v2 ?_
  simp (disch := omega) only [↓RS, RZ, simprocAttr, psV, sgV, s4V]
  refine cX sc ?_
  simp (disch := omega) only [↓RS, RZ, simprocAttr]
 rw [if_neg hz] at sc
 obtain ⟨q1, q2⟩ := rdiag_eq hv hap (s := s) hz
 rw [← q1, q2]
 have hlC := hl_corners hv.rgs (Hs.length + 1) (Nat.le_refl _)
 have hsE := hs_edges hv.rgs (Hs.length + 1) (Nat.le_refl _)
 obtain ⟨lC, lE⟩ := cornersTo_le hv.rgs (Hs.length + 1) (Nat.le_refl _)
 have few := hv.few
 clear q1 q2
 generalize cornersTo (L :: Hs) (Hs.length + 1) = C at *
 generalize edgesTo (L :: Hs) (Hs.length + 1) = E at *
 have b1 := hp_x s.a; have b2 := hp_y s.a; have b3 := hp_x s.b; have b4 := hp_y s.b
 have mx := rmean_pc s.a.x s.b.x (by omega) (by omega)
 have my := rmean_pc s.a.y s.b.y (by omega) (by omega)
 have hh : ht (1 / 2) ≤ 3 := by have := ht_div 1 2; have := ht_two; have e : ht 1 ≤ 1 := @ht_int 1 (by omega); omega
 have hat := hp_at s.a s.b (1 / 2)
 have w := rwhere_pc L Hs (s.a.at s.b (1 / 2)) hv (by omega)
 rw [← mid_at] at w ⊢
 generalize whereS L Hs ⟨(s.a.x + s.b.x) / 2, (s.a.y + s.b.y) / 2⟩ = wz at *
 refine PCi ?_
 conv in trip _ _ => cbv
 simp only [runT, RN, simprocAttr]
 simp (disch := omega) only [↓RS, RZ, simprocAttr, cgV, psV, sgV, s4V]
 refine cX ck ?_
 simp (disch := omega) only [↓RS, RZ, simprocAttr, psV, sgV, s4V]
 refine cX v1 ?_
 simp (disch := omega) only [↓RS, RZ, simprocAttr, psV, sgV, s4V]
 refine cX v2 ?_
 simp (disch := omega) only [↓RS, RZ, simprocAttr, psV, sgV, s4V]
 refine cX sc ?_
 simp (disch := omega) only [↓RS, RZ, simprocAttr, psV, sgV, s4V]
 refine cX cc ?_
 simp (disch := omega) only [↓RS, RZ, simprocAttr, psV, pc_length]
 refine wp_lp (fun (i : Nat) J => ov [(2, .ptr 0 0 0), (3, .ptr 1 0 0), (7, psV C), (8, .prim (.int .i64 ((cntTo (endAt C s) i : Nat) : Int))), (9, .prim (.int .i64 ((i : Nat) : Int)))] J 0 101) (fun i H => (i ≤ C.length ∧ ∀ j, j < i → stopAt C s j = false) ∧ H = [some (.row 2 true [[psV L, .lst 1 ((Hs.map psV).map fun v => [v])]]), some (.row 12 true [sgc s])]) (fun i => C.length - i) 0 rfl ⟨⟨Nat.zero_le _, fun j hj => absurd hj (Nat.not_lt_zero j)⟩, rfl⟩ ?_
 rintro i J _ ⟨⟨hi, hp⟩, rfl⟩
 try conv in ov _ _ _ _ => simp only [ov, List.lookup, RO, simprocAttr]
 rcases Nat.lt_or_ge i C.length with hlt | hge
 ·have g1 := pc_getD hlt
  have kc := hl_get hlC hlt
  have en := cntTo_succ (endAt C s) i
  have el := cntTo_le (endAt C s) i
  have eE : endAt C s i = (decide (C.getD i default = s.a) || decide (C.getD i default = s.b)) := rfl
  have eS : stopAt C s i = (!(decide (C.getD i default = s.a) || decide (C.getD i default = s.b)) && rbetween s.a s.b (C.getD i default)) := rfl
  have bt := rbetween_pc s.a s.b (C.getD i default) (by omega) (by omega) (by omega)
  have x1 := eqA_pc (C.getD i default) s.a
  have x2 := eqA_pc (C.getD i default) s.b
  generalize cntTo (endAt C s) i = cn at *
  by_cases z1 : C.getD i default = s.a
  ·rw [decide_eq_true z1] at x1 eE eS
   rw [eE, if_pos (by simp)] at en
   simp (disch := omega) only [↓RS, RZ, simprocAttr, psV, pc_length, g1, pc, sgc, x1]
   exact lp_next (i + 1) (by rw [en]; rfl) ⟨⟨hlt, fun j hj => by
    rcases Nat.lt_or_ge j i with h | h
    ·exact hp j h
    ·rw [show j = i by omega, eS]; rfl⟩, rfl⟩ (by omega)
  ·rw [decide_eq_false z1] at x1 eE eS
   by_cases z2 : C.getD i default = s.b
   ·rw [decide_eq_true z2] at x2 eE eS
    rw [eE, if_pos (by simp)] at en
    simp (disch := omega) only [↓RS, RZ, simprocAttr, psV, pc_length, g1, pc, sgc, x1, x2]
    exact lp_next (i + 1) (by rw [en]; rfl) ⟨⟨hlt, fun j hj => by
     rcases Nat.lt_or_ge j i with h | h
     ·exact hp j h
     ·rw [show j = i by omega, eS]; rfl⟩, rfl⟩ (by omega)
   ·rw [decide_eq_false z2] at x2 eE eS
    rw [eE, if_neg (by simp), Nat.add_zero] at en
    cases hb : rbetween s.a s.b (C.getD i default) with
    | true =>
     rw [hb] at bt eS
     have hr : rdiagB C E s = false := by unfold rdiagB; rw [anyTo_true hlt eS]; rfl
     rw [hr, Bool.false_and]
     simp (disch := omega) only [↓RS, RZ, simprocAttr, psV, pc_length, g1, pc, sgc, x1, x2]
     refine cX bt ?_
     simp (disch := omega) only [↓RS, RZ, simprocAttr]
    | false =>
     rw [hb] at bt eS
     simp (disch := omega) only [↓RS, RZ, simprocAttr, psV, pc_length, g1, pc, sgc, x1, x2]
     refine cX bt ?_
     simp (disch := omega) only [↓RS, RZ, simprocAttr]
     exact lp_next (i + 1) (by rw [en]; rfl) ⟨⟨hlt, fun j hj => by
      rcases Nat.lt_or_ge j i with h | h
      ·exact hp j h
      ·rw [show j = i by omega, eS]; rfl⟩, rfl⟩ (by omega)
 have hia : i = C.length := by omega
 subst hia
 have hst : anyTo C.length (stopAt C s) = false := anyTo_false hp
 have el := cntTo_le (endAt C s) C.length
 unfold rdiagB
 rw [hst, Bool.not_false, Bool.true_and]
 generalize cntTo (endAt C s) C.length = cn at *
 by_cases h2 : cn = 2
 ·rw [decide_eq_true h2, Bool.true_and]
  simp (disch := omega) only [↓RS, RZ, simprocAttr, psV, pc_length, sgc]
  refine cX ce ?_
  simp (disch := omega) only [↓RS, RZ, simprocAttr, ssV, sgc_length]
  refine wp_lp (fun (k : Nat) J => ov [(2, .ptr 0 0 0), (3, .ptr 1 0 0), (10, ssV E), (11, .prim (.int .i64 ((k : Nat) : Int)))] J 0 101) (fun k H => (k ≤ E.length ∧ ∀ j, j < k → rcross (E.getD j sg0) s = false) ∧ H = [some (.row 2 true [[psV L, .lst 1 ((Hs.map psV).map fun v => [v])]]), some (.row 12 true [sgc s])]) (fun k => E.length - k) 0 rfl ⟨⟨Nat.zero_le _, fun j hj => absurd hj (Nat.not_lt_zero j)⟩, rfl⟩ ?_
  rintro k J' _ ⟨⟨hk, hq⟩, rfl⟩
  try conv in ov _ _ _ _ => simp only [ov, List.lookup, RO, simprocAttr]
  rcases Nat.lt_or_ge k E.length with hkl | hkg
  ·have g2 := sgc_getD hkl
   have hm : E.getD k sg0 ∈ E := by rw [List.getD_eq_getElem?_getD, List.getElem?_eq_getElem hkl]; exact List.getElem_mem hkl
   have cr := rcross_pc (E.getD k sg0) s (Nat.le_trans (hsE _ hm) (by omega)) (by omega)
   cases hx : rcross (E.getD k sg0) s with
   | true =>
    rw [hx] at cr
    rw [anyTo_true hkl hx]
    simp (disch := omega) only [↓RS, RZ, simprocAttr, ssV, sgc_length, g2, sgc]
    refine cX cr ?_
    simp (disch := omega) only [↓RS, RZ, simprocAttr]
   | false =>
    rw [hx] at cr
    simp (disch := omega) only [↓RS, RZ, simprocAttr, ssV, sgc_length, g2, sgc]
    refine cX cr ?_
    simp (disch := omega) only [↓RS, RZ, simprocAttr]
    exact lp_next (k + 1) rfl ⟨⟨hkl, fun j hj => by
     rcases Nat.lt_or_ge j k with h | h
     ·exact hq j h
     ·rw [show j = k by omega]; exact hx⟩, rfl⟩ (by omega)
  ·rw [anyTo_false (fun j hj => hq j (by omega)), Bool.not_false, Bool.true_and]
   have hw1 : decide (wz = 1) = (wz == 1) := by by_cases h : wz = 1 <;> simp [h]
   rw [hw1]
   simp (disch := omega) only [↓RS, RZ, simprocAttr, ssV, sgc_length, psV, sgc]
   refine cX mx ?_
   simp (disch := omega) only [↓RS, RZ, simprocAttr, qV, rV]
   refine cX my ?_
   simp (disch := omega) only [↓RS, RZ, simprocAttr, qV, rV, psV]
   refine cX w ?_
   simp (disch := omega) only [↓RS, RZ, simprocAttr]
 ·rw [decide_eq_false h2, Bool.false_and, Bool.false_and]
  simp (disch := omega) only [↓RS, RZ, simprocAttr, psV, pc_length]
end Go.Av
