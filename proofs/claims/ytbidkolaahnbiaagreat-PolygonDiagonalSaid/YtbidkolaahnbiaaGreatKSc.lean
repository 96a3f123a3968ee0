/- Helping texts: Sc. -/
import Derived.Test.YtbidkolaahnbiaaGreatKSb
set_option linter.unusedSimpArgs false
set_option linter.unusedVariables false
set_option maxRecDepth 100000
set_option maxHeartbeats 16000000
namespace Go.Av
open Go.RowKit
open Go.Proofs.Tryz (prog)
theorem rb_between {a b p : Pt} (h : a ≠ b) : rbetween a b p = between a b p := by
 rw [Bool.eq_iff_iff, rbetween_onSeg h]
 exact ⟨fun k => onSeg_between k h, between_onSeg⟩
theorem ron_pc (L : List Pt) (p : Pt) (hR : Ring L) (hp0 : hp p ≤ 2 ^ 20) : PC prog 304 [psV L, pV p] (.prim (.bool (onB L p))) := by
 have hn := hR.hi
 have hL : hl L (2 ^ 26) := hR.le (by omega)
 refine PCi ?_
 conv in trip _ _ => cbv
 simp only [runT, RN, simprocAttr]
 simp (disch := omega) only [↓RS, RZ, simprocAttr, psV, pV, ptV]
 refine wp_lp (fun (i : Nat) J => ov [(0, psV L), (3, .ptr 0 0 0), (5, .prim (.int .i64 ((i : Nat) : Int)))] J 0 21) (fun i H => (i ≤ L.length ∧ ∀ j, j < i → between (L.getD j default) (nx L j) p = false) ∧ H = [some (.row 6 true [pc p])]) (fun i => L.length - i) 0 rfl ⟨⟨Nat.zero_le _, fun j hj => absurd hj (Nat.not_lt_zero j)⟩, rfl⟩ ?_
 rintro i J _ ⟨⟨hi, hp⟩, rfl⟩
 try conv in ov _ _ _ _ => simp only [ov, List.lookup, RO, simprocAttr]
 rcases Nat.lt_or_ge i L.length with hlt | hge
 ·have g1 := pc_getD hlt
  have n1 := rnext_pc L i (by omega) (by omega) (by omega)
  have b := rbetween_pc (L.getD i default) (nx L i) p (hl_get hL hlt) (nx_le hL (by omega)) (by omega)
  rw [rb_between (hR.next_ne hlt)] at b
  cases hb : between (L.getD i default) (nx L i) p with
  | true =>
   rw [hb] at b
   rw [onB_true hlt hb]
   simp (disch := omega) only [↓RS, RZ, simprocAttr, psV, pc_length, g1, pc]
   refine cX n1 ?_
   simp (disch := omega) only [↓RS, RZ, simprocAttr, pV, ptV, pc]
   refine cX b ?_
   simp (disch := omega) only [↓RS, RZ, simprocAttr]
  | false =>
   rw [hb] at b
   simp (disch := omega) only [↓RS, RZ, simprocAttr, psV, pc_length, g1, pc]
   refine cX n1 ?_
   simp (disch := omega) only [↓RS, RZ, simprocAttr, pV, ptV, pc]
   refine cX b ?_
   simp (disch := omega) only [↓RS, RZ, simprocAttr]
   exact lp_next (i + 1) rfl ⟨⟨hlt, fun j hj => by
    rcases Nat.lt_or_ge j i with h | h
    ·exact hp j h
    ·rw [show j = i by omega]; exact hb⟩, rfl⟩ (by omega)
 ·have hia : i = L.length := by omega
  subst hia
  rw [onB_false hp]
  simp (disch := omega) only [↓RS, RZ, simprocAttr, psV, pc_length]
theorem rodd_pc (L : List Pt) (p : Pt) (hn : L.length ≤ 2 ^ 30) (hL : hl L (2 ^ 26)) (hp0 : hp p ≤ 2 ^ 26) : PC prog 305 [psV L, pV p] (.prim (.bool (oddTo L p L.length))) := by
 refine PCi ?_
 conv in trip _ _ => cbv
 simp only [runT, RN, simprocAttr]
 simp (disch := omega) only [↓RS, RZ, simprocAttr, psV, pV, ptV]
 refine wp_lp (fun (i : Nat) J => ov [(0, psV L), (3, .ptr 0 0 0), (5, .prim (.bool (oddTo L p i))), (6, .prim (.int .i64 ((i : Nat) : Int)))] J 0 50) (fun i H => i ≤ L.length ∧ get H 0 = some (.row 6 true [pc p])) (fun i => L.length - i) 0 rfl ⟨Nat.zero_le _, rfl⟩ ?_
 rintro i J H ⟨hi, h0⟩
 try conv in ov _ _ _ _ => simp only [ov, List.lookup, RO, simprocAttr]
 rcases Nat.lt_or_ge i L.length with hlt | hge
 ·have g1 := pc_getD hlt
  have n1 := rnext_pc L i (by omega) (by omega) (by omega)
  have e : oddTo L p (i + 1) = oddStep p (L.getD i default) (nx L i) (oddTo L p i) := rfl
  have k1 := hl_get hL hlt
  have k2 := nx_le (i := i) hL (by omega)
  generalize oddTo L p i = o at *
  generalize L.getD i default = a at *
  generalize nx L i = b at *
  have y1 := hp_y a; have y2 := hp_y b; have y3 := hp_y p
  have c1 := rcmpQ_pc a.y p.y (by omega) (by omega)
  have c2 := rcmpQ_pc b.y p.y (by omega) (by omega)
  have r1 := rorient_pc b a p (by omega) (by omega) (by omega)
  have r2 := rorient_pc a b p (by omega) (by omega) (by omega)
  have hN := get_lt_len h0
  have w0 : ∀ x y, get (H ++ [x] ++ [y]) 0 = some (.row 6 true [pc p]) := fun x y => get_app (get_app h0)
  have q1 : ∀ x y, get (H ++ [x] ++ [y]) H.length = x := fun x y => get_app_len2
  have q2 : ∀ x y, get (H ++ [x] ++ [y]) (H.length + 1) = y := fun x y => by
   have : get (H ++ [x] ++ [y]) (H ++ [x]).length = y := get_app_len
   rwa [List.length_append] at this
  have q3 : ∀ x, (H ++ [x]).length = H.length + 1 := fun x => by rw [List.length_append]; rfl
  have q4 : ∀ x y z, (H ++ [x] ++ [y]).set H.length z = H ++ [z] ++ [y] := fun x y z => set_app_len2
  have q5 : ∀ x y z, (H ++ [x] ++ [y]).set (H.length + 1) z = H ++ [x] ++ [z] := fun x y z => by
   have : (H ++ [x] ++ [y]).set (H ++ [x]).length z = H ++ [x] ++ [z] := set_app_len
   rwa [List.length_append] at this
  have q6 : (H.length + 1 == H.length) = false := by rw [beq_eq_false_iff_ne]; omega
  unfold oddStep aboveB at e
  by_cases u : 0 < cmpQ a.y p.y
  ·by_cases d : 0 < cmpQ b.y p.y
   ·rw [decide_eq_true u, decide_eq_true d] at e
    simp only [Bool.not_true, Bool.false_and, Bool.false_eq_true, if_true, if_false] at e
    simp (disch := omega) only [↓RS, RZ, simprocAttr, psV, pc_length, g1, pc]
    refine cX n1 ?_
    simp (disch := omega) only [↓RS, RZ, simprocAttr, pV, ptV, pc, q1, q2, q3, q4, q5, q6, w0]
    refine cX c1 ?_
    simp (disch := omega) only [↓RS, RZ, simprocAttr, pc, q1, q2, q3, w0]
    refine cX c2 ?_
    simp (disch := omega) only [↓RS, RZ, simprocAttr, eqA_bool9, tf_beq, ft_beq]
    exact lp_next (i + 1) (by rw [e]; rfl) ⟨hlt, w0 _ _⟩ (by omega)
   ·rw [decide_eq_true u, decide_eq_false d] at e
    simp only [Bool.not_false, Bool.true_and, if_true] at e
    simp (disch := omega) only [↓RS, RZ, simprocAttr, psV, pc_length, g1, pc]
    refine cX n1 ?_
    simp (disch := omega) only [↓RS, RZ, simprocAttr, pV, ptV, pc, q1, q2, q3, q4, q5, q6, w0]
    refine cX c1 ?_
    simp (disch := omega) only [↓RS, RZ, simprocAttr, pc, q1, q2, q3, w0]
    refine cX c2 ?_
    simp (disch := omega) only [↓RS, RZ, simprocAttr, eqA_bool9, tf_beq, ft_beq, pc, q1, q2, q3, w0]
    refine cX r1 ?_
    by_cases z : 0 < orient b a p
    ·rw [decide_eq_true z, if_pos rfl] at e
     simp (disch := omega) only [↓RS, RZ, simprocAttr]
     exact lp_next (i + 1) (by rw [e]; rfl) ⟨hlt, w0 _ _⟩ (by omega)
    ·rw [decide_eq_false z, if_neg (by simp)] at e
     simp (disch := omega) only [↓RS, RZ, simprocAttr]
     exact lp_next (i + 1) (by rw [e]; rfl) ⟨hlt, w0 _ _⟩ (by omega)
  ·by_cases d : 0 < cmpQ b.y p.y
   ·rw [decide_eq_false u, decide_eq_true d] at e
    simp only [Bool.true_and, Bool.false_eq_true, if_false] at e
    simp (disch := omega) only [↓RS, RZ, simprocAttr, psV, pc_length, g1, pc]
    refine cX n1 ?_
    simp (disch := omega) only [↓RS, RZ, simprocAttr, pV, ptV, pc, q1, q2, q3, q4, q5, q6, w0]
    refine cX c1 ?_
    simp (disch := omega) only [↓RS, RZ, simprocAttr, pc, q1, q2, q3, w0]
    refine cX c2 ?_
    simp (disch := omega) only [↓RS, RZ, simprocAttr, eqA_bool9, tf_beq, ft_beq, pc, q1, q2, q3, q4, q5, q6, w0]
    refine cX r2 ?_
    by_cases z : 0 < orient a b p
    ·rw [decide_eq_true z, if_pos rfl] at e
     simp (disch := omega) only [↓RS, RZ, simprocAttr]
     exact lp_next (i + 1) (by rw [e]; rfl) ⟨hlt, w0 _ _⟩ (by omega)
    ·rw [decide_eq_false z, if_neg (by simp)] at e
     simp (disch := omega) only [↓RS, RZ, simprocAttr]
     exact lp_next (i + 1) (by rw [e]; rfl) ⟨hlt, w0 _ _⟩ (by omega)
   ·rw [decide_eq_false u, decide_eq_false d] at e
    simp only [Bool.false_and, Bool.false_eq_true, if_false] at e
    simp (disch := omega) only [↓RS, RZ, simprocAttr, psV, pc_length, g1, pc]
    refine cX n1 ?_
    simp (disch := omega) only [↓RS, RZ, simprocAttr, pV, ptV, pc, q1, q2, q3, q4, q5, q6, w0]
    refine cX c1 ?_
    simp (disch := omega) only [↓RS, RZ, simprocAttr, pc, q1, q2, q3, w0]
    refine cX c2 ?_
    simp (disch := omega) only [↓RS, RZ, simprocAttr, eqA_bool9, tf_beq, ft_beq]
    exact lp_next (i + 1) (by rw [e]; rfl) ⟨hlt, w0 _ _⟩ (by omega)
 ·have hia : i = L.length := by omega
  subst hia
  simp (disch := omega) only [↓RS, RZ, simprocAttr, psV, pc_length]
theorem rside_pc (L : List Pt) (p : Pt) (hR : Ring L) (hp0 : hp p ≤ 2 ^ 20) : PC prog 271 [psV L, pV p] (.prim (.int .i64 (sideS L p))) := by
 have hn := hR.hi
 have o := ron_pc L p hR hp0
 have d := rodd_pc L p (by omega) (hR.le (by omega)) (by omega)
 unfold sideS
 cases h1 : onB L p with
 | true =>
  rw [if_pos rfl]
  rw [h1] at o
  refine PCi ?_
  conv in trip _ _ => cbv
  simp only [runT, RN, simprocAttr]
  simp (disch := omega) only [↓RS, RZ, simprocAttr, psV, pV, ptV, pc]
  refine cX o ?_
  simp (disch := omega) only [↓RS, RZ, simprocAttr]
 | false =>
  rw [if_neg (by simp)]
  rw [h1] at o
  cases h2 : oddTo L p L.length with
  | true =>
   rw [if_pos rfl]
   rw [h2] at d
   refine PCi ?_
   conv in trip _ _ => cbv
   simp only [runT, RN, simprocAttr]
   simp (disch := omega) only [↓RS, RZ, simprocAttr, psV, pV, ptV, pc]
   refine cX o ?_
   simp (disch := omega) only [↓RS, RZ, simprocAttr, psV, pV, ptV, pc]
   refine cX d ?_
   simp (disch := omega) only [↓RS, RZ, simprocAttr]
  | false =>
   rw [if_neg (by simp)]
   rw [h2] at d
   refine PCi ?_
   conv in trip _ _ => cbv
   simp only [runT, RN, simprocAttr]
   simp (disch := omega) only [↓RS, RZ, simprocAttr, psV, pV, ptV, pc]
   refine cX o ?_
   simp (disch := omega) only [↓RS, RZ, simprocAttr, psV, pV, ptV, pc]
   refine cX d ?_
   simp (disch := omega) only [↓RS, RZ, simprocAttr]
theorem Ring.rcheck_pc {L : List Pt} (h : Ring L) : PC prog 163 [psV L] (.prim (.int .i64 (0))) := by
 have := rcheck10_pc (L.map Pt.rp) (by rw [List.length_map]; have := h.hi; omega) (rp_le h.ht)
 rw [chkR_rp h.lo h.hi, h.ok, ← psV_rps] at this
 exact this
theorem rvcheckP_pc (p : Pt) (h : hp p ≤ 2 ^ 20) : PC prog 83 [pV p] (.prim (.int .i64 (0))) := by
 have h1 := hp_x p; have h2 := hp_y p
 have := rvcheck_pc (can p.x) (can p.y) (can_le (by omega)) (can_le (by omega))
 rw [can_val, can_val, if_pos ⟨rfl, rfl⟩] at this
 exact this
theorem rinside_pc (L : List Pt) (p : Pt) (hR : Ring L) (hp0 : hp p ≤ 2 ^ 20) : PC prog 215 [psV L, pV p] (.tup [.prim (.int .i64 (sideS L p)), .prim (.int .i64 (0))]) := by
 have c := hR.rcheck_pc
 have v := rvcheckP_pc p hp0
 have s := rside_pc L p hR hp0
 refine PCi ?_
 conv in trip _ _ => cbv
 simp only [runT, RN, simprocAttr]
 simp (disch := omega) only [↓RS, RZ, simprocAttr, psV, pV, ptV, pc]
 refine cX c ?_
 simp (disch := omega) only [↓RS, RZ, simprocAttr, psV, pV, ptV, pc]
 refine cX v ?_
 simp (disch := omega) only [↓RS, RZ, simprocAttr, psV, pV, ptV, pc]
 refine cX s ?_
 simp (disch := omega) only [↓RS, RZ, simprocAttr]
theorem rEdges_pc (L : List Pt) (hn : L.length ≤ 2 ^ 30) (hne : L ≠ []) : PC prog 216 [psV L] (ssV (edgesL L)) := by
 refine PCi ?_
 conv in trip _ _ => cbv
 simp only [runT, RN, simprocAttr]
 simp (disch := omega) only [↓RS, RZ, simprocAttr, psV]
 refine wp_lp (fun (s : Nat × V) J => ov [(0, psV L), (3, s.2), (4, .prim (.int .i64 ((s.1 : Nat) : Int)))] J 0 23) (fun s H => s.1 ≤ L.length ∧ Bufn 0 H s.2 12 (((List.range s.1).map (segOf L)).map sgc)) (fun s => L.length - s.1) (0, .prim (.slice none 0 0)) rfl ⟨Nat.zero_le _, .nil (Nat.zero_le _)⟩ ?_
 rintro ⟨i, v⟩ J H ⟨hi, hB⟩
 try conv in ov _ _ _ _ => simp only [ov, List.lookup, RO, simprocAttr]
 simp only at hi hB ⊢
 have d1 := hB.one
 have d2 := hB.cel
 rcases Nat.lt_or_ge i L.length with hlt | hge
 ·have g1 := pc_getD hlt
  have n1 := rnext_pc L i (by omega) (by omega) (by omega)
  have hrl : (List.range i).length = i := List.length_range
  simp (disch := omega) only [↓RS, RZ, simprocAttr, psV, pc_length, g1, pc, d1, d2]
  refine cX n1 ?_
  simp (disch := omega) only [↓RS, RZ, simprocAttr, pV, ptV, d1, d2]
  refine Bufn.append (hB.app _) (by simp [cellV]) (by simp only [List.length_cons, List.length_nil, List.length_map, hrl]; omega) (by simp only [List.length_cons, List.length_nil, List.length_map, hrl]; omega) ?_
  intro v' H3 hb3 hk
  have e1 := hb3.one
  have e2 := hb3.cel
  simp (disch := omega) only [↓RS, RZ, simprocAttr, e1, e2]
  refine lp_next (i + 1, v') rfl ⟨hlt, ?_⟩ (by simp only; omega)
  show Bufn 0 H3 v' 12 (((List.range (i + 1)).map (segOf L)).map sgc)
  rw [range_map_succ, List.map_append]
  exact hb3
 ·have hia : i = L.length := by omega
  subst hia
  obtain ⟨b, _, rfl, hg⟩ := hB.cases (by simpa using hne)
  have hlen : (((List.range L.length).map (segOf L)).map sgc).length = L.length := by simp
  have htk : (((List.range L.length).map (segOf L)).map sgc).take L.length = ((List.range L.length).map (segOf L)).map sgc := by rw [List.take_of_length_le (by omega)]
  have hvl := @viewLL_prims H 7 _ (sgc_prims ((List.range L.length).map (segOf L)))
  rw [hlen]
  simp (disch := omega) only [↓RS, RZ, simprocAttr, psV, pc_length, hg, hlen, htk, hvl, ssV, edgesL]
end Go.Av
