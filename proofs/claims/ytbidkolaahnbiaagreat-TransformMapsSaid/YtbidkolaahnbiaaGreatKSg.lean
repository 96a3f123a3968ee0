/- Helping texts: Sg, Sh. -/
import Derived.Test.YtbidkolaahnbiaaGreatKSe
import Derived.Test.YtbidkolaahnbiaaGreatKFd
import Derived.Test.YtbidkolaahnbiaaGreatKSm
set_option linter.unusedSimpArgs false
set_option linter.unusedVariables false
set_option maxRecDepth 100000
set_option maxHeartbeats 16000000
namespace Go.Av
open Go.RowKit
open Go.Proofs.Tryz (prog)
theorem rneedless_pc (l : List Pt) (hn : l.length ≤ 64) (hL : hl l (2 ^ 26)) (hk : keepAll l) : PC prog 228 [psV l] (.prim (.int .i64 (-1))) := by
 refine PCi ?_
 conv in trip _ _ => cbv
 simp only [runT, RN, simprocAttr]
 simp (disch := omega) only [↓RS, RZ, simprocAttr, psV, pc_length]
 refine wp_lp (fun (i : Nat) J => ov [(0, psV l), (3, .prim (.int .i64 ((l.length : Nat) : Int))), (4, .prim (.int .i64 ((i : Nat) : Int)))] J 0 41) (fun i _ => i ≤ l.length) (fun i => l.length - i) 0 rfl (Nat.zero_le _) ?_
 rintro i J H hi
 try conv in ov _ _ _ _ => simp only [ov, List.lookup, RO, simprocAttr]
 rcases Nat.lt_or_ge i l.length with hlt | hge
 ·have m1 := Nat.mod_lt (i + l.length - 1) (show 0 < l.length by omega)
  have g1 := pc_getD hlt
  have g2 := pc_getD m1
  have n1 := rnext_pc l i (by omega) (by omega) (by omega)
  have o := rorient_pc (l.getD ((i + l.length - 1) % l.length) default) (l.getD i default) (nx l i) (hl_get hL m1) (hl_get hL hlt) (nx_le hL (by omega))
  obtain ⟨k1, k2⟩ := hk i hlt
  have e1 := eqA_pc (l.getD i default) (nx l i)
  rw [decide_eq_false k1] at e1
  have k2 : orient (l.getD ((i + l.length - 1) % l.length) default) (l.getD i default) (nx l i) ≠ 0 := of_decide_eq_false k2
  simp (disch := omega) only [↓RS, RZ, simprocAttr, psV, pc_length, g1, pc, tmodN]
  refine cX n1 ?_
  simp (disch := omega) only [↓RS, RZ, simprocAttr, psV, pc_length, g1, g2, pc, pV, ptV, e1, tmodN]
  refine cX n1 ?_
  simp (disch := omega) only [↓RS, RZ, simprocAttr, psV, pc_length, g1, g2, pc, pV, ptV, tmodN]
  refine cX o ?_
  simp (disch := omega) only [↓RS, RZ, simprocAttr]
  exact lp_next (i + 1) rfl hlt (by omega)
 ·have hia : i = l.length := by omega
  subst hia
  simp (disch := omega) only [↓RS, RZ, simprocAttr, psV, pc_length]
theorem rturned_pc (l : List Pt) (hne : l ≠ []) (hn : l.length ≤ 2 ^ 30) : PC prog 230 [psV l] (psV l.reverse) := by
 refine PCi ?_
 conv in trip _ _ => cbv
 simp only [runT, RN, simprocAttr]
 simp (disch := omega) only [↓RS, RZ, simprocAttr, psV, pc_length]
 refine wp_lp (fun (s : Nat × V) J => ov [(0, psV l), (3, s.2), (4, .prim (.int .i64 ((s.1 : Int) - 1)))] J 0 20) (fun s H => s.1 ≤ l.length ∧ Bufn 0 H s.2 6 ((l.drop s.1).reverse.map pc)) (fun s => s.1) (l.length, .prim (.slice none 0 0)) rfl ⟨Nat.le_refl _, by simp only [List.drop_length, List.reverse_nil, List.map_nil]; exact .nil (Nat.zero_le _)⟩ ?_
 rintro ⟨m, v⟩ J H ⟨hi, hB⟩
 try conv in ov _ _ _ _ => simp only [ov, List.lookup, RO, simprocAttr]
 simp only at hi hB ⊢
 have d1 := hB.one
 have d2 := hB.cel
 rcases m with _ | j
 ·rw [List.drop_zero] at hB
  obtain ⟨b, _, rfl, hg⟩ := hB.cases (by simpa using hne)
  have hlen : (l.reverse.map pc).length = l.length := by rw [List.length_map, List.length_reverse]
  have htk : (l.reverse.map pc).take l.length = l.reverse.map pc := by rw [List.take_of_length_le (by omega)]
  have hvl := @viewLL_prims H 7 _ (pc_prims l.reverse)
  rw [hlen]
  simp (disch := omega) only [↓RS, RZ, simprocAttr, psV, pc_length, hg, hlen, htk, hvl]
 ·have g1 := pc_getD (l := l) (k := j) (by omega)
  have ej : ((j + 1 : Nat) : Int) - 1 = (j : Int) := by omega
  have hdl : (l.drop (j + 1)).reverse.length = l.length - (j + 1) := by rw [List.length_reverse, List.length_drop]
  rw [ej]
  simp (disch := omega) only [↓RS, RZ, simprocAttr, psV, pc_length, g1, pc, d1, d2]
  refine Bufn.append (hB.app _) (by simp [cellV]) (by simp only [List.length_cons, List.length_nil, List.length_map, hdl]; omega) (by simp only [List.length_cons, List.length_nil, List.length_map, hdl]; omega) ?_
  intro v' H3 hb3 hk
  have e1 := hb3.one
  have e2 := hb3.cel
  simp (disch := omega) only [↓RS, RZ, simprocAttr, e1, e2]
  refine lp_next (j, v') rfl ⟨by simp only; omega, ?_⟩ (by simp only; omega)
  show Bufn 0 H3 v' 6 ((l.drop j).reverse.map pc)
  rw [List.drop_eq_getElem_cons (show j < l.length by omega), List.reverse_cons, List.map_append]
  rw [List.getD_eq_getElem?_getD, List.getElem?_eq_getElem (show j < l.length by omega)] at hb3
  exact hb3
theorem rotL_range {m : List Pt} {k : Nat} (hk : k < m.length) : rotL m k = (List.range m.length).map fun j => m.getD ((k + j) % m.length) default := by
 refine ext_getD (by rw [rotL_length (by omega), List.length_map, List.length_range]) fun i hi => ?_
 rw [rotL_length (by omega)] at hi
 rw [rotL_getD (by omega) hi, List.getD_eq_getElem?_getD (l := List.map _ _), List.getElem?_map, List.getElem?_range hi]
 simp only [Option.map_some, Option.getD_some]
 split
 ·rw [Nat.mod_eq_of_lt (by omega)]
 ·rw [show k + i = i - (m.length - k) + m.length by omega, Nat.add_mod_right, Nat.mod_eq_of_lt (by omega)]
theorem rcanon10_pc (l : List Pt) (hc : Can l) : PC prog 160 [psV l] (.tup [psV (canonL l), .prim (.int .i64 (0))]) := by
 have hlo := hc.lo
 have hn := hc.hi
 have hL := hc.ht
 have hne : l ≠ [] := by intro e; rw [e] at hlo; simp at hlo
 have c := rcanonical_pc (l.map Pt.rp) (by rw [List.length_map]; omega) (rp_le (fun p hp => Nat.le_trans (hL p hp) (by omega)))
 rw [allOk_rp, ← psV_rps] at c
 have nd := rneedless_pc l hn (fun p hp => Nat.le_trans (hL p hp) (by omega)) hc.kp
 have x := rcrossing_pc l (by omega) (fun p hp => Nat.le_trans (hL p hp) (by omega))
 rw [rcross_eq (fun i hi => (hc.kp i hi).1), hc.cx] at x
 have a := rArea_pc l (by omega) hL
 have hta : ht (areaL l) ≤ 2 ^ 30 := by
  have h1 := ht_areaTo hL l.length (Nat.le_refl _)
  have h2 := ht_div (areaTo l l.length) 2
  have h3 := ht_two
  have h4 : l.length * (4 * 2 ^ 16 + 2) ≤ 64 * (4 * 2 ^ 16 + 2) := Nat.mul_le_mul_right _ hn
  unfold areaL
  omega
 have s := rsignQ_pc (areaL l) (by omega)
 have tu := rturned_pc l hne (by omega)
 have hsg : cmpQ (areaL l) 0 < 0 ↔ areaL l < 0 := by
  rw [← Rat.not_le, ← cmpQ_nonneg]; omega
 have hm : ∃ m : List Pt, m.length = l.length ∧ hl m (2 ^ 26) ∧ canonL l = startL m ∧ (if areaL l < 0 then m = l.reverse else m = l) := by
  by_cases ha : areaL l < 0
  ·refine ⟨l.reverse, List.length_reverse, fun p hp => Nat.le_trans (hL p (List.mem_reverse.1 hp)) (by omega), ?_, by rw [if_pos ha]⟩
   unfold canonL; rw [if_pos ha]
  ·refine ⟨l, rfl, fun p hp => Nat.le_trans (hL p hp) (by omega), ?_, by rw [if_neg ha]⟩
   unfold canonL; rw [if_neg ha]
 obtain ⟨m, hml, hmh, hcm, hmi⟩ := hm
 have le := rleast_pc m (by omega) (by omega) hmh
 have hlk := leastTo_in (L := m) (by omega)
 have hst : startL m = rotL m (leastTo m m.length) := rfl
 rw [hcm, hst, rotL_range hlk]
 generalize leastTo m m.length = k at *
 refine PCi ?_
 conv in trip _ _ => cbv
 simp only [runT, RN, simprocAttr]
 simp (disch := omega) only [↓RS, RZ, simprocAttr, psV, pc_length]
 refine cX c ?_
 simp (disch := omega) only [↓RS, RZ, simprocAttr, psV, pc_length]
 refine wp_iter 1 ?_
 simp (disch := omega) only [↓RS, RZ, simprocAttr, iterL_s, itQ_normal, itQ_exit, itQ_ret, psV, pc_length]
 refine cX nd ?_
 simp (disch := omega) only [↓RS, RZ, simprocAttr, iterL_s, itQ_normal, itQ_exit, itQ_ret, psV, pc_length]
 refine cX x ?_
 simp (disch := omega) only [↓RS, RZ, simprocAttr, psV, pc_length]
 refine cX a ?_
 simp (disch := omega) only [↓RS, RZ, simprocAttr, qV, rV]
 refine cX s ?_
 by_cases ha : areaL l < 0
 case' pos =>
  have hcm2 := hsg.2 ha
  rw [if_pos ha] at hmi
  simp (disch := omega) only [↓RS, RZ, simprocAttr, psV, pc_length]
  refine cX tu ?_
  rw [← hmi]
 case' neg =>
  have hcm2 : ¬ cmpQ (areaL l) 0 < 0 := fun h => ha (hsg.1 h)
  rw [if_neg ha] at hmi
  subst hmi
 all_goals (
  clear c nd x a s tu hsg hcm hta
  have hpos : 0 < m.length := by omega
  simp (disch := omega) only [↓RS, RZ, simprocAttr, psV, pc_length]
  refine cX le ?_
  simp (disch := omega) only [↓RS, RZ, simprocAttr, psV, pc_length]
  refine wp_lp (fun (s : Nat × V) J => ov [(0, psV m), (7, s.2), (8, .prim (.int .i64 ((k : Nat) : Int))), (9, .prim (.int .i64 ((s.1 : Nat) : Int)))] J 0 75) (fun s H => s.1 ≤ m.length ∧ Bufn 0 H s.2 6 (((List.range s.1).map fun j => m.getD ((k + j) % m.length) default).map pc)) (fun s => m.length - s.1) (0, .prim (.slice none 0 0)) rfl ⟨Nat.zero_le _, .nil (Nat.zero_le _)⟩ ?_
  rintro ⟨i, v⟩ J H ⟨hi, hB⟩
  try conv in ov _ _ _ _ => simp only [ov, List.lookup, RO, simprocAttr]
  simp only at hi hB ⊢
  have d1 := hB.one
  have d2 := hB.cel
  rcases Nat.lt_or_ge i m.length with hlt | hge
  ·have mm := Nat.mod_lt (k + i) hpos
   have g1 := pc_getD mm
   have hrl : (List.range i).length = i := List.length_range
   simp (disch := omega) only [↓RS, RZ, simprocAttr, psV, pc_length, g1, pc, tmodN, d1, d2]
   refine Bufn.append (hB.app _) (by simp [cellV]) (by simp only [List.length_cons, List.length_nil, List.length_map, hrl]; omega) (by simp only [List.length_cons, List.length_nil, List.length_map, hrl]; omega) ?_
   intro v' H3 hb3 hk
   have e1 := hb3.one
   have e2 := hb3.cel
   simp (disch := omega) only [↓RS, RZ, simprocAttr, e1, e2]
   refine lp_next (i + 1, v') rfl ⟨hlt, ?_⟩ (by simp only; omega)
   show Bufn 0 H3 v' 6 (((List.range (i + 1)).map fun j => m.getD ((k + j) % m.length) default).map pc)
   rw [range_map_succ, List.map_append]
   exact hb3
  ·have hia : i = m.length := by omega
   subst hia
   have hrn : (List.range m.length).map (fun j => m.getD ((k + j) % m.length) default) ≠ [] := by
    intro e
    have := congrArg List.length e
    rw [List.length_map, List.length_range] at this
    simp only [List.length_nil] at this
    omega
   obtain ⟨b, _, rfl, hg⟩ := hB.cases (by simpa using hrn)
   have hlen : (((List.range m.length).map fun j => m.getD ((k + j) % m.length) default).map pc).length = m.length := by simp
   have hvl := @viewLL_prims H 6 _ (pc_prims ((List.range m.length).map fun j => m.getD ((k + j) % m.length) default))
   have htk : (((List.range m.length).map fun j => m.getD ((k + j) % m.length) default).map pc).take m.length = ((List.range m.length).map fun j => m.getD ((k + j) % m.length) default).map pc := by rw [List.take_of_length_le (by omega)]
   rw [hlen]
   simp (disch := omega) only [↓RS, RZ, simprocAttr, psV, pc_length, hg, hlen, htk, hvl]
 )
end Go.Av
namespace Go.Av
open Go.RowKit
open Go.Proofs.Tryz (prog)
variable {P : Program} {K : V → Hp → Prop} {H : Hp} {ei : TyI} {b : Nat} {ys : List (List V)}
theorem append_lit0 {x : List V} (hg : get H b = some (.row ei.sz true [x])) (hK : K (.sref b 0 1 1 ei.sz true) H) : wpAppend P H ei (.sref b 0 1 1 ei.sz true) [] K := by
 unfold wpAppend
 refine ⟨fun y hy => absurd hy (by simp), ?_⟩
 simp only [hg]
 refine ⟨trivial, by simp, .inl ⟨by simp, by simp, trivial, ?_⟩⟩
 have e : splice [x] (0 + 1) [] = [x] := by simp [splice]
 rw [e, set_self hg]
 exact hK
theorem append_lit1 {x : List V} (hg : get H b = some (.row ei.sz true [x])) (hy : ∀ y ∈ ys, ∀ v ∈ y, cellV v = true) (hne : 0 < ys.length) (h1 : (1 + ys.length) * ei.bytes ≤ 2 ^ 47) (h2 : 1 + ys.length ≤ 2 ^ 60)
 (hK : K (.sref H.length 0 (1 + ys.length) (1 + ys.length) ei.sz false) (H ++ [some (.row ei.sz true (x :: ys))])) : wpAppend P H ei (.sref b 0 1 1 ei.sz true) ys K := by
 unfold wpAppend
 refine ⟨hy, ?_⟩
 simp only [hg]
 exact ⟨trivial, by simp, .inr (.inl ⟨trivial, by omega, h1, h2, hK⟩)⟩
theorem append_pre {es : List (List V)} {k : Nat} (hg : get H b = some (.row ei.sz true es)) (hk : k ≤ es.length) (hy : ∀ y ∈ ys, ∀ v ∈ y, cellV v = true) (hne : 0 < ys.length) (h1 : (k + ys.length) * ei.bytes ≤ 2 ^ 47) (h2 : k + ys.length ≤ 2 ^ 60)
 (hK : K (.sref H.length 0 (k + ys.length) (k + ys.length) ei.sz false) (H ++ [some (.row ei.sz true (es.take k ++ ys))])) : wpAppend P H ei (.sref b 0 k k ei.sz true) ys K := by
 unfold wpAppend
 refine ⟨hy, ?_⟩
 simp only [hg]
 exact ⟨trivial, by omega, .inr (.inl ⟨trivial, by omega, h1, h2, hK⟩)⟩
theorem append_nil1 (hy : ∀ y ∈ ys, ∀ v ∈ y, cellV v = true) (hne : 0 < ys.length) (h1 : ys.length * ei.bytes ≤ 2 ^ 47) (h2 : ys.length ≤ 2 ^ 60)
 (hK : K (.sref H.length 0 ys.length ys.length ei.sz false) (H ++ [some (.row ei.sz true ys)])) : wpAppend P H ei (.prim (.slice none 0 0)) ys K := by
 unfold wpAppend
 exact ⟨hy, fun e => by rw [e] at hne; simp at hne, fun _ => ⟨h1, h2, hK⟩⟩
theorem hcel_cell (S : List (List Pt)) : ∀ y ∈ S.map hcel, ∀ v ∈ y, cellV v = true := by
 intro y hy v hv
 obtain ⟨a, _, rfl⟩ := List.mem_map.1 hy
 simp only [hcel, List.mem_singleton] at hv
 rw [hv]; rfl
theorem insH_okH {S : List (List Pt)} {h : List Pt} {Q : List Pt → Prop} (h1 : ∀ a ∈ S, Q a) (h2 : Q h) : ∀ a ∈ insH S h, Q a := by
 intro a ha
 rcases List.mem_cons.1 ((insH_perm S h).mem_iff.1 ha) with rfl | ha
 ·exact h2
 ·exact h1 a ha
theorem rcanonP_pc (L : List Pt) (Hs : List (List Pt)) (few : Hs.length ≤ 8) (hC : ∀ l ∈ L :: Hs, Can l) (S : List (List Pt)) (hS : (Hs.map canonL).foldl insH [] = S)
 (hck : PC prog 75 [cgV (canonL L) S] (.prim (.int .i64 (0)))) : PC prog 73 [cgV L Hs] (.tup [cgV (canonL L) S, .prim (.int .i64 (0))]) := by
 have c0 := rcanon10_pc L (hC L (List.mem_cons_self ..))
 generalize canonL L = L' at *
 rcases Hs with _ | ⟨h0, Hs0⟩
 ·have hS0 : S = [] := by rw [← hS]; rfl
  subst hS0
  have ck : PC prog 75 [.agg [psV L', .prim (.slice none 0 0)]] (.prim (.int .i64 (0))) := PC_nilA hck
  refine PC_nilR ?_
  refine PCi ?_
  conv in trip _ _ => cbv
  simp only [runT, RN, simprocAttr]
  simp (disch := omega) only [↓RS, RZ, simprocAttr, cgV, psV, List.map_nil]
  refine cX c0 ?_
  simp (disch := omega) only [↓RS, RZ, simprocAttr, psV]
  refine wp_iter 1 ?_
  simp (disch := omega) only [↓RS, RZ, simprocAttr, iterL_s, itQ_normal, itQ_exit, itQ_ret, psV]
  refine cX ck ?_
  simp (disch := omega) only [↓RS, RZ, simprocAttr, psV]
 ·generalize hHs : h0 :: Hs0 = Hs at *
  have hpos : 0 < Hs.length := by rw [← hHs]; simp
  have hSl : S.length = Hs.length := by
   rw [← hS, show ∀ X : List (List Pt), (X.foldl insH []).length = X.length from fun X => by
    have : ∀ (X S : List (List Pt)), (X.foldl insH S).length = S.length + X.length := by
     intro X
     induction X with
     | nil => intro S; rfl
     | cons a X ih => intro S; rw [List.foldl_cons, ih, insH_length, List.length_cons]; omega
    rw [this]; simp, List.length_map]
  refine PCi ?_
  conv in trip _ _ => cbv
  simp only [runT, RN, simprocAttr]
  simp (disch := omega) only [↓RS, RZ, simprocAttr, cgV, psV]
  refine cX c0 ?_
  simp (disch := omega) only [↓RS, RZ, simprocAttr, psV]
  refine wp_lp (fun (s : Nat × V) J => ov [(1, .ptr 0 0 0), (2, .ptr 1 0 0), (6, .ptr 2 0 0), (7, .prim (.int .i64 ((s.1 : Nat) : Int)))] J 0 87) (fun s H => s.1 ≤ Hs.length ∧ get H 0 = some (.row 2 true [[psV L, .lst 1 ((Hs.map psV).map fun v => [v])]]) ∧ get H 1 = some (.row 2 true [[.prim (.slice none 0 0), .prim (.slice none 0 0)]]) ∧ get H 2 = some (.row 2 true [[psV L', s.2]]) ∧ Bufn 3 H s.2 1 ((((Hs.take s.1).map canonL).foldl insH []).map hcel)) (fun s => Hs.length - s.1) (0, .prim (.slice none 0 0)) rfl ⟨Nat.zero_le _, rfl, rfl, rfl, .nil (by simp)⟩ ?_
  rintro ⟨i, v⟩ J H ⟨hi, g0, g1, g2, hB⟩
  try conv in ov _ _ _ _ => simp only [ov, List.lookup, RO, simprocAttr]
  simp only at hi g0 g1 g2 hB ⊢
  have len_fold : ∀ (X S : List (List Pt)), (X.foldl insH S).length = S.length + X.length := by
   intro X
   induction X with
   | nil => intro S; rfl
   | cons a X ih => intro S; rw [List.foldl_cons, ih, insH_length, List.length_cons]; omega
  rcases Nat.lt_or_ge i Hs.length with hlt | hge
  ·have g := pg_getD hlt
   have hm : Hs.getD i [] ∈ Hs := by rw [List.getD_eq_getElem?_getD, List.getElem?_eq_getElem hlt]; exact List.getElem_mem hlt
   have hci := hC _ (List.mem_cons_of_mem _ hm)
   have cc := rcanon10_pc (Hs.getD i []) hci
   have eS : ((Hs.take (i + 1)).map canonL).foldl insH [] = insH (((Hs.take i).map canonL).foldl insH []) (canonL (Hs.getD i [])) := by
    rw [List.take_add_one, List.getElem?_eq_getElem hlt, List.map_append, List.foldl_append, List.getD_eq_getElem?_getD, List.getElem?_eq_getElem hlt]; rfl
   have sl : (((Hs.take i).map canonL).foldl insH []).length = i := by
    rw [len_fold, List.length_map, List.length_take]; simp only [List.length_nil]; omega
   have hok : ∀ a : List Pt, Can a → 3 ≤ (canonL a).length ∧ hl (canonL a) (2 ^ 20) := fun a ha => by
    have := ha.lo
    exact ⟨by rw [canonL_length (by omega)]; exact ha.lo, fun p hp => Nat.le_trans (ha.ht p (canonL_mem hp)) (by omega)⟩
   have sq : ∀ a ∈ ((Hs.take i).map canonL).foldl insH [], 3 ≤ a.length ∧ hl a (2 ^ 20) := by
    have : ∀ (X S : List (List Pt)), (∀ a ∈ X, 3 ≤ a.length ∧ hl a (2 ^ 20)) → (∀ a ∈ S, 3 ≤ a.length ∧ hl a (2 ^ 20)) → ∀ a ∈ X.foldl insH S, 3 ≤ a.length ∧ hl a (2 ^ 20) := by
     intro X
     induction X with
     | nil => intro S _ h; exact h
     | cons b X ih => intro S h1 h2; exact ih (insH S b) (fun a ha => h1 a (List.mem_cons_of_mem _ ha)) (insH_okH h2 (h1 b (List.mem_cons_self ..)))
    refine this _ _ (fun a ha => ?_) (fun a ha => by cases ha)
    obtain ⟨x, hx, rfl⟩ := List.mem_map.1 ha
    exact hok x (hC x (List.mem_cons_of_mem _ (List.mem_of_mem_take hx)))
   have hh := hok _ hci
   generalize ((Hs.take i).map canonL).foldl insH [] = T at *
   generalize canonL (Hs.getD i []) = h at *
   have d1 := hB.one
   have d2 := hB.cel
   have hN := hB.1
   have p1 := pc_getD (l := h) (k := 0) (by omega)
   rcases hB.2 with ⟨e0, rfl⟩ | ⟨b, hb, rfl, hgb⟩
   ·have hT : T = [] := List.map_eq_nil_iff.1 e0
    subst hT
    have hi0 : i = 0 := by simpa using sl.symm
    subst hi0
    simp (disch := omega) only [↓RS, RZ, simprocAttr, g, psV, g0, one_length, pgs_length]
    refine cX cc ?_
    simp (disch := omega) only [↓RS, RZ, simprocAttr, psV, g2]
    refine wp_iter 1 ?_
    have n1 : (H.length == 2) = false := by rw [beq_eq_false_iff_ne]; omega
    have n2 : (2 == H.length) = false := by rw [beq_eq_false_iff_ne]; omega
    have n3 : ∀ x, ((H ++ [x]).length == 2) = false := fun x => by rw [beq_eq_false_iff_ne, List.length_append]; omega
    have a2 : ∀ x, get (H ++ [x]) 2 = some (.row 2 true [[psV L', .prim (.slice none 0 0)]]) := fun x => get_app g2
    simp (disch := omega) only [↓RS, RZ, simprocAttr, iterL_s, itQ_normal, itQ_exit, itQ_ret, psV, g2, get_app_len, n1, n2, n3, a2]
    refine append_lit0 get_app_len ?_
    simp (disch := omega) only [↓RS, RZ, simprocAttr, psV, get_app_len, n1, n2, n3, a2]
    refine append_nil1 (by simp [cellV]) (by simp) (by simp) (by simp) ?_
    have a3 : ∀ x y, get (H ++ [x] ++ [y]) 2 = some (.row 2 true [[psV L', .prim (.slice none 0 0)]]) := fun x y => get_app (get_app g2)
    simp (disch := omega) only [↓RS, RZ, simprocAttr, psV, a3]
    refine lp_next (0 + 1, .sref (H ++ [some (Blk.row 1 true [[psV h]])]).length 0 1 1 1 false) rfl ⟨hlt, ?_, ?_, ?_, ?_⟩ (by simp only; omega)
    ·rw [get_ne (by omega)]; exact get_app (get_app g0)
    ·rw [get_ne (by omega)]; exact get_app (get_app g1)
    ·rw [get_eq (by rw [List.length_append, List.length_append]; omega)]; rfl
    ·rw [eS]
     refine Bufn.set ⟨by rw [List.length_append, List.length_append]; omega, .inr ⟨(H ++ [some (Blk.row 1 true [[psV h]])]).length, by rw [List.length_append]; omega, rfl, get_app_len⟩⟩ (by omega)
   ·have hTl : (T.map hcel).length = i := by rw [List.length_map]; exact sl
    rw [hTl] at g2
    have hbl := get_lt_len hgb
    simp (disch := omega) only [↓RS, RZ, simprocAttr, g, psV, g0, one_length, pgs_length]
    refine cX cc ?_
    simp (disch := omega) only [↓RS, RZ, simprocAttr, psV, g2]
    refine wp_lp (fun (k : Nat) J => ov [(1, .ptr 0 0 0), (2, .ptr 1 0 0), (6, .ptr 2 0 0), (7, .prim (.int .i64 ((i : Nat) : Int))), (8, psV h), (10, .prim (.int .i64 ((k : Nat) : Int)))] J 0 87) (fun k H' => (k ≤ i ∧ insK T h i = insK T h k) ∧ H' = H) (fun k => k) i rfl ⟨⟨Nat.le_refl _, rfl⟩, rfl⟩ ?_
    rintro k J' H' ⟨⟨hk, hkk⟩, hH⟩
    try conv in ov _ _ _ _ => simp only [ov, List.lookup, RO, simprocAttr]
    rw [hH]
    clear hH
    by_cases hgo : 0 < k ∧ 0 < cmpH (T.getD (k - 1) []) h
    ·obtain ⟨hk0, hgt⟩ := hgo
     have hm2 : T.getD (k - 1) [] ∈ T := by rw [List.getD_eq_getElem?_getD, List.getElem?_eq_getElem (by omega)]; exact List.getElem_mem _
     have hq := sq _ hm2
     have gT := hc_get (l := T) (i := k - 1) (by omega)
     have p2 := pc_getD (l := T.getD (k - 1) []) (k := 0) (by omega)
     have vc := rvcmp_pc ((T.getD (k - 1) []).getD 0 default) (h.getD 0 default) (Nat.le_trans (hl_get hq.2 (by omega)) (by omega)) (Nat.le_trans (hl_get hh.2 (by omega)) (by omega))
     have hin : insK T h k = insK T h (k - 1) := by
      cases k with
      | zero => omega
      | succ j => rw [insK]; exact if_pos hgt
     have hgt : 0 < cmpP ((T.getD (k - 1) []).getD 0 default) (h.getD 0 default) := hgt
     simp (disch := omega) only [↓RS, RZ, simprocAttr, psV, g2, hgb, gT, hcel, pc_length, p1, p2, pc]
     refine cX vc ?_
     simp (disch := omega) only [↓RS, RZ, simprocAttr]
     exact lp_next (k - 1) rfl ⟨⟨by omega, by rw [hkk, hin]⟩, rfl⟩ (by omega)
    ·have hk2 : insK T h i = k := by
      rw [hkk]
      cases k with
      | zero => rfl
      | succ j => rw [insK]; exact if_neg (fun c => hgo ⟨by omega, c⟩)
     have eIns : insH T h = T.take k ++ h :: T.drop k := by unfold insH; rw [sl, hk2]
     have n1 : (H.length == 2) = false := by rw [beq_eq_false_iff_ne]; omega
     have n2 : (2 == H.length) = false := by rw [beq_eq_false_iff_ne]; omega
     have n3 : ∀ x, ((H ++ [x]).length == 2) = false := fun x => by rw [beq_eq_false_iff_ne, List.length_append]; omega
     have n4 : (H.length == b) = false := by rw [beq_eq_false_iff_ne]; omega
     have n5 : (b == H.length) = false := by rw [beq_eq_false_iff_ne]; omega
     have n6 : ∀ x, ((H ++ [x]).length == b) = false := fun x => by rw [beq_eq_false_iff_ne, List.length_append]; omega
     have n7 : (b == 2) = false := by rw [beq_eq_false_iff_ne]; omega
     have n8 : (2 == b) = false := by rw [beq_eq_false_iff_ne]; omega
     have a1 : ∀ x, get (H ++ [x]) b = some (.row 1 true (T.map hcel)) := fun x => get_app hgb
     have a2 : ∀ x, get (H ++ [x]) 2 = some (.row 2 true [[psV L', .sref b 0 i i 1 false]]) := fun x => get_app g2
     have a3 : ∀ x y, get (H ++ [x] ++ [y]) 2 = some (.row 2 true [[psV L', .sref b 0 i i 1 false]]) := fun x y => get_app (get_app g2)
     have a4 : ∀ x y z, get (H ++ [x] ++ [y] ++ [z]) 2 = some (.row 2 true [[psV L', .sref b 0 i i 1 false]]) := fun x y z => get_app (get_app (get_app g2))
     by_cases hk0 : k = 0
     case' pos =>
      simp (disch := omega) only [↓RS, RZ, simprocAttr, psV, g2, hgb, get_app_len, n1, n2, n3, n4, n5, n6, n7, n8, a1, a2, hTl]
     case' neg =>
      have hm2 : T.getD (k - 1) [] ∈ T := by rw [List.getD_eq_getElem?_getD, List.getElem?_eq_getElem (by omega)]; exact List.getElem_mem _
      have hq := sq _ hm2
      have gT := hc_get (l := T) (i := k - 1) (by omega)
      have p2 := pc_getD (l := T.getD (k - 1) []) (k := 0) (by omega)
      have vc := rvcmp_pc ((T.getD (k - 1) []).getD 0 default) (h.getD 0 default) (Nat.le_trans (hl_get hq.2 (by omega)) (by omega)) (Nat.le_trans (hl_get hh.2 (by omega)) (by omega))
      have hgt : ¬ 0 < cmpP ((T.getD (k - 1) []).getD 0 default) (h.getD 0 default) := fun c => hgo ⟨by omega, c⟩
      simp (disch := omega) only [↓RS, RZ, simprocAttr, psV, g2, hgb, gT, hcel, pc_length, p1, p2, pc]
      refine cX vc ?_
      simp (disch := omega) only [↓RS, RZ, simprocAttr, psV, g2, hgb, get_app_len, n1, n2, n3, n4, n5, n6, n7, n8, a1, a2, hTl]
     all_goals (
      have hyl : ((T.drop k).map hcel).length = i - k := by rw [List.length_map, List.length_drop, sl]
      have ey : List.take (i - k) (List.drop k (T.map hcel)) = (T.drop k).map hcel := by rw [← List.map_drop, List.take_of_length_le (by omega)]
      have hes : (T.map hcel).take k ++ ([.lst 6 (h.map pc)] :: (T.drop k).map hcel) = (insH T h).map hcel := by
       rw [eIns, List.map_append, List.map_cons, List.map_take]; rfl
      have hil : ((insH T h).map hcel).length = i + 1 := by rw [List.length_map, insH_length, sl]
      rw [ey]
      by_cases hki : k = i
      ·have e : (T.drop k).map hcel = [] := List.length_eq_zero_iff.1 (by omega)
       rw [e] at hes ⊢
       refine append_lit0 get_app_len ?_
       simp (disch := omega) only [↓RS, RZ, simprocAttr, psV, get_app_len, n1, n2, n3, n4, n5, n6, n7, n8, a1, a2, hTl]
       rw [Nat.sub_zero]
       refine append_pre (get_app hgb) (by rw [hTl]; exact hk) (by simp [cellV]) (by simp) (by simp; omega) (by simp; omega) ?_
       rw [hes]
       simp (disch := omega) only [↓RS, RZ, simprocAttr, psV, a3]
       refine lp_next (i + 1, .sref (H ++ [some (Blk.row 1 true [[psV h]])]).length 0 (k + 1) (k + 1) 1 false) rfl ⟨hlt, ?_, ?_, ?_, ?_⟩ (by simp only; omega)
       ·rw [get_ne (by omega)]; exact get_app (get_app g0)
       ·rw [get_ne (by omega)]; exact get_app (get_app g1)
       ·rw [get_eq (by rw [List.length_append, List.length_append]; omega)]; rfl
       ·rw [eS]
        refine Bufn.set ⟨by rw [List.length_append, List.length_append]; omega, .inr ⟨(H ++ [some (Blk.row 1 true [[psV h]])]).length, by rw [List.length_append]; omega, by rw [hil, hki], get_app_len⟩⟩ (by omega)
      ·refine append_lit1 get_app_len (hcel_cell _) (by omega) (by simp only; omega) (by omega) ?_
       rw [hyl]
       have tk : List.take (1 + (i - k)) ([V.lst 6 (h.map pc)] :: (T.drop k).map hcel) = [V.lst 6 (h.map pc)] :: (T.drop k).map hcel := by rw [List.take_of_length_le (by rw [List.length_cons, hyl]; omega)]
       have a5 : ∀ x y, get (H ++ [x] ++ [y]) b = some (.row 1 true (T.map hcel)) := fun x y => get_app (get_app hgb)
       have m1 : ∀ x, ((H ++ [x]).length == H.length) = false := fun x => by rw [beq_eq_false_iff_ne, List.length_append]; simp
       have m2 : ∀ x, (H.length == (H ++ [x]).length) = false := fun x => by rw [beq_eq_false_iff_ne, List.length_append]; simp
       have m3 : ∀ x y, ((H ++ [x] ++ [y]).length == 2) = false := fun x y => by rw [beq_eq_false_iff_ne, List.length_append, List.length_append]; omega
       simp (disch := omega) only [↓RS, RZ, simprocAttr, psV, get_app_len, n1, n2, n3, n4, n5, n6, n7, n8, a1, a3, a5, m1, m2, m3, hTl, hyl, tk, List.length_cons]
       rw [Nat.sub_zero]
       refine append_pre (get_app (get_app hgb)) (by rw [hTl]; exact hk) (fun y hy => by
        rcases List.mem_cons.1 hy with rfl | hy
        ·simp [cellV]
        ·exact hcel_cell _ y hy) (by simp) (by rw [List.length_cons, hyl]; simp only; omega) (by rw [List.length_cons, hyl]; omega) ?_
       rw [hes, List.length_cons, hyl]
       simp (disch := omega) only [↓RS, RZ, simprocAttr, psV, a4]
       generalize hX : H ++ [some (Blk.row 1 true [[V.lst 6 (h.map pc)]])] ++ [some (Blk.row 1 true ([V.lst 6 (h.map pc)] :: (T.drop k).map hcel))] = X
       have hXl : X.length = H.length + 2 := by rw [← hX, List.length_append, List.length_append]; rfl
       have x0 : ∀ {c K}, get H c = some K → get X c = some K := fun g => by rw [← hX]; exact get_app (get_app g)
       refine lp_next (i + 1, .sref X.length 0 (k + (i - k + 1)) (k + (i - k + 1)) 1 false) rfl ⟨hlt, ?_, ?_, ?_, ?_⟩ (by simp only; omega)
       ·rw [get_ne (by omega)]; exact get_app (x0 g0)
       ·rw [get_ne (by omega)]; exact get_app (x0 g1)
       ·rw [get_eq (by rw [List.length_append]; omega)]
       ·rw [eS]
        refine Bufn.set ⟨by rw [List.length_append]; omega, .inr ⟨X.length, by omega, by rw [hil, show k + (i - k + 1) = i + 1 by omega], get_app_len⟩⟩ (by omega)
     )
  ·have hia : i = Hs.length := by omega
   subst hia
   rw [List.take_length, hS] at hB
   have hSm : (S.map hcel).length = Hs.length := by rw [List.length_map]; exact hSl
   obtain ⟨b, hb, rfl, hgb⟩ := hB.cases (by intro e; rw [e] at hSm; simp only [List.length_nil] at hSm; omega)
   rw [hSm] at g2
   have k2 : (S.map hcel).take Hs.length = S.map hcel := by rw [List.take_of_length_le (by omega)]
   have k3 := viewLL_hcel H 6 S
   have ck : PC prog 75 [.agg [.lst 6 (L'.map pc), .lst 1 (S.map hcel)]] (.prim (.int .i64 (0))) := by
    have : (S.map psV).map (fun v => [v]) = S.map hcel := by rw [List.map_map]; rfl
    rw [cgV, this] at hck
    exact hck
   have eg : (S.map psV).map (fun v => [v]) = S.map hcel := by rw [List.map_map]; rfl
   rw [eg]
   have s1 : ∀ x, get (H.set 1 x) 1 = x := fun x => get_eq (get_lt_len g1)
   have s2 : ∀ x, get (H.set 1 x) b = some (.row 1 true (S.map hcel)) := fun x => by rw [get_ne (by omega)]; exact hgb
   have k4 : ∀ x, view.viewLL (H.set 1 x) 6 (S.map hcel) = some (S.map hcel) := fun x => viewLL_hcel _ 5 S
   simp (disch := omega) only [↓RS, RZ, simprocAttr, psV, g0, g2, hgb, hSm, k2, k3, one_length, pgs_length]
   refine cX ck ?_
   simp (disch := omega) only [↓RS, RZ, simprocAttr, psV, g1, g2, s1, s2, hSm, k2, k4]
end Go.Av
