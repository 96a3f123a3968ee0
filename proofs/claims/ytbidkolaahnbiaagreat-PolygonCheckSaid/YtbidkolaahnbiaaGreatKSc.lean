/- Helping texts: Sc, Sd. -/
import Derived.Test.YtbidkolaahnbiaaGreatKSb
import Derived.Test.YtbidkolaahnbiaaGreatKDj
set_option linter.unusedSimpArgs false
set_option linter.unusedVariables false
set_option maxRecDepth 100000
set_option maxHeartbeats 16000000
namespace Go.Av
open Go.RowKit
open Go.Proofs.Tryz (prog)
theorem rb_between {a b p:Pt} (h:a≠b):rbetween a b p=between a b p:=by
 rw [Bool.eq_iff_iff,rbetween_onSeg h]
 exact ⟨fun k=>onSeg_between k h,between_onSeg⟩
theorem ron_pc (L:List Pt) (p:Pt) (hR:Ring L) (hp0:hp p≤2^20):PC prog 304 [psV L,pV p] (.prim (.bool (onB L p))):=by
 have hn:=hR.hi
 have hL:hl L (2^26):=hR.le (by omega)
 refine PCi ?_
 conv in trip _ _=>cbv
 simp only [runT,RN,simprocAttr]
 simp (disch:=omega) only [↓RS,RZ,simprocAttr,psV,pV,ptV]
 refine wp_lp (fun (i:Nat) J=>ov [(0,psV L),(3,.ptr 0 0 0),(5,.prim (.int .i64 ((i:Nat):Int)))] J 0 21) (fun i H=>(i≤L.length∧∀ j,j<i→between (L.getD j default) (nx L j) p=false)∧H=[some (.row 6 true [pc p])]) (fun i=>L.length-i) 0 rfl ⟨⟨Nat.zero_le _,fun j hj=>absurd hj (Nat.not_lt_zero j)⟩,rfl⟩ ?_
 rintro i J _ ⟨⟨hi,hp⟩,rfl⟩
 try conv in ov _ _ _ _=>simp only [ov,List.lookup,RO,simprocAttr]
 rcases Nat.lt_or_ge i L.length with hlt|hge
 ·have g1:=pc_getD hlt
  have n1:=rnext_pc L i (by omega) (by omega) (by omega)
  have b:=rbetween_pc (L.getD i default) (nx L i) p (hl_get hL hlt) (nx_le hL (by omega)) (by omega)
  rw [rb_between (hR.next_ne hlt)] at b
  cases hb:between (L.getD i default) (nx L i) p with
  |true=>
   rw [hb] at b
   rw [onB_true hlt hb]
   simp (disch:=omega) only [↓RS,RZ,simprocAttr,psV,pc_length,g1,pc]
   refine cX n1 ?_
   simp (disch:=omega) only [↓RS,RZ,simprocAttr,pV,ptV,pc]
   refine cX b ?_
   simp (disch:=omega) only [↓RS,RZ,simprocAttr]
  |false=>
   rw [hb] at b
   simp (disch:=omega) only [↓RS,RZ,simprocAttr,psV,pc_length,g1,pc]
   refine cX n1 ?_
   simp (disch:=omega) only [↓RS,RZ,simprocAttr,pV,ptV,pc]
   refine cX b ?_
   simp (disch:=omega) only [↓RS,RZ,simprocAttr]
   exact lp_next (i+1) rfl ⟨⟨hlt,fun j hj=>by
    rcases Nat.lt_or_ge j i with h|h
    ·exact hp j h
    ·rw [show j=i by omega];exact hb⟩,rfl⟩ (by omega)
 ·have hia:i=L.length:=by omega
  subst hia
  rw [onB_false hp]
  simp (disch:=omega) only [↓RS,RZ,simprocAttr,psV,pc_length]
theorem rodd_pc (L:List Pt) (p:Pt) (hn:L.length≤2^30) (hL:hl L (2^26)) (hp0:hp p≤2^26):PC prog 305 [psV L,pV p] (.prim (.bool (oddTo L p L.length))):=by
 refine PCi ?_
 conv in trip _ _=>cbv
 simp only [runT,RN,simprocAttr]
 simp (disch:=omega) only [↓RS,RZ,simprocAttr,psV,pV,ptV]
 refine wp_lp (fun (i:Nat) J=>ov [(0,psV L),(3,.ptr 0 0 0),(5,.prim (.bool (oddTo L p i))),(6,.prim (.int .i64 ((i:Nat):Int)))] J 0 50) (fun i H=>i≤L.length∧get H 0=some (.row 6 true [pc p])) (fun i=>L.length-i) 0 rfl ⟨Nat.zero_le _,rfl⟩ ?_
 rintro i J H ⟨hi,h0⟩
 try conv in ov _ _ _ _=>simp only [ov,List.lookup,RO,simprocAttr]
 rcases Nat.lt_or_ge i L.length with hlt|hge
 ·have g1:=pc_getD hlt
  have n1:=rnext_pc L i (by omega) (by omega) (by omega)
  have e:oddTo L p (i+1)=oddStep p (L.getD i default) (nx L i) (oddTo L p i):=rfl
  have k1:=hl_get hL hlt
  have k2:=nx_le (i:=i) hL (by omega)
  generalize oddTo L p i=o at*
  generalize L.getD i default=a at*
  generalize nx L i=b at*
  have y1:=hp_y a;have y2:=hp_y b;have y3:=hp_y p
  have c1:=rcmpQ_pc a.y p.y (by omega) (by omega)
  have c2:=rcmpQ_pc b.y p.y (by omega) (by omega)
  have r1:=rorient_pc b a p (by omega) (by omega) (by omega)
  have r2:=rorient_pc a b p (by omega) (by omega) (by omega)
  have hN:=get_lt_len h0
  have w0:∀ x y,get (H++[x]++[y]) 0=some (.row 6 true [pc p]):=fun x y=>get_app (get_app h0)
  have q1:∀ x y,get (H++[x]++[y]) H.length=x:=fun x y=>get_app_len2
  have q2:∀ x y,get (H++[x]++[y]) (H.length+1)=y:=fun x y=>by
   have:get (H++[x]++[y]) (H++[x]).length=y:=get_app_len
   rwa [List.length_append] at this
  have q3:∀ x,(H++[x]).length=H.length+1:=fun x=>by rw [List.length_append];rfl
  have q4:∀ x y z,(H++[x]++[y]).set H.length z=H++[z]++[y]:=fun x y z=>set_app_len2
  have q5:∀ x y z,(H++[x]++[y]).set (H.length+1) z=H++[x]++[z]:=fun x y z=>by
   have:(H++[x]++[y]).set (H++[x]).length z=H++[x]++[z]:=set_app_len
   rwa [List.length_append] at this
  have q6:(H.length+1==H.length)=false:=by rw [beq_eq_false_iff_ne];omega
  unfold oddStep aboveB at e
  by_cases u:0<cmpQ a.y p.y
  ·by_cases d:0<cmpQ b.y p.y
   ·rw [decide_eq_true u,decide_eq_true d] at e
    simp only [Bool.not_true,Bool.false_and,Bool.false_eq_true,if_true,if_false] at e
    simp (disch:=omega) only [↓RS,RZ,simprocAttr,psV,pc_length,g1,pc]
    refine cX n1 ?_
    simp (disch:=omega) only [↓RS,RZ,simprocAttr,pV,ptV,pc,q1,q2,q3,q4,q5,q6,w0]
    refine cX c1 ?_
    simp (disch:=omega) only [↓RS,RZ,simprocAttr,pc,q1,q2,q3,w0]
    refine cX c2 ?_
    simp (disch:=omega) only [↓RS,RZ,simprocAttr,eqA_bool9,tf_beq,ft_beq]
    exact lp_next (i+1) (by rw [e];rfl) ⟨hlt,w0 _ _⟩ (by omega)
   ·rw [decide_eq_true u,decide_eq_false d] at e
    simp only [Bool.not_false,Bool.true_and,if_true] at e
    simp (disch:=omega) only [↓RS,RZ,simprocAttr,psV,pc_length,g1,pc]
    refine cX n1 ?_
    simp (disch:=omega) only [↓RS,RZ,simprocAttr,pV,ptV,pc,q1,q2,q3,q4,q5,q6,w0]
    refine cX c1 ?_
    simp (disch:=omega) only [↓RS,RZ,simprocAttr,pc,q1,q2,q3,w0]
    refine cX c2 ?_
    simp (disch:=omega) only [↓RS,RZ,simprocAttr,eqA_bool9,tf_beq,ft_beq,pc,q1,q2,q3,w0]
    refine cX r1 ?_
    by_cases z:0<orient b a p
    ·rw [decide_eq_true z,if_pos rfl] at e
     simp (disch:=omega) only [↓RS,RZ,simprocAttr]
     exact lp_next (i+1) (by rw [e];rfl) ⟨hlt,w0 _ _⟩ (by omega)
    ·rw [decide_eq_false z,if_neg (by simp)] at e
     simp (disch:=omega) only [↓RS,RZ,simprocAttr]
     exact lp_next (i+1) (by rw [e];rfl) ⟨hlt,w0 _ _⟩ (by omega)
  ·by_cases d:0<cmpQ b.y p.y
   ·rw [decide_eq_false u,decide_eq_true d] at e
    simp only [Bool.true_and,Bool.false_eq_true,if_false] at e
    simp (disch:=omega) only [↓RS,RZ,simprocAttr,psV,pc_length,g1,pc]
    refine cX n1 ?_
    simp (disch:=omega) only [↓RS,RZ,simprocAttr,pV,ptV,pc,q1,q2,q3,q4,q5,q6,w0]
    refine cX c1 ?_
    simp (disch:=omega) only [↓RS,RZ,simprocAttr,pc,q1,q2,q3,w0]
    refine cX c2 ?_
    simp (disch:=omega) only [↓RS,RZ,simprocAttr,eqA_bool9,tf_beq,ft_beq,pc,q1,q2,q3,q4,q5,q6,w0]
    refine cX r2 ?_
    by_cases z:0<orient a b p
    ·rw [decide_eq_true z,if_pos rfl] at e
     simp (disch:=omega) only [↓RS,RZ,simprocAttr]
     exact lp_next (i+1) (by rw [e];rfl) ⟨hlt,w0 _ _⟩ (by omega)
    ·rw [decide_eq_false z,if_neg (by simp)] at e
     simp (disch:=omega) only [↓RS,RZ,simprocAttr]
     exact lp_next (i+1) (by rw [e];rfl) ⟨hlt,w0 _ _⟩ (by omega)
   ·rw [decide_eq_false u,decide_eq_false d] at e
    simp only [Bool.false_and,Bool.false_eq_true,if_false] at e
    simp (disch:=omega) only [↓RS,RZ,simprocAttr,psV,pc_length,g1,pc]
    refine cX n1 ?_
    simp (disch:=omega) only [↓RS,RZ,simprocAttr,pV,ptV,pc,q1,q2,q3,q4,q5,q6,w0]
    refine cX c1 ?_
    simp (disch:=omega) only [↓RS,RZ,simprocAttr,pc,q1,q2,q3,w0]
    refine cX c2 ?_
    simp (disch:=omega) only [↓RS,RZ,simprocAttr,eqA_bool9,tf_beq,ft_beq]
    exact lp_next (i+1) (by rw [e];rfl) ⟨hlt,w0 _ _⟩ (by omega)
 ·have hia:i=L.length:=by omega
  subst hia
  simp (disch:=omega) only [↓RS,RZ,simprocAttr,psV,pc_length]
theorem rside_pc (L:List Pt) (p:Pt) (hR:Ring L) (hp0:hp p≤2^20):PC prog 271 [psV L,pV p] (.prim (.int .i64 (sideS L p))):=by
 have hn:=hR.hi
 have o:=ron_pc L p hR hp0
 have d:=rodd_pc L p (by omega) (hR.le (by omega)) (by omega)
 unfold sideS
 cases h1:onB L p with
 |true=>
  rw [if_pos rfl]
  rw [h1] at o
  refine PCi ?_
  conv in trip _ _=>cbv
  simp only [runT,RN,simprocAttr]
  simp (disch:=omega) only [↓RS,RZ,simprocAttr,psV,pV,ptV,pc]
  refine cX o ?_
  simp (disch:=omega) only [↓RS,RZ,simprocAttr]
 |false=>
  rw [if_neg (by simp)]
  rw [h1] at o
  cases h2:oddTo L p L.length with
  |true=>
   rw [if_pos rfl]
   rw [h2] at d
   refine PCi ?_
   conv in trip _ _=>cbv
   simp only [runT,RN,simprocAttr]
   simp (disch:=omega) only [↓RS,RZ,simprocAttr,psV,pV,ptV,pc]
   refine cX o ?_
   simp (disch:=omega) only [↓RS,RZ,simprocAttr,psV,pV,ptV,pc]
   refine cX d ?_
   simp (disch:=omega) only [↓RS,RZ,simprocAttr]
  |false=>
   rw [if_neg (by simp)]
   rw [h2] at d
   refine PCi ?_
   conv in trip _ _=>cbv
   simp only [runT,RN,simprocAttr]
   simp (disch:=omega) only [↓RS,RZ,simprocAttr,psV,pV,ptV,pc]
   refine cX o ?_
   simp (disch:=omega) only [↓RS,RZ,simprocAttr,psV,pV,ptV,pc]
   refine cX d ?_
   simp (disch:=omega) only [↓RS,RZ,simprocAttr]
theorem Ring.rcheck_pc {L:List Pt} (h:Ring L):PC prog 163 [psV L] (.prim (.int .i64 (0))):=by
 have:=rcheck10_pc (L.map Pt.rp) (by rw [List.length_map];have:=h.hi;omega) (rp_le h.ht)
 rw [chkR_rp h.lo h.hi,h.ok,←psV_rps] at this
 exact this
theorem rvcheckP_pc (p:Pt) (h:hp p≤2^20):PC prog 83 [pV p] (.prim (.int .i64 (0))):=by
 have h1:=hp_x p;have h2:=hp_y p
 have:=rvcheck_pc (can p.x) (can p.y) (can_le (by omega)) (can_le (by omega))
 rw [can_val,can_val,if_pos ⟨rfl,rfl⟩] at this
 exact this
theorem rinside_pc (L:List Pt) (p:Pt) (hR:Ring L) (hp0:hp p≤2^20):PC prog 215 [psV L,pV p] (.tup [.prim (.int .i64 (sideS L p)),.prim (.int .i64 (0))]):=by
 have c:=hR.rcheck_pc
 have v:=rvcheckP_pc p hp0
 have s:=rside_pc L p hR hp0
 refine PCi ?_
 conv in trip _ _=>cbv
 simp only [runT,RN,simprocAttr]
 simp (disch:=omega) only [↓RS,RZ,simprocAttr,psV,pV,ptV,pc]
 refine cX c ?_
 simp (disch:=omega) only [↓RS,RZ,simprocAttr,psV,pV,ptV,pc]
 refine cX v ?_
 simp (disch:=omega) only [↓RS,RZ,simprocAttr,psV,pV,ptV,pc]
 refine cX s ?_
 simp (disch:=omega) only [↓RS,RZ,simprocAttr]
theorem rEdges_pc (L:List Pt) (hn:L.length≤2^30) (hne:L≠[]):PC prog 216 [psV L] (ssV (edgesL L)):=by
 refine PCi ?_
 conv in trip _ _=>cbv
 simp only [runT,RN,simprocAttr]
 simp (disch:=omega) only [↓RS,RZ,simprocAttr,psV]
 refine wp_lp (fun (s:Nat×V) J=>ov [(0,psV L),(3,s.2),(4,.prim (.int .i64 ((s.1:Nat):Int)))] J 0 23) (fun s H=>s.1≤L.length∧Bufn 0 H s.2 12 (((List.range s.1).map (segOf L)).map sgc)) (fun s=>L.length-s.1) (0,.prim (.slice none 0 0)) rfl ⟨Nat.zero_le _,.nil (Nat.zero_le _)⟩ ?_
 rintro ⟨i,v⟩ J H ⟨hi,hB⟩
 try conv in ov _ _ _ _=>simp only [ov,List.lookup,RO,simprocAttr]
 simp only at hi hB ⊢
 have d1:=hB.one
 have d2:=hB.cel
 rcases Nat.lt_or_ge i L.length with hlt|hge
 ·have g1:=pc_getD hlt
  have n1:=rnext_pc L i (by omega) (by omega) (by omega)
  have hrl:(List.range i).length=i:=List.length_range
  simp (disch:=omega) only [↓RS,RZ,simprocAttr,psV,pc_length,g1,pc,d1,d2]
  refine cX n1 ?_
  simp (disch:=omega) only [↓RS,RZ,simprocAttr,pV,ptV,d1,d2]
  refine Bufn.append (hB.app _) (by simp [cellV]) (by simp only [List.length_cons,List.length_nil,List.length_map,hrl];omega) (by simp only [List.length_cons,List.length_nil,List.length_map,hrl];omega) ?_
  intro v' H3 hb3 hk
  have e1:=hb3.one
  have e2:=hb3.cel
  simp (disch:=omega) only [↓RS,RZ,simprocAttr,e1,e2]
  refine lp_next (i+1,v') rfl ⟨hlt,?_⟩ (by simp only;omega)
  show Bufn 0 H3 v' 12 (((List.range (i+1)).map (segOf L)).map sgc)
  rw [range_map_succ,List.map_append]
  exact hb3
 ·have hia:i=L.length:=by omega
  subst hia
  obtain ⟨b,_,rfl,hg⟩:=hB.cases (by simpa using hne)
  have hlen:(((List.range L.length).map (segOf L)).map sgc).length=L.length:=by simp
  have htk:(((List.range L.length).map (segOf L)).map sgc).take L.length=((List.range L.length).map (segOf L)).map sgc:=by rw [List.take_of_length_le (by omega)]
  have hvl:= @viewLL_prims H 7 _ (sgc_prims ((List.range L.length).map (segOf L)))
  rw [hlen]
  simp (disch:=omega) only [↓RS,RZ,simprocAttr,psV,pc_length,hg,hlen,htk,hvl,ssV,edgesL]
end Go.Av
namespace Go.Av
open Go.RowKit
open Go.Proofs.Tryz (prog)
theorem rmeets_pc (A B:List Pt) (hA:Ring A) (hB:Ring B):PC prog 164 [psV A,psV B] (.prim (.bool (meetB A B))):=by
 have a1:=hA.lo;have a2:=hA.hi;have a3:=hB.lo;have a4:=hB.hi
 have hLA:hl A (2^20):=hA.le (by omega)
 have hLB:hl B (2^20):=hB.le (by omega)
 have ea:=rEdges_pc A (by omega) hA.ne
 have eb:=rEdges_pc B (by omega) hB.ne
 refine PCi ?_
 conv in trip _ _=>cbv
 simp only [runT,RN,simprocAttr]
 simp (disch:=omega) only [↓RS,RZ,simprocAttr,psV]
 refine cX ea ?_
 simp (disch:=omega) only [↓RS,RZ,simprocAttr,psV]
 refine cX eb ?_
 simp (disch:=omega) only [↓RS,RZ,simprocAttr,ssV,sgc_length,edgesL_length]
 refine wp_lp (fun (i:Nat) J=>ov [(5,ssV (edgesL A)),(6,ssV (edgesL B)),(7,.prim (.int .i64 ((i:Nat):Int)))] J 0 42) (fun i _=>i≤A.length∧∀ j,j<i→∀ k,k<B.length→(meetM (segOf A j) (segOf B k)).isSome=false) (fun i=>A.length-i) 0 rfl ⟨Nat.zero_le _,fun j hj=>absurd hj (Nat.not_lt_zero j)⟩ ?_
 rintro i J H ⟨hi,hp⟩
 try conv in ov _ _ _ _=>simp only [ov,List.lookup,RO,simprocAttr]
 rcases Nat.lt_or_ge i A.length with hlt|hge
 ·have g1:=edges_getD hlt
  simp (disch:=omega) only [↓RS,RZ,simprocAttr,ssV,sgc_length,edgesL_length]
  refine wp_lp (fun (k:Nat) J=>ov [(5,ssV (edgesL A)),(6,ssV (edgesL B)),(7,.prim (.int .i64 ((i:Nat):Int))),(8,.prim (.int .i64 ((k:Nat):Int)))] J 0 42) (fun k _=>k≤B.length∧∀ j,j<k→(meetM (segOf A i) (segOf B j)).isSome=false) (fun k=>B.length-k) 0 rfl ⟨Nat.zero_le _,fun j hj=>absurd hj (Nat.not_lt_zero j)⟩ ?_
  rintro k J H' ⟨hk,hq⟩
  try conv in ov _ _ _ _=>simp only [ov,List.lookup,RO,simprocAttr]
  rcases Nat.lt_or_ge k B.length with hkl|hkg
  ·have g2:=edges_getD hkl
   have m:=rSmeet_pc (segOf A i) (segOf B k) (hs_seg hLA hlt) (hs_seg hLB hkl)
   rw [rmeet_eq] at m
   simp (disch:=omega) only [↓RS,RZ,simprocAttr,ssV,sgc_length,edgesL_length,g1,g2,sgc]
   refine cX m ?_
   cases hm:(meetM (segOf A i) (segOf B k)).isSome with
   |true=>
    rw [meetB_true hlt hkl hm]
    simp (disch:=omega) only [↓RS,RZ,simprocAttr,sgV,s4V,set_app_len]
   |false=>
    simp (disch:=omega) only [↓RS,RZ,simprocAttr,sgV,s4V,set_app_len]
    exact lp_next (k+1) rfl ⟨hkl,fun j hj=>by
     rcases Nat.lt_or_ge j k with h|h
     ·exact hq j h
     ·rw [show j=k by omega];exact hm⟩ (by omega)
  ·simp (disch:=omega) only [↓RS,RZ,simprocAttr,ssV,sgc_length,edgesL_length]
   exact lp_next (i+1) rfl ⟨hlt,fun j hj k' hk'=>by
    rcases Nat.lt_or_ge j i with h|h
    ·exact hp j h k' hk'
    ·rw [show j=i by omega];exact hq k' (by omega)⟩ (by omega)
 ·have hia:i=A.length:=by omega
  subst hia
  rw [meetB_false hp]
  simp (disch:=omega) only [↓RS,RZ,simprocAttr,ssV,sgc_length,edgesL_length]
theorem rwithin_pc (A B:List Pt) (hA:Ring A) (hB:Ring B):PC prog 165 [psV B,pV (A.getD 0 default)] (.prim (.bool (withinB A B))):=by
 have a1:=hA.lo
 have c:=rinside_pc B (A.getD 0 default) hB (Nat.le_trans (hl_get hA.ht (by omega)) (by omega))
 have s:=sideS_one (l:=B) (q:=A.getD 0 default)
 unfold withinB
 generalize sideS B (A.getD 0 default)=z at*
 by_cases h:z=1
 ·subst h
  refine PCi ?_
  conv in trip _ _=>cbv
  simp only [runT,RN,simprocAttr]
  simp (disch:=omega) only [↓RS,RZ,simprocAttr,psV,pV,ptV,pc]
  refine cX c ?_
  simp (disch:=omega) only [↓RS,RZ,simprocAttr]
  try rfl
 ·rw [decide_eq_false (show ¬0<z by omega)]
  refine PCi ?_
  conv in trip _ _=>cbv
  simp only [runT,RN,simprocAttr]
  simp (disch:=omega) only [↓RS,RZ,simprocAttr,psV,pV,ptV,pc]
  refine cX c ?_
  simp (disch:=omega) only [↓RS,RZ,simprocAttr]
theorem chkH_of {O:List Rp} {hs:List (List Rp)} {i:Nat} (h:chkR (hs.getD i [])=0):chkH O hs i=
 if meetB (pts (hs.getD i [])) (pts O)=true∨anyTo i (fun j=>meetB (pts (hs.getD i [])) (pts (hs.getD j [])))=true then 13
 else if withinB (pts (hs.getD i [])) (pts O)=false then 14
 else if anyTo i (fun j=>withinB (pts (hs.getD i [])) (pts (hs.getD j []))||withinB (pts (hs.getD j [])) (pts (hs.getD i [])))=true then 22
 else if 0<i∧0≤cmpP ((pts (hs.getD (i-1) [])).getD 0 default) ((pts (hs.getD i [])).getD 0 default) then 8 else 0:=by
 unfold chkH;rw [if_neg (by simpa using h)]
theorem rcheckP_pc (O:List Rp) (hs:List (List Rp)) (hn:hs.length<2^40) (nO:O.length<2^40) (kO:∀ p∈O,p.le (2^16)) (kh:∀ l∈hs,l.length<2^40∧∀ p∈l,p.le (2^16)):
 PC prog 75 [pgV O hs] (.prim (.int .i64 (chkP O hs))):=by
 have c:=rcheck10_pc O nO kO
 unfold chkP
 by_cases h0:chkR O=0
 ·rw [if_neg (fun h=>h h0)]
  rw [h0] at c
  by_cases h8:8<hs.length
  ·rw [if_pos h8]
   refine PCi ?_
   conv in trip _ _=>cbv
   simp only [runT,RN,simprocAttr]
   simp (disch:=omega) only [↓RS,RZ,simprocAttr,pgV,hsV,rpsV,one_length,hs_length]
   refine cX c ?_
   simp (disch:=omega) only [↓RS,RZ,simprocAttr,one_length,hs_length]
  ·rw [if_neg h8]
   obtain ⟨rO,eO⟩:=ring_of h0 kO
   rw [eO] at c
   have mem:∀ j,j<hs.length→hs.getD j []∈hs:=fun j hj=>by
    rw [List.getD_eq_getElem?_getD,List.getElem?_eq_getElem hj];exact List.getElem_mem hj
   have hget:∀ j,j<hs.length→((hs.map rpsV).map fun v=>[v]).getD j []=[rpsV (hs.getD j [])]:=fun j hj=>by rw [one_getD (by rw [hs_length];exact hj),hs_getD hj]
   have e2:pgV O hs= .agg [psV (pts O),hsV hs]:=by unfold pgV;rw [eO]
   rw [e2]
   generalize hO:pts O=P at*
   refine PCi ?_
   conv in trip _ _=>cbv
   simp only [runT,RN,simprocAttr]
   simp (disch:=omega) only [↓RS,RZ,simprocAttr,hsV,psV,one_length,hs_length]
   refine cX c ?_
   simp (disch:=omega) only [↓RS,RZ,simprocAttr,one_length,hs_length]
   refine wp_lp (fun (i:Nat) J=>ov [(1,.ptr 0 0 0),(4,.prim (.int .i64 ((i:Nat):Int)))] J 0 101) (fun i H=>(i≤hs.length∧∀ j,j<i→chkH O hs j=0)∧H=[some (.row 2 true [[psV P,hsV hs]])]) (fun i=>hs.length-i) 0 rfl ⟨⟨Nat.zero_le _,fun j hj=>absurd hj (Nat.not_lt_zero j)⟩,rfl⟩ ?_
   rintro i J _ ⟨⟨hi,hp⟩,rfl⟩
   try conv in ov _ _ _ _=>simp only [ov,List.lookup,RO,simprocAttr]
   rcases Nat.lt_or_ge i hs.length with hlt|hge
   ·have fin:∀ z,chkH O hs i=z→z≠0→firstNz hs.length (chkH O hs)=z:=fun z e hz=>by
     rw [←e] at hz ⊢;exact firstNz_found hlt hz hp
    have ci:=rcheck10_pc (hs.getD i []) (kh _ (mem i hlt)).1 (kh _ (mem i hlt)).2
    have g:=hget i hlt
    have rj:∀ j,j<i→Ring (pts (hs.getD j []))∧((hs.map rpsV).map fun v=>[v]).getD j []=[psV (pts (hs.getD j []))]:=fun j hj=>by
     obtain ⟨r1,r2⟩:=ring_of (chkH_ring (hp j hj)) (kh _ (mem j (by omega))).2
     exact ⟨r1,by rw [hget j (by omega),r2]⟩
    by_cases hz:chkR (hs.getD i [])=0
    ·rw [hz] at ci
     obtain ⟨rh,eh⟩:=ring_of hz (kh _ (mem i hlt)).2
     rw [eh] at g ci
     have e0:=chkH_of hz (O:=O) (hs:=hs)
     rw [hO] at e0
     generalize pts (hs.getD i [])=h at*
     have hl1:=rh.lo
     have m:=rmeets_pc h P rh rO
     have w:=rwithin_pc h P rh rO
     have p1:=pc_getD (l:=h) (k:=0) (by omega)
     have H0:hl h (2^20):=rh.le (by omega)
     cases hm:meetB h P with
     |true=>
      rw [hm] at m
      rw [if_pos (.inl hm)] at e0
      rw [fin 13 e0 (by decide)]
      simp (disch:=omega) only [↓RS,RZ,simprocAttr,g,psV,hsV,one_length,hs_length]
      refine cX ci ?_
      simp (disch:=omega) only [↓RS,RZ,simprocAttr,psV,hsV]
      refine cX m ?_
      simp (disch:=omega) only [↓RS,RZ,simprocAttr]
     |false=>
     rw [hm] at m
     simp (disch:=omega) only [↓RS,RZ,simprocAttr,g,psV,hsV,one_length,hs_length]
     refine cX ci ?_
     simp (disch:=omega) only [↓RS,RZ,simprocAttr,psV,hsV]
     refine cX m ?_
     simp (disch:=omega) only [↓RS,RZ,simprocAttr]
     refine wp_lp (fun (k:Nat) J=>ov [(1,.ptr 0 0 0),(4,.prim (.int .i64 ((i:Nat):Int))),(5,psV h),(7,.prim (.int .i64 ((k:Nat):Int)))] J 0 101) (fun k H=>(k≤i∧∀ j,j<k→meetB h (pts (hs.getD j []))=false)∧H=[some (.row 2 true [[psV P,hsV hs]])]) (fun k=>i-k) 0 rfl ⟨⟨Nat.zero_le _,fun j hj=>absurd hj (Nat.not_lt_zero j)⟩,rfl⟩ ?_
     rintro k J _ ⟨⟨hk,hq⟩,rfl⟩
     try conv in ov _ _ _ _=>simp only [ov,List.lookup,RO,simprocAttr]
     rcases Nat.lt_or_ge k i with hkl|hkg
     ·obtain ⟨rk,gk⟩:=rj k hkl
      have mk:=rmeets_pc h (pts (hs.getD k [])) rh rk
      cases hm2:meetB h (pts (hs.getD k [])) with
      |true=>
       rw [hm2] at mk
       rw [if_pos (.inr (anyTo_true hkl hm2))] at e0
       rw [fin 13 e0 (by decide)]
       simp (disch:=omega) only [↓RS,RZ,simprocAttr,gk,psV,hsV,one_length,hs_length]
       refine cX mk ?_
       simp (disch:=omega) only [↓RS,RZ,simprocAttr]
      |false=>
       rw [hm2] at mk
       simp (disch:=omega) only [↓RS,RZ,simprocAttr,gk,psV,hsV,one_length,hs_length]
       refine cX mk ?_
       simp (disch:=omega) only [↓RS,RZ,simprocAttr]
       exact lp_next (k+1) rfl ⟨⟨hkl,fun j hj=>by
        rcases Nat.lt_or_ge j k with h|h
        ·exact hq j h
        ·rw [show j=k by omega];exact hm2⟩,rfl⟩ (by omega)
     have ha:anyTo i (fun j=>meetB h (pts (hs.getD j [])))=false:=anyTo_false fun j hj=>hq j (by omega)
     rw [if_neg (by rw [hm,ha];simp)] at e0
     clear hq hk
     cases hw:withinB h P with
     |false=>
      rw [hw] at w
      rw [if_pos hw] at e0
      rw [fin 14 e0 (by decide)]
      simp (disch:=omega) only [↓RS,RZ,simprocAttr,psV,hsV,pc_length,p1,pc]
      refine cX w ?_
      simp (disch:=omega) only [↓RS,RZ,simprocAttr]
     |true=>
     rw [hw] at w
     rw [if_neg (by simp [hw])] at e0
     simp (disch:=omega) only [↓RS,RZ,simprocAttr,psV,hsV,pc_length,p1,pc]
     refine cX w ?_
     simp (disch:=omega) only [↓RS,RZ,simprocAttr]
     refine wp_lp (fun (k:Nat) J=>ov [(1,.ptr 0 0 0),(4,.prim (.int .i64 ((i:Nat):Int))),(5,psV h),(8,.prim (.int .i64 ((k:Nat):Int)))] J 0 101) (fun k H=>(k≤i∧∀ j,j<k→(withinB h (pts (hs.getD j []))||withinB (pts (hs.getD j [])) h)=false)∧H=[some (.row 2 true [[psV P,hsV hs]])]) (fun k=>i-k) 0 rfl ⟨⟨Nat.zero_le _,fun j hj=>absurd hj (Nat.not_lt_zero j)⟩,rfl⟩ ?_
     rintro k J' _ ⟨⟨hk,hq⟩,rfl⟩
     try conv in ov _ _ _ _=>simp only [ov,List.lookup,RO,simprocAttr]
     rcases Nat.lt_or_ge k i with hkl|hkg
     ·obtain ⟨rk,gk⟩:=rj k hkl
      have rkl:=rk.lo
      have w1:=rwithin_pc h (pts (hs.getD k [])) rh rk
      have w2:=rwithin_pc (pts (hs.getD k [])) h rk rh
      have p2:=pc_getD (l:=pts (hs.getD k [])) (k:=0) (by omega)
      cases hw1:withinB h (pts (hs.getD k [])) with
      |true=>
       rw [hw1] at w1
       rw [if_pos (anyTo_true hkl (by rw [hw1];rfl))] at e0
       rw [fin 22 e0 (by decide)]
       simp (disch:=omega) only [↓RS,RZ,simprocAttr,gk,psV,hsV,one_length,hs_length,pc_length,p1,pc]
       refine cX w1 ?_
       simp (disch:=omega) only [↓RS,RZ,simprocAttr]
      |false=>
      rw [hw1] at w1
      cases hw2:withinB (pts (hs.getD k [])) h with
      |true=>
       rw [hw2] at w2
       rw [if_pos (anyTo_true hkl (by rw [hw2,Bool.or_true]))] at e0
       rw [fin 22 e0 (by decide)]
       simp (disch:=omega) only [↓RS,RZ,simprocAttr,gk,psV,hsV,one_length,hs_length,pc_length,p1,pc]
       refine cX w1 ?_
       simp (disch:=omega) only [↓RS,RZ,simprocAttr,gk,psV,hsV,one_length,hs_length,pc_length,p2,pc]
       refine cX w2 ?_
       simp (disch:=omega) only [↓RS,RZ,simprocAttr]
      |false=>
       rw [hw2] at w2
       simp (disch:=omega) only [↓RS,RZ,simprocAttr,gk,psV,hsV,one_length,hs_length,pc_length,p1,pc]
       refine cX w1 ?_
       simp (disch:=omega) only [↓RS,RZ,simprocAttr,gk,psV,hsV,one_length,hs_length,pc_length,p2,pc]
       refine cX w2 ?_
       simp (disch:=omega) only [↓RS,RZ,simprocAttr]
       exact lp_next (k+1) rfl ⟨⟨hkl,fun j hj=>by
        rcases Nat.lt_or_ge j k with h|h
        ·exact hq j h
        ·rw [show j=k by omega,hw1,hw2];rfl⟩,rfl⟩ (by omega)
     have hb:anyTo i (fun j=>withinB h (pts (hs.getD j []))||withinB (pts (hs.getD j [])) h)=false:=anyTo_false fun j hj=>hq j (by omega)
     rw [if_neg (by rw [hb];simp)] at e0
     clear hq hk
     by_cases hi0:0<i
     ·obtain ⟨rb,gb⟩:=rj (i-1) (by omega)
      have rbl:=rb.lo
      have p2:=pc_getD (l:=pts (hs.getD (i-1) [])) (k:=0) (by omega)
      have v:=rvcmp_pc ((pts (hs.getD (i-1) [])).getD 0 default) (h.getD 0 default) (Nat.le_trans (hl_get rb.ht (by omega)) (by omega)) (Nat.le_trans (hl_get rh.ht (by omega)) (by omega))
      by_cases hv:0≤cmpP ((pts (hs.getD (i-1) [])).getD 0 default) (h.getD 0 default)
      ·rw [if_pos ⟨hi0,hv⟩] at e0
       rw [fin 8 e0 (by decide)]
       simp (disch:=omega) only [↓RS,RZ,simprocAttr,gb,psV,hsV,one_length,hs_length,pc_length,p1,p2,pc]
       refine cX v ?_
       simp (disch:=omega) only [↓RS,RZ,simprocAttr]
      ·rw [if_neg (fun h=>hv h.2)] at e0
       simp (disch:=omega) only [↓RS,RZ,simprocAttr,gb,psV,hsV,one_length,hs_length,pc_length,p1,p2,pc]
       refine cX v ?_
       simp (disch:=omega) only [↓RS,RZ,simprocAttr]
       exact lp_next (i+1) rfl ⟨⟨hlt,fun j hj=>by
        rcases Nat.lt_or_ge j i with h|h
        ·exact hp j h
        ·rw [show j=i by omega];exact e0⟩,rfl⟩ (by omega)
     ·rw [if_neg (fun h=>hi0 h.1)] at e0
      simp (disch:=omega) only [↓RS,RZ,simprocAttr]
      exact lp_next (i+1) rfl ⟨⟨hlt,fun j hj=>by
       rcases Nat.lt_or_ge j i with h|h
       ·exact hp j h
       ·rw [show j=i by omega];exact e0⟩,rfl⟩ (by omega)
    ·have e0:chkH O hs i=chkR (hs.getD i []):=by unfold chkH;rw [if_pos (by simpa using hz)]
     rw [fin _ e0 hz]
     generalize chkR (hs.getD i [])=z at*
     simp (disch:=omega) only [↓RS,RZ,simprocAttr,g,psV,hsV,rpsV,one_length,hs_length]
     refine cX ci ?_
     simp (disch:=omega) only [↓RS,RZ,simprocAttr]
   ·have hia:i=hs.length:=by omega
    subst hia
    rw [firstNz_none hp]
    simp (disch:=omega) only [↓RS,RZ,simprocAttr,hsV,psV,one_length,hs_length]
 ·rw [if_pos h0]
  refine PCi ?_
  conv in trip _ _=>cbv
  simp only [runT,RN,simprocAttr]
  simp (disch:=omega) only [↓RS,RZ,simprocAttr,pgV,hsV,rpsV,one_length,hs_length]
  refine cX c ?_
  simp (disch:=omega) only [↓RS,RZ,simprocAttr]
end Go.Av
