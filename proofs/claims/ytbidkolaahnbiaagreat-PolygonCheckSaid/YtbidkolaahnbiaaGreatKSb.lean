/- Helping texts: Sb. -/
import Derived.Test.YtbidkolaahnbiaaGreatKSo
set_option linter.unusedSimpArgs false
set_option linter.unusedVariables false
set_option maxRecDepth 100000
set_option maxHeartbeats 16000000
namespace Go.Av
open Go.RowKit
open Go.Proofs.Tryz (prog)
theorem allOk_false {l:List Rp} {i:Nat} (hi:i<l.length) (h:(l.getD i default).ok=false):allOk l=false:=by
 unfold allOk
 rw [List.all_eq_false]
 exact ⟨i,by simpa using hi,fun k=>by rw [h] at k;cases k⟩
theorem allOk_true {l:List Rp} (h:∀ i,i<l.length→(l.getD i default).ok=true):allOk l=true:=by
 unfold allOk
 rw [List.all_eq_true]
 intro i hi
 exact h i (by simpa using hi)
theorem rcanonical_pc (l:List Rp) (hl:l.length<2^40) (h:∀ p∈l,p.le (2^32)):PC prog 227 [rpsV l] (.prim (.bool (allOk l))):=by
 refine PCi ?_
 conv in trip _ _=>cbv
 simp only [runT,RN,simprocAttr]
 simp (disch:=omega) only [↓RS,RZ,simprocAttr,rpsV,rpc_length]
 refine wp_lp (fun (i:Nat) J=>ov [(0,rpsV l),(3,.prim (.int .i64 ((i:Nat):Int)))] J 0 16) (fun i H=>(i≤l.length∧∀ j,j<i→(l.getD j default).ok=true)∧H=[]) (fun i=>l.length-i) 0 rfl ⟨⟨Nat.zero_le _,fun j hj=>absurd hj (Nat.not_lt_zero j)⟩,rfl⟩ ?_
 rintro i J _ ⟨⟨hi,hp⟩,rfl⟩
 try conv in ov _ _ _ _=>simp only [ov,List.lookup,RO,simprocAttr]
 rcases Nat.lt_or_ge i l.length with hlt|hge
 ·have g:=rpc_getD hlt
  have hm:l.getD i default∈l:=by rw [List.getD_eq_getElem?_getD,List.getElem?_eq_getElem hlt];exact List.getElem_mem hlt
  have c:=rvcheck_pc (l.getD i default).x (l.getD i default).y (h _ hm).1 (h _ hm).2
  by_cases ho:(l.getD i default).x=can (l.getD i default).x.val∧(l.getD i default).y=can (l.getD i default).y.val
  ·have e:(l.getD i default).ok=true:=decide_eq_true ho
   rw [if_pos ho] at c
   simp (disch:=omega) only [↓RS,RZ,simprocAttr,rpsV,rpc_length,g,rpc]
   refine cX c ?_
   simp (disch:=omega) only [↓RS,RZ,simprocAttr]
   exact lp_next (i+1) rfl ⟨⟨hlt,fun j hj=>by
    rcases Nat.lt_or_ge j i with h|h
    ·exact hp j h
    ·rw [show j=i by omega];exact e⟩,rfl⟩ (by omega)
  ·have e:(l.getD i default).ok=false:=decide_eq_false ho
   rw [if_neg ho] at c
   rw [allOk_false hlt e]
   simp (disch:=omega) only [↓RS,RZ,simprocAttr,rpsV,rpc_length,g,rpc]
   refine cX c ?_
   simp (disch:=omega) only [↓RS,RZ,simprocAttr]
 ·have hia:i=l.length:=by omega
  subst hia
  rw [allOk_true hp]
  simp (disch:=omega) only [↓RS,RZ,simprocAttr,rpsV,rpc_length]
theorem rnext_pc (L:List Pt) (i:Nat) (h0:0<L.length) (hn:L.length<2^40) (hi:i<2^40):PC prog 213 [psV L,.prim (.int .i64 ((i:Nat):Int))] (pV (nx L i)):=by
 have m:=Nat.mod_lt (i+1) h0
 have g:=pc_getD m
 unfold nx
 refine PCi ?_
 conv in trip _ _=>cbv
 simp only [runT,RN,simprocAttr]
 simp (disch:=omega) only [↓RS,RZ,simprocAttr,psV,pc_length,tmodN,g,pc]
 try rfl
theorem rmeet10_pc (a b c d:Pt) (h1:hp a≤2^26) (h2:hp b≤2^26) (h3:hp c≤2^26) (h4:hp d≤2^26):PC prog 282 [pV a,pV b,pV c,pV d] (.prim (.bool (rmeet10 a b c d))):=by
 have b1:=rbetween_pc a b c h1 h2 h3
 have b2:=rbetween_pc a b d h1 h2 h4
 have b3:=rbetween_pc c d a h3 h4 h1
 have b4:=rbetween_pc c d b h3 h4 h2
 have o1:=rorient_pc a b c h1 h2 h3
 have o2:=rorient_pc a b d h1 h2 h4
 have o3:=rorient_pc c d a h3 h4 h1
 have o4:=rorient_pc c d b h3 h4 h2
 have p1:=sign_prod (orient_abs a b c) (orient_abs a b d)
 have p2:=sign_prod (orient_abs c d a) (orient_abs c d b)
 unfold rmeet10 rcross
 generalize orient a b c=x1 at*
 generalize orient a b d=x2 at*
 generalize orient c d a=x3 at*
 generalize orient c d b=x4 at*
 cases e1:rbetween a b c with
 |true=>
  rw [e1] at b1
  rw [Bool.true_or,Bool.true_or]
  refine PCi ?_
  conv in trip _ _=>cbv
  simp only [runT,RN,simprocAttr]
  simp (disch:=omega) only [↓RS,RZ,simprocAttr,pV,ptV]
  refine cX b1 ?_
  simp (disch:=omega) only [↓RS,RZ,simprocAttr]
 |false=>
 rw [e1] at b1
 cases e2:rbetween a b d with
 |true=>
  rw [e2] at b2
  rw [Bool.false_or,Bool.true_or,Bool.true_or]
  refine PCi ?_
  conv in trip _ _=>cbv
  simp only [runT,RN,simprocAttr]
  simp (disch:=omega) only [↓RS,RZ,simprocAttr,pV,ptV]
  refine cX b1 ?_
  simp (disch:=omega) only [↓RS,RZ,simprocAttr,pV,ptV]
  refine cX b2 ?_
  simp (disch:=omega) only [↓RS,RZ,simprocAttr]
 |false=>
 rw [e2] at b2
 cases e3:rbetween c d a with
 |true=>
  rw [e3] at b3
  rw [Bool.false_or,Bool.false_or,Bool.true_or,Bool.true_or]
  refine PCi ?_
  conv in trip _ _=>cbv
  simp only [runT,RN,simprocAttr]
  simp (disch:=omega) only [↓RS,RZ,simprocAttr,pV,ptV]
  refine cX b1 ?_
  simp (disch:=omega) only [↓RS,RZ,simprocAttr,pV,ptV]
  refine cX b2 ?_
  simp (disch:=omega) only [↓RS,RZ,simprocAttr,pV,ptV]
  refine cX b3 ?_
  simp (disch:=omega) only [↓RS,RZ,simprocAttr]
 |false=>
 rw [e3] at b3
 cases e4:rbetween c d b with
 |true=>
  rw [e4] at b4
  rw [Bool.false_or,Bool.false_or,Bool.false_or,Bool.true_or]
  refine PCi ?_
  conv in trip _ _=>cbv
  simp only [runT,RN,simprocAttr]
  simp (disch:=omega) only [↓RS,RZ,simprocAttr,pV,ptV]
  refine cX b1 ?_
  simp (disch:=omega) only [↓RS,RZ,simprocAttr,pV,ptV]
  refine cX b2 ?_
  simp (disch:=omega) only [↓RS,RZ,simprocAttr,pV,ptV]
  refine cX b3 ?_
  simp (disch:=omega) only [↓RS,RZ,simprocAttr,pV,ptV]
  refine cX b4 ?_
  simp (disch:=omega) only [↓RS,RZ,simprocAttr]
 |false=>
 rw [e4] at b4
 rw [Bool.false_or,Bool.false_or,Bool.false_or,Bool.false_or]
 refine PCi ?_
 conv in trip _ _=>cbv
 simp only [runT,RN,simprocAttr]
 simp (disch:=omega) only [↓RS,RZ,simprocAttr,pV,ptV]
 refine cX b1 ?_
 simp (disch:=omega) only [↓RS,RZ,simprocAttr,pV,ptV]
 refine cX b2 ?_
 simp (disch:=omega) only [↓RS,RZ,simprocAttr,pV,ptV]
 refine cX b3 ?_
 simp (disch:=omega) only [↓RS,RZ,simprocAttr,pV,ptV]
 refine cX b4 ?_
 simp (disch:=omega) only [↓RS,RZ,simprocAttr,pV,ptV]
 refine cX o1 ?_
 simp (disch:=omega) only [↓RS,RZ,simprocAttr,pV,ptV]
 refine cX o2 ?_
 by_cases c1:x1*x2<0
 ·by_cases c2:x3*x4<0
  ·rw [decide_eq_true c1,decide_eq_true c2]
   simp (disch:=omega) only [↓RS,RZ,simprocAttr,pV,ptV]
   refine cX o3 ?_
   simp (disch:=omega) only [↓RS,RZ,simprocAttr,pV,ptV]
   refine cX o4 ?_
   simp (disch:=omega) only [↓RS,RZ,simprocAttr]
  ·rw [decide_eq_true c1,decide_eq_false c2]
   simp (disch:=omega) only [↓RS,RZ,simprocAttr,pV,ptV]
   refine cX o3 ?_
   simp (disch:=omega) only [↓RS,RZ,simprocAttr,pV,ptV]
   refine cX o4 ?_
   simp (disch:=omega) only [↓RS,RZ,simprocAttr]
 ·rw [decide_eq_false c1]
  simp (disch:=omega) only [↓RS,RZ,simprocAttr]
theorem nx_le {L:List Pt} {k i:Nat} (h:hl L k) (h0:0<L.length):hp (nx L i)≤k:=hl_get h (Nat.mod_lt _ h0)
theorem rstraight_pc (L:List Pt) (hn:L.length<2^20) (hL:hl L (2^26)):PC prog 237 [psV L] (.prim (.bool (straightB L))):=by
 refine PCi ?_
 conv in trip _ _=>cbv
 simp only [runT,RN,simprocAttr]
 simp (disch:=omega) only [↓RS,RZ,simprocAttr,psV,pc_length]
 refine wp_lp (fun (i:Nat) J=>ov [(0,psV L),(3,.prim (.int .i64 ((L.length:Nat):Int))),(4,.prim (.int .i64 ((i:Nat):Int)))] J 0 27) (fun i _=>i≤L.length∧∀ j,j<i→straightAt L j=false) (fun i=>L.length-i) 0 rfl ⟨Nat.zero_le _,fun j hj=>absurd hj (Nat.not_lt_zero j)⟩ ?_
 rintro i J H ⟨hi,hp⟩
 try conv in ov _ _ _ _=>simp only [ov,List.lookup,RO,simprocAttr]
 rcases Nat.lt_or_ge i L.length with hlt|hge
 ·have m1:=Nat.mod_lt (i+1) (show 0<L.length by omega)
  have g1:=pc_getD hlt
  have n1:=rnext_pc L i (by omega) (by omega) (by omega)
  have n2:=rnext_pc L ((i+1)%L.length) (by omega) (by omega) (by omega)
  have o:=rorient_pc (L.getD i default) (nx L i) (nx L ((i+1)%L.length)) (hl_get hL hlt) (nx_le hL (by omega)) (nx_le hL (by omega))
  have e:straightAt L i=decide (orient (L.getD i default) (nx L i) (nx L ((i+1)%L.length))=0):=rfl
  simp (disch:=omega) only [↓RS,RZ,simprocAttr,psV,pc_length,g1,pc,tmodN,set_app_len]
  refine cX n1 ?_
  simp (disch:=omega) only [↓RS,RZ,simprocAttr,psV,pc_length,g1,pc,tmodN,pV,ptV]
  refine cX n2 ?_
  simp (disch:=omega) only [↓RS,RZ,simprocAttr,pV,ptV]
  refine cX o ?_
  by_cases hz:orient (L.getD i default) (nx L i) (nx L ((i+1)%L.length))=0
  ·rw [decide_eq_true hz] at e
   have hs:straightB L=true:=anyTo_true hlt e
   rw [hs]
   simp (disch:=omega) only [↓RS,RZ,simprocAttr,hz]
  ·rw [decide_eq_false hz] at e
   simp (disch:=omega) only [↓RS,RZ,simprocAttr]
   exact lp_next (i+1) rfl ⟨hlt,fun j hj=>by
    rcases Nat.lt_or_ge j i with h|h
    ·exact hp j h
    ·rw [show j=i by omega];exact e⟩ (by omega)
 ·have hia:i=L.length:=by omega
  subst hia
  have hs:straightB L=false:=anyTo_false hp
  rw [hs]
  simp (disch:=omega) only [↓RS,RZ,simprocAttr,psV,pc_length]
theorem rcrossing_pc (L:List Pt) (hn:L.length≤2^20) (hL:hl L (2^26)):PC prog 229 [psV L] (.prim (.bool (rcrossB L))):=by
 refine PCi ?_
 conv in trip _ _=>cbv
 simp only [runT,RN,simprocAttr]
 simp (disch:=omega) only [↓RS,RZ,simprocAttr,psV,pc_length]
 refine wp_lp (fun (i:Nat) J=>ov [(0,psV L),(3,.prim (.int .i64 ((L.length:Nat):Int))),(4,.prim (.int .i64 ((i:Nat):Int)))] J 0 43) (fun i _=>i≤L.length∧∀ j,j<i→anyTo L.length (rcrossAt L j)=false) (fun i=>L.length-i) 0 rfl ⟨Nat.zero_le _,fun j hj=>absurd hj (Nat.not_lt_zero j)⟩ ?_
 rintro i J H ⟨hi,hp⟩
 try conv in ov _ _ _ _=>simp only [ov,List.lookup,RO,simprocAttr]
 rcases Nat.lt_or_ge i L.length with hlt|hge
 ·simp (disch:=omega) only [↓RS,RZ,simprocAttr,psV,pc_length]
  refine wp_lp (fun (k:Nat) J=>ov [(0,psV L),(3,.prim (.int .i64 ((L.length:Nat):Int))),(4,.prim (.int .i64 ((i:Nat):Int))),(5,.prim (.int .i64 ((k:Nat):Int)))] J 0 43) (fun k _=>i+2≤k∧∀ j,j<k→j<L.length→rcrossAt L i j=false) (fun k=>L.length-k) (i+2) rfl ⟨Nat.le_refl _,fun j hj _=>by
   unfold rcrossAt;rw [decide_eq_false (by omega)];rfl⟩ ?_
  rintro k J H ⟨hk,hq⟩
  try conv in ov _ _ _ _=>simp only [ov,List.lookup,RO,simprocAttr]
  rcases Nat.lt_or_ge k L.length with hkl|hkg
  ·have mk:=Nat.mod_lt (k+1) (show 0<L.length by omega)
   have g1:=pc_getD hlt
   have g2:=pc_getD hkl
   have n1:=rnext_pc L i (by omega) (by omega) (by omega)
   have n2:=rnext_pc L k (by omega) (by omega) (by omega)
   have m:=rmeet10_pc (L.getD i default) (nx L i) (L.getD k default) (nx L k) (hl_get hL hlt) (nx_le hL (by omega)) (hl_get hL hkl) (nx_le hL (by omega))
   have e:rcrossAt L i k=(decide ((k+1)%L.length≠i)&&rmeet10 (L.getD i default) (nx L i) (L.getD k default) (nx L k)):=by unfold rcrossAt;rw [decide_eq_true hk,Bool.true_and]
   by_cases hz:(k+1)%L.length=i
   ·rw [decide_eq_false (fun h=>h hz),Bool.false_and] at e
    simp (disch:=omega) only [↓RS,RZ,simprocAttr,psV,pc_length,tmodN,hz]
    exact lp_next (k+1) rfl ⟨by omega,fun j hj hjl=>by
     rcases Nat.lt_or_ge j k with h|h
     ·exact hq j h hjl
     ·rw [show j=k by omega];exact e⟩ (by omega)
   ·rw [decide_eq_true (show (k+1)%L.length≠i from hz),Bool.true_and] at e
    have hz2:((((k+1)%L.length:Nat):Int) !=(i:Int))=true:=by rw [bne_iff_ne];omega
    generalize rmeet10 (L.getD i default) (nx L i) (L.getD k default) (nx L k)=r at*
    simp (disch:=omega) only [↓RS,RZ,simprocAttr,psV,pc_length,tmodN,g1,g2,pc,hz2]
    refine cX n1 ?_
    simp (disch:=omega) only [↓RS,RZ,simprocAttr,psV,pc_length,g1,g2,pc,pV,ptV]
    refine cX n2 ?_
    simp (disch:=omega) only [↓RS,RZ,simprocAttr,psV,pc_length,g1,g2,pc,pV,ptV]
    refine cX m ?_
    cases r with
    |true=>
     have hs:rcrossB L=true:=anyTo_true hlt (anyTo_true hkl e)
     rw [hs]
     simp (disch:=omega) only [↓RS,RZ,simprocAttr]
    |false=>
     simp (disch:=omega) only [↓RS,RZ,simprocAttr]
     exact lp_next (k+1) rfl ⟨by omega,fun j hj hjl=>by
      rcases Nat.lt_or_ge j k with h|h
      ·exact hq j h hjl
      ·rw [show j=k by omega];exact e⟩ (by omega)
  ·simp (disch:=omega) only [↓RS,RZ,simprocAttr]
   exact lp_next (i+1) rfl ⟨hlt,fun j hj=>by
    rcases Nat.lt_or_ge j i with h|h
    ·exact hp j h
    ·rw [show j=i by omega];exact anyTo_false fun k' hk'=>hq k' (by omega) hk'⟩ (by omega)
 ·have hia:i=L.length:=by omega
  subst hia
  have hs:rcrossB L=false:=anyTo_false hp
  rw [hs]
  simp (disch:=omega) only [↓RS,RZ,simprocAttr,psV,pc_length]
theorem rleast_pc (L:List Pt) (hn:L.length<2^40) (h0:0<L.length) (hL:hl L (2^26)):PC prog 231 [psV L] (.prim (.int .i64 ((leastTo L L.length:Nat):Int))):=by
 have h1:leastTo L 1=0:=by unfold leastTo;split<;>rfl
 refine PCi ?_
 conv in trip _ _=>cbv
 simp only [runT,RN,simprocAttr]
 simp (disch:=omega) only [↓RS,RZ,simprocAttr,psV,pc_length]
 refine wp_lp (fun (i:Nat) J=>ov [(0,psV L),(3,.prim (.int .i64 ((leastTo L i:Nat):Int))),(4,.prim (.int .i64 ((i:Nat):Int)))] J 0 23) (fun i _=>1≤i∧i≤L.length) (fun i=>L.length-i) 1 (by rw [h1];rfl) ⟨Nat.le_refl _,h0⟩ ?_
 rintro i J H ⟨hi1,hi⟩
 try conv in ov _ _ _ _=>simp only [ov,List.lookup,RO,simprocAttr]
 rcases Nat.lt_or_ge i L.length with hlt|hge
 ·have hk:leastTo L i<L.length:=Nat.lt_of_le_of_lt (leastTo_le i) hlt
  have e:leastTo L (i+1)=if cmpP (L.getD i default) (L.getD (leastTo L i) default)<0 then i else leastTo L i:=rfl
  generalize leastTo L i=k at*
  have g1:=pc_getD hlt
  have g2:=pc_getD hk
  have o:=rvcmp_pc (L.getD i default) (L.getD k default) (Nat.le_trans (hl_get hL hlt) (by omega)) (Nat.le_trans (hl_get hL hk) (by omega))
  simp (disch:=omega) only [↓RS,RZ,simprocAttr,psV,pc_length,g1,g2,pc]
  refine cX o ?_
  by_cases hz:cmpP (L.getD i default) (L.getD k default)<0
  ·rw [if_pos hz] at e
   simp (disch:=omega) only [↓RS,RZ,simprocAttr]
   exact lp_next (i+1) (by rw [e];rfl) ⟨by omega,hlt⟩ (by omega)
  ·rw [if_neg hz] at e
   simp (disch:=omega) only [↓RS,RZ,simprocAttr]
   exact lp_next (i+1) (by rw [e];rfl) ⟨by omega,hlt⟩ (by omega)
 ·have hia:i=L.length:=by omega
  subst hia
  simp (disch:=omega) only [↓RS,RZ,simprocAttr,psV,pc_length]
theorem rhalf_pc (q:Rat) (h:ht q≤2^32):PC prog 214 [qV q] (qV (q/2)):=by
 have e:(Rt.mk false [1] [2]).val=1/2:=by decide+kernel
 have k:=rmulR_pc (can q) ⟨false,[1],[2]⟩ (can_le h) ⟨by simp,by simp⟩
 rw [can_val,e,show q*(1/2)=q/2 by grind] at k
 refine PCi ?_
 conv in trip _ _=>cbv
 simp only [runT,RN,simprocAttr]
 simp (disch:=omega) only [↓RS,RZ,simprocAttr,qV,rV]
 refine cX k ?_
 simp (disch:=omega) only [↓RS,RZ,simprocAttr,qV,rV]
 try rfl
theorem rArea_pc (L:List Pt) (hn:L.length≤2^10) (hL:hl L (2^16)):PC prog 139 [psV L] (qV (areaL L)):=by
 have ha:∀ i,i≤L.length→ht (areaTo L i)≤2^29:=fun i hi=>by
  have:=ht_areaTo hL i hi
  have h2:i*(4*2^16+2)≤2^10*(4*2^16+2):=Nat.mul_le_mul_right _ (by omega)
  omega
 have hz:[[V.prim (.bool false),.prim (.string (bs ([]))),.prim (.string (bs ([])))]]=[qc (areaTo L 0)]:=by
  show _=[qc 0];simp only [qc,can_zero]
 refine PCi ?_
 conv in trip _ _=>cbv
 simp only [runT,RN,simprocAttr]
 simp (disch:=omega) only [↓RS,RZ,simprocAttr,psV,pc_length]
 refine wp_lp (fun (i:Nat) J=>ov [(0,psV L),(2,.ptr 0 0 0),(3,.ptr 1 0 0),(4,.prim (.int .i64 ((i:Nat):Int)))] J 0 24) (fun i H=>i≤L.length∧H=[some (.row 3 true [[.prim (.bool false),.prim (.string (bs ([]))),.prim (.string (bs ([])))]]),some (.row 3 true [qc (areaTo L i)])]) (fun i=>L.length-i) 0 rfl ⟨Nat.zero_le _,by rw [←hz]⟩ ?_
 rintro i J _ ⟨hi,rfl⟩
 try conv in ov _ _ _ _=>simp only [ov,List.lookup,RO,simprocAttr]
 rcases Nat.lt_or_ge i L.length with hlt|hge
 ·have b1:=hl_get hL hlt
  have b2:=nx_le (i:=i) hL (by omega)
  have b3:=ha i (by omega)
  have b4:=ht_cross (L.getD i default) (nx L i)
  have g1:=pc_getD hlt
  have n1:=rnext_pc L i (by omega) (by omega) (by omega)
  have c:=rvcross_pc (L.getD i default) (nx L i) (by omega) (by omega)
  have a:=raddQ_pc (areaTo L i) (cross (L.getD i default) (nx L i)) (by omega) (by omega)
  simp (disch:=omega) only [↓RS,RZ,simprocAttr,psV,pc_length,g1,pc,qc]
  refine cX n1 ?_
  simp (disch:=omega) only [↓RS,RZ,simprocAttr,pV,ptV,g1,pc]
  refine cX c ?_
  simp (disch:=omega) only [↓RS,RZ,simprocAttr,qV,rV]
  refine cX a ?_
  simp (disch:=omega) only [↓RS,RZ,simprocAttr,qV,rV]
  exact lp_next (i+1) rfl ⟨hlt,rfl⟩ (by omega)
 ·have hia:i=L.length:=by omega
  subst hia
  have b3:=ha L.length (Nat.le_refl _)
  have k:=rhalf_pc (areaTo L L.length) (by omega)
  simp (disch:=omega) only [↓RS,RZ,simprocAttr,psV,pc_length,qc]
  refine cX k ?_
  simp (disch:=omega) only [↓RS,RZ,simprocAttr,qV,rV]
  try rfl
theorem rcheck10_pc (l:List Rp) (hn:l.length<2^40) (hl0:∀ p∈l,p.le (2^16)):PC prog 163 [rpsV l] (.prim (.int .i64 (chkR l))):=by
 unfold chkR
 by_cases h1:l.length<3
 ·rw [if_pos (.inl h1)]
  refine PCi ?_
  conv in trip _ _=>cbv
  simp only [runT,RN,simprocAttr]
  simp (disch:=omega) only [↓RS,RZ,simprocAttr,rpsV,rpc_length]
 by_cases h2:64<l.length
 ·rw [if_pos (.inr h2)]
  refine PCi ?_
  conv in trip _ _=>cbv
  simp only [runT,RN,simprocAttr]
  simp (disch:=omega) only [↓RS,RZ,simprocAttr,rpsV,rpc_length]
 rw [if_neg (by omega)]
 have c:=rcanonical_pc l (by omega) (fun p hp=>⟨⟨Nat.le_trans (hl0 p hp).1.1 (by omega),Nat.le_trans (hl0 p hp).1.2 (by omega)⟩,⟨Nat.le_trans (hl0 p hp).2.1 (by omega),Nat.le_trans (hl0 p hp).2.2 (by omega)⟩⟩)
 cases ho:allOk l with
 |false=>
  rw [ho] at c
  rw [if_neg (by simp)]
  refine PCi ?_
  conv in trip _ _=>cbv
  simp only [runT,RN,simprocAttr]
  simp (disch:=omega) only [↓RS,RZ,simprocAttr,rpsV,rpc_length]
  refine cX c ?_
  simp (disch:=omega) only [↓RS,RZ,simprocAttr]
 |true=>
  rw [ho] at c
  rw [if_pos rfl]
  have hL:=hl_pts ho hl0 (by omega)
  have hlen:=pts_length l
  rw [raw_can ho] at c ⊢
  generalize pts l=L at*
  have hn:L.length≤64:=by omega
  have h3:3≤L.length:=by omega
  have f:=rstraight_pc L (by omega) (fun p hp=>Nat.le_trans (hL p hp) (by omega))
  have x:=rcrossing_pc L (by omega) (fun p hp=>Nat.le_trans (hL p hp) (by omega))
  have a:=rArea_pc L (by omega) hL
  have hta:ht (areaL L)≤2^30:=by
   have h1:=ht_areaTo hL L.length (Nat.le_refl _)
   have h2:=ht_div (areaTo L L.length) 2
   have h3:=ht_two
   have h4:L.length*(4*2^16+2)≤64*(4*2^16+2):=Nat.mul_le_mul_right _ hn
   unfold areaL
   omega
  have s:=rsignQ_pc (areaL L) (by omega)
  have i:=rleast_pc L (by omega) (by omega) (fun p hp=>Nat.le_trans (hL p hp) (by omega))
  rw [←rchkC_eq h3]
  unfold rchkC
  refine PCi ?_
  conv in trip _ _=>cbv
  simp only [runT,RN,simprocAttr]
  simp (disch:=omega) only [↓RS,RZ,simprocAttr,psV,pc_length]
  refine cX c ?_
  simp (disch:=omega) only [↓RS,RZ,simprocAttr,psV,pc_length]
  refine cX f ?_
  cases h3:straightB L with
  |true=>
   rw [if_pos rfl]
   simp (disch:=omega) only [↓RS,RZ,simprocAttr]
  |false=>
   rw [if_neg (by simp)]
   simp (disch:=omega) only [↓RS,RZ,simprocAttr,psV,pc_length]
   refine cX x ?_
   cases h4:rcrossB L with
   |true=>
    rw [if_pos rfl]
    simp (disch:=omega) only [↓RS,RZ,simprocAttr]
   |false=>
    rw [if_neg (by simp)]
    simp (disch:=omega) only [↓RS,RZ,simprocAttr,psV,pc_length]
    refine cX a ?_
    simp (disch:=omega) only [↓RS,RZ,simprocAttr,qV,rV]
    refine cX s ?_
    by_cases h5:cmpQ (areaL L) 0<0
    ·rw [if_pos (.inl h5)]
     simp (disch:=omega) only [↓RS,RZ,simprocAttr]
    ·by_cases h6:leastTo L L.length=0
     ·rw [if_neg (fun h=>h.elim h5 (fun h=>h h6))]
      simp (disch:=omega) only [↓RS,RZ,simprocAttr,psV,pc_length]
      refine cX i ?_
      simp (disch:=omega) only [↓RS,RZ,simprocAttr]
     ·rw [if_pos (.inr h6)]
      simp (disch:=omega) only [↓RS,RZ,simprocAttr,psV,pc_length]
      refine cX i ?_
      simp (disch:=omega) only [↓RS,RZ,simprocAttr]
end Go.Av
