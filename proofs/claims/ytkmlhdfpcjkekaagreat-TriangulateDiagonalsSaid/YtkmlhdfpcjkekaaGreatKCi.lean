/- Helping texts: Ci, Cj. -/
import Derived.Test.YtkmlhdfpcjkekaaGreatKCf
set_option linter.unusedSimpArgs false
set_option linter.unusedVariables false
set_option maxRecDepth 100000
set_option maxHeartbeats 16000000
open Nat (reduceAdd reduceLT reduceLeDiff reducePow reduceDiv reduceMod reduceEqDiff)
namespace Go.Av
open Go.RowKit
open Go.Proofs.Tryz (prog)
theorem se {a:Nat} (h:2≤a):(a:Int)-2=((a-2:Nat):Int):=by omega
theorem Pi {H0:Hp} {K:V→Hp→Prop} (u v:List Nat) (i k q:Nat) (hul:u.length<2^38) (hk:v.length=k+2) (hlen:i+k+2<u.length) (hL:jD u) (hM:jD v) (htop:0<v.getD (k+1) 0) (hN:bk u<4294967296^(i+1)*bk v) (hq:q=bk u/4294967296^i/bk v)
 (hK:∀ u',jD u'→u'.length=u.length→bk u'=bk u-4294967296^i*(q*bk v)→K (.prim (.int .u32 ((q:Nat):Int))) (some (.row 1 true (lw u'))::H0)):
 SC prog 299 [.sref 0 0 u.length u.length 1 true,.lst 1 (lw v),.prim (.int .i64 ((i:Nat):Int))] (some (.row 1 true (lw u))::H0) K:=by
 refine SCi ?_
 conv in bL _ _=>cbv
 simp only [bM,RN,Nat.reduceAdd,Nat.reduceSub]
 have hVk:bk v<4294967296^(k+2):=by have:=ms hM;rwa [hk] at this
 obtain ⟨hNk,hUV⟩:=OJ (B:=4294967296) (by omega) hVk hN
 have hz:=HL hL hNk
 obtain ⟨lo,hlo,hU⟩:=Iq (i:=i) (k:=k) (by omega) hL hz
 have hV:=OA v (k:=k) (by omega)
 have hvl:bk (v.take k)<4294967296^k:=by
  have:=ms (hM.take k);rwa [d9,Nat.min_eq_left (by omega)] at this
 have hVp:0<bk v:=by
  have h1:=zB v (k+1) (by omega)
  have h2:0<4294967296^(k+1)*v.getD (k+1) 0:=Nat.mul_pos (Nat.pow_pos (by omega)) htop
  omega
 have hu0:=hL.getD (i+k+2);have hu1:=hL.getD (i+k+1);have hu2:=hL.getD (i+k)
 have hv1:=hM.getD (k+1);have hv2:=hM.getD k
 have g0:(lw u)[i+(k+2)]? =some [.prim (.int .u32 ((u.getD (i+k+2) 0:Nat):Int))]:=mT (l:=u) (k:=i+k+2) (by omega)
 have g1:=mT (l:=u) (k:=i+k+1) (by omega)
 have g2:=mT (l:=u) (k:=i+k) (by omega)
 have k1:=j9 (l:=v) (k:=k+1) (by omega)
 have k2:=j9 (l:=v) (k:=k) (by omega)
 generalize u.getD (i+k+2) 0=u0 at*
 generalize u.getD (i+k+1) 0=u1 at*
 generalize u.getD (i+k) 0=u2 at*
 generalize v.getD (k+1) 0=v1 at*
 generalize v.getD k 0=v2 at*
 have a1:i+(k+2)-1=i+k+1:=rfl
 have a2:i+(k+2)-2=i+k:=rfl
 have b1:k+2-1=k+1:=rfl
 have b2:k+2-2=k:=rfl
 have hg0:=Sz hU hlo hu2 hV htop
 rw [←hq] at hg0
 have hqB:=Kb hUV
 rw [←hq] at hqB
 have ht:u0*4294967296+u1<18446744073709551616:=by omega
 have htv:(u0*4294967296+u1)/v1≤u0*4294967296+u1:=Nat.div_le_self _ _
 have htm:=Nat.mod_lt (u0*4294967296+u1) htop
 have hdm:=Nat.div_add_mod (u0*4294967296+u1) v1
 rw [Nat.mul_comm] at hdm
 generalize htt:u0*4294967296+u1=t at*
 simp (maxSteps:=2000000) (disch:=omega) only [↓RS,RY,reduceCtorEq,reduceAdd,reduceLT,reduceLeDiff,List.reduceReplicate,aP,hk,g0,g1,k1,a1,b1,l4,BZ,na,htt,uV,Jq]
 refine oF 0 (fun (x:Nat×Nat) J=>ov [(0,.sref 0 0 u.length u.length 1 true),(1,.lst 1 (lw v)),(2,.prim (.int .i64 ((i:Nat):Int))),(6,.prim (.int .u32 ((0:Nat):Int))),(7,.prim (.int .i64 ((k+2:Nat):Int))),(9,.prim (.int .u64 ((x.1:Nat):Int))),(10,.prim (.int .u64 ((x.2:Nat):Int)))] J 0 194)
  (fun x H=>PT q t v1 x∧H=some (.row 1 true (lw u))::H0) (fun x=>x.1) (t/v1,t%v1)
  (fun (g:Nat) J=>ov [(0,.sref 0 0 u.length u.length 1 true),(1,.lst 1 (lw v)),(2,.prim (.int .i64 ((i:Nat):Int))),(6,.prim (.int .u32 ((0:Nat):Int))),(7,.prim (.int .i64 ((k+2:Nat):Int))),(9,.prim (.int .u64 ((g:Nat):Int)))] J 0 194)
  (fun g H=>(q≤g∧g≤q+1∧g<4294967296)∧H=some (.row 1 true (lw u))::H0) rfl ⟨⟨hdm,hg0⟩,rfl⟩ ?_ ?_
 ·rintro g J _ ⟨⟨hg1,hg2,hg3⟩,rfl⟩
  try conv in ov _ _ _ _=>simp only [ov,List.lookup,bG,Option.getD_none,Nat.reduceAdd,Nat.reduceBEq]
  try conv in ov _ _ _ _=>simp only [ov,List.lookup,bG,Option.getD_none,Nat.reduceAdd,Nat.reduceBEq]
  have hqV:=Kc (p:=4294967296^i) (Nat.pow_pos (by omega)) hVp hq
  generalize hNe:bk u=N at*
  clear hq hN hVk hUV hU hV hvl hlo hu0 hu1 hu2 hv1 hv2 g0 g1 g2 k1 k2 hg0 ht htv htm hdm htt
  simp (maxSteps:=2000000) (disch:=omega) only [↓RS,RY,reduceCtorEq,reduceAdd,reduceLT,reduceLeDiff,List.reduceReplicate,aP,hk]
  refine eG (fun (x:Nat×Nat×Nat×List Nat) J=>ov [(0,.sref 0 0 u.length u.length 1 true),(1,.lst 1 (lw v)),(2,.prim (.int .i64 ((i:Nat):Int))),(6,.prim (.int .u32 ((0:Nat):Int))),(7,.prim (.int .i64 ((k+2:Nat):Int))),(9,.prim (.int .u64 ((g:Nat):Int))),(11,.prim (.int .u64 ((x.2.1:Nat):Int))),(12,.prim (.int .u32 ((x.2.2.1:Nat):Int))),(101,.lst 1 (lw v)),(102,.prim (.int .i64 ((k+2:Nat):Int))),(103,.prim (.int .i64 ((x.1:Nat):Int)))] J 0 194)
   (S1 u v i g N H0) (fun x=>v.length-x.1) (0,0,0,u) rfl ⟨bh _,Nat.zero_lt_succ _,bh _,rfl,hL,by rw [hk];exact hz,by simp [bk,hNe],rfl⟩ ?_
  rintro ⟨j,c,b,o⟩ J H ⟨hj,hc,hb,ho,hO,hzo,hv,rfl⟩
  try conv in ov _ _ _ _=>simp only [ov,List.lookup,bG,Option.getD_none,Nat.reduceAdd,Nat.reduceBEq]
  try conv in ov _ _ _ _=>simp only [ov,List.lookup,bG,Option.getD_none,Nat.reduceAdd,Nat.reduceBEq]
  simp only at hj hc hb ho hO hzo hv ⊢
  rcases am j v.length with hjv|hjv
  ·have hx:=hM.getD j
   have t1:=fN v hjv
   have g1:=j9 (l:=v) (k:=j) hjv
   generalize v.getD j 0=x at*
   have hw:=hO.getD (i+j)
   have g2:=mT (l:=o) (k:=i+j) (by omega)
   have hs:=fun D=>lG o (i+j) D (by omega)
   generalize o.getD (i+j) 0=w at*
   have hgx:g*x≤4294967295*4294967295:=Nat.mul_le_mul (by omega) (by omega)
   have hsd:=Ez (x:=w) (y:=(c+g*x)%4294967296) (c:=b) hw (Nat.mod_lt _ (by omega)) hb
   have hst:=Ov (N:=N) (p:=4294967296^i) (O':=bk (o.set (i+j) (qq w ((c+g*x)%4294967296) b))) (M:=bk (v.take j)) rfl hv (hs _) hsd (fun _ _=>trivial) (4294967296^j) (Nat.pow_add ..)
   have hD:=zt w ((c+g*x)%4294967296) b
   have hT:=EA w ((c+g*x)%4294967296) b
   simp (maxSteps:=2000000) (disch:=omega) only [↓RS,RY,reduceCtorEq,reduceAdd,reduceLT,reduceLeDiff,List.reduceReplicate,aP,hk,g1,g2,jZ]
   refine gB (vT w ((c+g*x)%4294967296) b hw (Nat.mod_lt _ (by omega)) hb) (.inl rfl) ?_
   simp (maxSteps:=2000000) (disch:=omega) only [↓RS,RY,reduceCtorEq,reduceAdd,reduceLT,reduceLeDiff,List.reduceReplicate,aP,hk,g1,g2,nr,jZ]
   refine bl (j+1,(c+g*x)/4294967296,zf w ((c+g*x)%4294967296) b,o.set (i+j) (qq w ((c+g*x)%4294967296) b)) rfl ⟨hjv,by simp only;omega,hT,by simp [ho],hO.set _ hD,fun l hl=>by simp only;rw [jH (by omega)];exact hzo l hl,?_,rfl⟩ (by simp only;omega)
   try simp only
   rw [t1,←Nat.add_assoc i j 1,Nat.pow_succ]
   exact hst
  ·have hjk:j=k+2:=by omega
   subst hjk
   rw [im v (by omega)] at hv
   have hw:=hO.getD (i+(k+2))
   have g2:=mT (l:=o) (k:=i+(k+2)) (by omega)
   have hs:=fun D=>lG o (i+(k+2)) D (by omega)
   generalize o.getD (i+(k+2)) 0=w at*
   have hsd:=Ez (x:=w) (y:=c) (c:=b) hw hc hb
   have hD:=zt w c b
   have hT:=EA w c b
   have hO2:=hO.set (i+(k+2)) hD
   have hz2:∀ j,i+v.length+1≤j→(o.set (i+(k+2)) (qq w c b)).getD j 0=0:=fun l hl=>by rw [jH (by omega)];exact hzo l hl
   have hl2:(o.set (i+(k+2)) (qq w c b)).length=u.length:=by simp [ho]
   have hv2:bk (o.set (i+(k+2)) (qq w c b))+4294967296^i*(g*bk v)=N+4294967296^(i+(k+2))*4294967296*zf w c b:=by
    have h1:=hs (qq w c b)
    have e:4294967296^(i+(k+2))*w+4294967296^(i+(k+2))*4294967296*zf w c b=4294967296^(i+(k+2))*qq w c b+4294967296^(i+(k+2))*(c+b):=by
     rw [Nat.mul_assoc,←Nat.mul_add,←Nat.mul_add,hsd,Nat.add_assoc]
    omega
   simp (maxSteps:=2000000) (disch:=omega) only [↓RS,RY,reduceCtorEq,reduceAdd,reduceLT,reduceLeDiff,List.reduceReplicate,aP,hk,g2,jZ]
   refine gB (vT w c b hw hc hb) (.inl rfl) ?_
   generalize zf w c b=T at*
   generalize hoe:o.set (i+(k+2)) (qq w c b)=o2 at*
   rcases am T 1 with hT0|hT1
   ·have hT0:T=0:=by omega
    subst hT0
    simp (maxSteps:=2000000) (disch:=omega) only [↓RS,RY,reduceCtorEq,reduceAdd,reduceLT,reduceLeDiff,List.reduceReplicate,aP,hk,g2,nr,hoe]
    rw [Nat.mul_zero,Nat.add_zero] at hv2
    have hgq:g=q:=by
     rcases am q g with h|h
     ·have:4294967296^i*((q+1)*bk v)≤4294967296^i*(g*bk v):=Nat.mul_le_mul_left _ (aS _ h)
      omega
     ·omega
    subst hgq
    exact hK o2 hO2 hl2 (by omega)
   ·have hT1:T=1:=by omega
    subst hT1
    have hgq:g=q+1:=by
     rcases am q g with h|h
     ·omega
     ·have hgq:g=q:=by omega
      subst hgq
      have h1:=ms (hO2.take (i+(k+2)+1))
      rw [←ph (n:=i+(k+2)+1) (fun l hl=>hz2 l (by omega)),d9,Nat.min_eq_left (by omega),Nat.pow_succ] at h1
      omega
    subst hgq
    clear hsd hs hv hO hzo hD hT hqB hg2
    have hQ:=hqV.1
    rw [Nat.add_mul q,Nat.one_mul,Nat.mul_add] at hv2
    simp (maxSteps:=2000000) (disch:=omega) only [↓RS,RY,reduceCtorEq,reduceAdd,reduceLT,reduceLeDiff,List.reduceReplicate,aP,hk,g2,nr,hoe]
    refine eG (fun (x:Nat×Nat×List Nat) J=>ov [(0,.sref 0 0 u.length u.length 1 true),(1,.lst 1 (lw v)),(2,.prim (.int .i64 ((i:Nat):Int))),(6,.prim (.int .u32 ((0:Nat):Int))),(7,.prim (.int .i64 ((k+2:Nat):Int))),(9,.prim (.int .u64 ((q+1:Nat):Int))),(15,.prim (.int .u32 ((x.2.1:Nat):Int))),(157,.lst 1 (lw v)),(158,.prim (.int .i64 ((k+2:Nat):Int))),(159,.prim (.int .i64 ((x.1:Nat):Int)))] J 0 194)
     (S5 u v i (bk o2) H0) (fun x=>v.length-x.1) (0,0,o2) rfl ⟨bh _,bh _,hl2,hO2,hz2,by simp [bk],rfl⟩ ?_
    rintro ⟨j,s,o⟩ J H ⟨hj,hs1,ho,hO,hzo,hv,rfl⟩
    try conv in ov _ _ _ _=>simp only [ov,List.lookup,bG,Option.getD_none,Nat.reduceAdd,Nat.reduceBEq]
    try conv in ov _ _ _ _=>simp only [ov,List.lookup,bG,Option.getD_none,Nat.reduceAdd,Nat.reduceBEq]
    simp only at hj hs1 ho hO hzo hv ⊢
    rcases am j v.length with hjv|hjv
    ·have hx:=hM.getD j
     have t1:=fN v hjv
     have g1:=j9 (l:=v) (k:=j) hjv
     generalize v.getD j 0=x at*
     have hw:=hO.getD (i+j)
     have g2:=mT (l:=o) (k:=i+j) (by omega)
     have hs:=fun D=>lG o (i+j) D (by omega)
     generalize o.getD (i+j) 0=w at*
     have hst:=PI (T:=(w+x+s)/4294967296) (x:=x) (4294967296^i) (4294967296^j) (Nat.pow_add ..) hv (hs ((w+x+s)%4294967296)) (Nat.mod_add_div (w+x+s) 4294967296).symm
     simp (maxSteps:=2000000) (disch:=omega) only [↓RS,RY,reduceCtorEq,reduceAdd,reduceLT,reduceLeDiff,List.reduceReplicate,aP,hk,g1,g2]
     refine gB (PK w x s hw hx hs1) (.inl rfl) ?_
     simp (maxSteps:=2000000) (disch:=omega) only [↓RS,RY,reduceCtorEq,reduceAdd,reduceLT,reduceLeDiff,List.reduceReplicate,aP,hk,g1,g2,nr]
     refine bl (j+1,(w+x+s)/4294967296,o.set (i+j) ((w+x+s)%4294967296)) rfl ⟨hjv,by simp only;omega,by simp [ho],hO.set _ (by omega),fun l hl=>by simp only;rw [jH (by omega)];exact hzo l hl,?_,rfl⟩ (by simp only;omega)
     try simp only
     rw [t1,←Nat.add_assoc i j 1,Nat.pow_succ]
     exact hst
    ·have hjk:j=k+2:=by omega
     subst hjk
     rw [im v (by omega)] at hv
     obtain ⟨lo',hlo',htp⟩:=OB (l:=o) (n:=i+(k+2)) (by omega) hO (fun l hl=>hzo l (by omega))
     have hw:=hO.getD (i+(k+2))
     have g2:=mT (l:=o) (k:=i+(k+2)) (by omega)
     have hs:=lG o (i+(k+2))
     generalize o.getD (i+(k+2)) 0=w at*
     have h4:=hs ((w+s)%4294967296) (by omega)
     have hfin:=OI (N:=N) (Q:=4294967296^i*(q*bk v)) (by rw [←Nat.mul_one (4294967296^(i+(k+2))*4294967296)];omega) hQ htp hlo' hw hs1 h4
     have e1:q+1-1=q:=rfl
     simp (maxSteps:=2000000) (disch:=omega) only [↓RS,RY,reduceCtorEq,reduceAdd,reduceLT,reduceLeDiff,List.reduceReplicate,aP,hk,g2,nr,e1]
     exact hK _ (hO.set _ (by omega)) (by simp [ho]) hfin
 rintro ⟨g,r⟩ J H ⟨⟨ht',hgq⟩,rfl⟩
 try conv in ov _ _ _ _=>simp only [ov,List.lookup,bG,Option.getD_none,Nat.reduceAdd,Nat.reduceBEq]
 try conv in ov _ _ _ _=>simp only [ov,List.lookup,bG,Option.getD_none,Nat.reduceAdd,Nat.reduceBEq]
 simp only at ht' hgq ⊢
 have hgt:g≤t:=by
  have:g*1≤g*v1:=Nat.mul_le_mul_left g htop
  omega
 have hup:= @RU _ _ 4294967296 _ lo u2 t (bk (v.take k)) v2 v1 g r hU hV hvl htop hv2 ht'
 have hdec:= @SA _ _ 4294967296 _ lo u2 t (bk (v.take k)) v2 v1 g r hU hlo hV hUV ht'
 rw [←hq] at hup hdec
 have hgv:g<4294967296→g*v2≤4294967295*4294967295:=fun h=>Nat.mul_le_mul (by omega) (by omega)
 have hnext:g*v1=(g-1)*v1+v1∨g=0:=by
  rcases g with _|g
  ·exact .inr rfl
  ·left;rw [Nat.add_mul,Nat.one_mul,Nat.add_sub_cancel]
 have body:∀ d,d=g-1→1≤g→q≤d→d*v1+(r+v1)=t∧(4294967296≤r+v1→d<4294967296→d≤q+1)∧r+v1<18446744073709551616:=by
  intro d hd hg hqd
  have e:d*v1+(r+v1)=t:=by
   rcases hnext with h|h
   ·rw [hd];omega
   ·omega
  exact ⟨e,fun h1 h2=>by have:= @RU _ _ 4294967296 _ lo u2 t (bk (v.take k)) v2 v1 d (r+v1) hU hV hvl htop hv2 e h2 (.inl h1);rwa [←hq] at this,by omega⟩
 have fin:∀ d,d=g-1→1≤g→q≤d→g<18446744073709551616:=by intros;omega
 rcases am g 4294967296 with hgB|hgB
 ·have hgv:=hgv hgB
  rcases am r 4294967296 with hrB|hrB
  ·rcases am (r*4294967296+u2) (g*v2) with hc|hc
   ·have hd:=hdec hgq (.inr hc)
    obtain ⟨hb1,hb2,hb3⟩:=body (g-1) rfl (by omega) (by omega)
    rcases am (r+v1) 4294967296 with hr2|hr2
    ·simp (maxSteps:=2000000) (disch:=omega) only [↓RS,RY,reduceCtorEq,reduceAdd,reduceLT,reduceLeDiff,List.reduceReplicate,aP,hk,g2,k1,k2,a2,b1,b2,se,l4,jZ,BZ,na]
     exact bl (g-1,r+v1) rfl ⟨⟨hb1,by simp only;omega⟩,rfl⟩ (by simp only;omega)
    ·have hb2:=hb2 hr2 (by omega)
     simp (maxSteps:=2000000) (disch:=omega) only [↓RS,RY,reduceCtorEq,reduceAdd,reduceLT,reduceLeDiff,List.reduceReplicate,aP,hk,g2,k1,k2,a2,b1,b2,se,l4,jZ,BZ,na]
     exact lm (g-1) rfl ⟨⟨by omega,hb2,by omega⟩,rfl⟩
   ·have h:=hup hgB (.inr hc)
    simp (maxSteps:=2000000) (disch:=omega) only [↓RS,RY,reduceCtorEq,reduceAdd,reduceLT,reduceLeDiff,List.reduceReplicate,aP,hk,g2,k1,k2,a2,b1,b2,se,l4,jZ,BZ,na]
    exact lm g rfl ⟨⟨hgq,h,hgB⟩,rfl⟩
  ·have h:=hup hgB (.inl hrB)
   simp (maxSteps:=2000000) (disch:=omega) only [↓RS,RY,reduceCtorEq,reduceAdd,reduceLT,reduceLeDiff,List.reduceReplicate,aP,hk,g2,k1,k2,a2,b1,b2,se,l4,jZ,BZ,na]
   exact lm g rfl ⟨⟨hgq,h,hgB⟩,rfl⟩
 ·have hd:=hdec hgq (.inl hgB)
  obtain ⟨hb1,hb2,hb3⟩:=body (g-1) rfl (by omega) (by omega)
  rcases am (r+v1) 4294967296 with hr2|hr2
  ·simp (maxSteps:=2000000) (disch:=omega) only [↓RS,RY,reduceCtorEq,reduceAdd,reduceLT,reduceLeDiff,List.reduceReplicate,aP,hk,g2,k1,k2,a2,b1,b2,se,l4,jZ,BZ,na]
   exact bl (g-1,r+v1) rfl ⟨⟨hb1,by simp only;omega⟩,rfl⟩ (by simp only;omega)
  ·rcases am (g-1) 4294967296 with hg2|hg2
   ·have hb2:=hb2 hr2 hg2
    simp (maxSteps:=2000000) (disch:=omega) only [↓RS,RY,reduceCtorEq,reduceAdd,reduceLT,reduceLeDiff,List.reduceReplicate,aP,hk,g2,k1,k2,a2,b1,b2,se,l4,jZ,BZ,na]
    exact lm (g-1) rfl ⟨⟨by omega,hb2,by omega⟩,rfl⟩
   ·simp (maxSteps:=2000000) (disch:=omega) only [↓RS,RY,reduceCtorEq,reduceAdd,reduceLT,reduceLeDiff,List.reduceReplicate,aP,hk,g2,k1,k2,a2,b1,b2,se,l4,jZ,BZ,na]
    exact bl (g-1,r+v1) rfl ⟨⟨hb1,by simp only;omega⟩,rfl⟩ (by simp only;omega)
end Go.Av
namespace Go.Av
open Go.RowKit
open Go.Proofs.Tryz (prog)
theorem VR.tup_imp {vs vs':List V} (h:∀ I w x,VRs (fun _=>none) I w vs' x→VRs (fun _=>none) I w vs x):∀ I w x,VR (fun _=>none) I w (.tup vs') x→VR (fun _=>none) I w (.tup vs) x:=by
 intro I w x hx
 cases hx with
 |tup h1 h2=>
  have:=h I w _ ⟨h1,h2⟩
  exact .tup this.len this.at_
theorem oY {n:Nat} (h:n≠0):∃ k,(bf n).length=k+1∧0<(bf n).getD k 0∧4294967296^k≤n:=by
 induction n using Nat.strongRecOn with
 |_ n ih=>
  rw [nG h]
  by_cases hz:n/4294967296=0
  ·refine ⟨0,by rw [hz,jj];rfl,?_,by simp;omega⟩
   simp;omega
  ·obtain ⟨k,h1,h2,h3⟩:=ih (n/4294967296) (by omega) hz
   refine ⟨k+1,by simp [h1],by simpa using h2,?_⟩
   rw [Nat.pow_succ]
   have:=aS 4294967296 h3
   omega
theorem k7 (n:Nat):n<4294967296^(bf n).length:=by
 have:=ms (cY n)
 rwa [cS] at this
structure S4 (n0 V q0:Nat) (H0:Hp) (x:Nat×List Nat×List Nat) (H:Hp) (nu:Nat):Prop where
 i:x.1≤q0
 u:x.2.1.length=nu
 q:x.2.2.length=q0
 lu:jD x.2.1
 lq:jD x.2.2
 z:∀ j,j<x.1→x.2.2.getD j 0=0
 r:bk x.2.1<4294967296^x.1*V
 v:bk x.2.1+bk x.2.2*V=n0
 H:H=[some (.row 1 true (lw x.2.1)),none,some (.row 1 true (lw x.2.2))]
theorem L5 {A D n:Nat}:(A*2^n)/(D*2^n)=A/D∧(A*2^n)%(D*2^n)/2^n=A%D:=by
 refine ⟨Nat.mul_div_mul_right _ _ (Nat.two_pow_pos n),?_⟩
 rw [Nat.mul_mod_mul_right,Nat.mul_div_cancel _ (Nat.two_pow_pos n)]
theorem QA {a b:Nat}:GM (bf a) (bf b)=sgn a b:=by
 unfold GM
 rw [cS,cS]
 have ha:=k7 a
 have hb:=k7 b
 have mono:∀ {x y:Nat},(bf x).length<(bf y).length→x<y:=by
  intro x y h
  have hy:y≠0:=fun e=>by subst e;rw [jj] at h;simp at h
  obtain ⟨k,h1,_,h3⟩:=oY hy
  have hx:=k7 x
  have:4294967296^(bf x).length≤4294967296^k:=Nat.pow_le_pow_right (by omega) (by omega)
  omega
 split
 ·rename_i h;rw [sgn,if_pos (mono h)]
 ·split
  ·rename_i h;have:=mono h;rw [sgn,if_neg (by omega),if_pos this]
  ·rfl
theorem pb (a b:Nat) (ha:(bf a).length<2^40) (hb:(bf b).length<2^40):PC prog 189 [.lst 1 (lw (bf a)),.lst 1 (lw (bf b))] (.prim (.int .i64 (sgn a b))):=by
 rw [←QA];exact IX _ _ ha hb (cY _) (cY _)
theorem Pe {N V q0 Q i u':Nat} (hV:0<V) (hu:N<4294967296^(i+1)*V) (hv:N+Q*V=q0) (hu':u'=N-4294967296^i*(N/4294967296^i/V*V)):
 u'<4294967296^i*V∧u'+(Q+4294967296^i*(N/4294967296^i/V))*V=q0∧N/4294967296^i/V<4294967296:=by
 obtain ⟨h1,h2⟩:=Kc (N:=N) (p:=4294967296^i) (V:=V) (Nat.pow_pos (by omega)) hV rfl
 have h3:N/4294967296^i/V<4294967296:=by
  refine Nat.div_lt_of_lt_mul (Nat.div_lt_of_lt_mul ?_)
  rw [Nat.pow_succ,Nat.mul_assoc,Nat.mul_comm 4294967296] at hu;exact hu
 refine ⟨?_,?_,h3⟩
 ·rw [Nat.add_mul,Nat.one_mul,Nat.mul_add] at h2;omega
 ·rw [Nat.add_mul,Nat.mul_assoc];omega
theorem DW (a d:Nat) (ha:(bf a).length<2^37) (hdl:(bf d).length<2^37) (hd:0<d):PC prog 267 [.lst 1 (lw (bf a)),.lst 1 (lw (bf d))] (.tup [.lst 1 (lw (bf (a/d))),.lst 1 (lw (bf (a%d)))]):=by
 rcases am a d with hlt|hge
 ·rw [Nat.div_eq_of_lt hlt,bA hlt,jj]
  refine PC.res (r:= .tup [.prim (.slice none 0 0),.lst 1 (lw (bf a))]) ?_ (VR.tup_imp (VRs.cons_imp Qt K1))
  refine PCi ?_
  conv in bL _ _=>cbv
  simp only [bM,RN,simprocAttr]
  simp (maxSteps:=2000000) (disch:=omega) only [↓RS,RY,simprocAttr]
  refine gB (pb a d (by omega) (by omega)) (.inl rfl) ?_
  have hs:sgn a d= -1:=by rw [sgn,if_pos hlt]
  simp (maxSteps:=2000000) (disch:=omega) only [↓RS,RY,simprocAttr,hs]
 ·obtain ⟨k,hk,htop,hkd⟩:=oY (by omega:d≠0)
  have hs:0≤sgn a d:=by rw [sgn,if_neg (by omega)];split<;>omega
  have hL:=cY d
  have hA:=cY a
  have htl:=hL.getD k
  refine PCi ?_
  conv in bL _ _=>cbv
  simp only [bM,RN,simprocAttr]
  simp (maxSteps:=2000000) (disch:=omega) only [↓RS,RY,simprocAttr]
  refine gB (pb a d (by omega) (by omega)) (.inl rfl) ?_
  rcases k with _|k
  ·have g1:=j9 (l:=bf d) (k:=0) (by omega)
   have hd1:(bf d).getD 0 0=d:=by
    rw [nG (by omega)]
    have:=k7 d
    rw [hk] at this
    simp;omega
   rw [hd1] at g1 htl
   simp (maxSteps:=2000000) (disch:=omega) only [↓RS,RY,simprocAttr,aP,hk,g1]
   have h:=ND (bf a) d (by omega) hA hd htl
   rw [cS] at h
   refine gB h (.inl rfl) ?_
   have hr:a%d<4294967296:=Nat.lt_trans (Nat.mod_lt _ hd) htl
   simp (maxSteps:=2000000) (disch:=omega) only [↓RS,RY,simprocAttr]
   refine bI (pF rfl (x:=[a%d]) (ax 1) rfl (by simp only [aC,aI];omega) (fun x hx=>by simp at hx;omega) ?_)
   have e:bk [a%d]=a%d:=by simp [bk]
   rw [e]
   simp (maxSteps:=2000000) (disch:=omega) only [↓RS,RY,simprocAttr]
  ·have g1:=j9 (l:=bf d) (k:=k+1) (by omega)
   generalize htt:(bf d).getD (k+1) 0=t at*
   obtain ⟨hn1,hn2⟩:=LF (x:=t) (by omega) htl
   have hbl:= @uL t 32 htl
   have hbl0:1≤blen t:=by obtain ⟨j,h1,_⟩:=uK (x:=t) (by omega);omega
   generalize hnn:32-blen t=n at*
   have hn32:n<32:=by omega
   have e1:k+1+1-1=k+1:=rfl
   simp (maxSteps:=2000000) (disch:=omega) only [↓RS,RY,simprocAttr,aP,hk,g1,e1]
   refine gB (Qx t htl) (.inl rfl) ?_
   rw [hnn]
   simp (maxSteps:=2000000) (disch:=omega) only [↓RS,RY,simprocAttr]
   refine bI (Ga (bf a) n (by omega) hA hn32 ?_)
   simp (maxSteps:=2000000) (disch:=omega) only [↓RS,RY,simprocAttr]
   refine bI (Ga (bf d) n (by omega) hL hn32 ?_)
   simp (maxSteps:=2000000) (disch:=omega) only [↓RS,RY,simprocAttr]
   have hV:bk (mU ((bf d).length+1) (bk (bf d)*2^n))=d*2^n:=by
    rw [cS,tC]
    have h1:=k7 d
    have h2:2^n<4294967296:=Nat.lt_of_le_of_lt (Nat.pow_le_pow_right (by omega) (show n≤31 by omega)) (by omega)
    rw [Nat.pow_succ]
    exact Nat.mul_lt_mul_of_lt_of_lt h1 h2
   have hU:bk (mU ((bf a).length+1) (bk (bf a)*2^n))=a*2^n:=by
    rw [cS,tC]
    have h1:=k7 a
    have h2:2^n<4294967296:=Nat.lt_of_le_of_lt (Nat.pow_le_pow_right (by omega) (show n≤31 by omega)) (by omega)
    rw [Nat.pow_succ]
    exact Nat.mul_lt_mul_of_lt_of_lt h1 h2
   have hUl:=qY ((bf a).length+1) (bk (bf a)*2^n)
   have hVl:=qY ((bf d).length+1) (bk (bf d)*2^n)
   have hUL:=tE ((bf a).length+1) (bk (bf a)*2^n)
   have hVL:=tE ((bf d).length+1) (bk (bf d)*2^n)
   generalize mU ((bf a).length+1) (bk (bf a)*2^n)=u at*
   generalize mU ((bf d).length+1) (bk (bf d)*2^n)=v at*
   refine bI (pF rfl (x:=v) (by rw [aP];omega) (by rw [List.drop_zero,←hVl,←aP];exact List.take_length) (by omega) hVL ?_)
   rw [hV]
   have hla:k+2≤(bf a).length:=by
    rcases am (bf a).length (k+2) with h|h
    ·have h1:=k7 a
     have h2:4294967296^(bf a).length≤4294967296^(k+1):=Nat.pow_le_pow_right (by omega) (by omega)
     omega
    ·exact h
   have hV0:d*2^n≠0:=Nat.ne_of_gt (Nat.mul_pos hd (Nat.two_pow_pos n))
   have hVlen:(bf (d*2^n)).length=k+2:=by
    obtain ⟨k',h1,h2,h3⟩:=oY hV0
    have h4:d*2^n<4294967296^(k+2):=by
     have h5:=nt (bf d) (k+1) (by omega)
     rw [cS,kQ _ (by omega:k+1<(bf d).length),htt,List.drop_of_length_le (by omega)] at h5
     simp only [bk,Nat.mul_zero,Nat.add_zero] at h5
     have h6:=ms (hL.take (k+1))
     rw [d9,Nat.min_eq_left (by omega)] at h6
     have h7:d<4294967296^(k+1)*(t+1):=by rw [Nat.mul_add];omega
     have h8:=Nat.mul_lt_mul_of_pos_right h7 (Nat.two_pow_pos n)
     refine Nat.lt_of_lt_of_le h8 ?_
     rw [Nat.pow_succ 4294967296 (k+1),Nat.mul_assoc]
     refine Nat.mul_le_mul_left _ ?_
     have h9:2^n*2^(32-n)=4294967296:=by rw [←Nat.pow_add];rw [show n+(32-n)=32 by omega]
     have h10:t<2^(32-n):=by
      refine Nat.lt_of_mul_lt_mul_right (a:=2^n) ?_
      rw [Nat.mul_comm (2^(32-n)),h9];exact hn2
     have h11:=aS (2^n) (show t+1≤2^(32-n) from h10)
     rw [Nat.mul_comm (2^(32-n)),h9] at h11
     exact h11
    have h5:k'<k+2:=(Nat.pow_lt_pow_iff_right (by omega:1<4294967296)).1 (Nat.lt_of_le_of_lt h3 h4)
    have h6:k+1≤k':=by
     rcases am k' (k+1) with h|h
     ·have h7:=k7 (d*2^n)
      rw [h1] at h7
      have h8:4294967296^(k'+1)≤4294967296^(k+1):=Nat.pow_le_pow_right (by omega) (by omega)
      have h9:d*1≤d*2^n:=Nat.mul_le_mul_left d (Nat.two_pow_pos n)
      omega
     ·exact h
    omega
   have hVtop:4294967296^(k+1)*2147483648≤d*2^n:=by
    have h1:=zB (bf d) (k+1) (by omega)
    rw [htt,cS] at h1
    have h2:=aS (2^n) h1
    rw [Nat.mul_assoc] at h2
    exact bi (Nat.mul_le_mul_left _ hn1) h2
   have hVt0:0<(bf (d*2^n)).getD (k+1) 0:=by
    obtain ⟨k',h1,h2,h3⟩:=oY hV0
    have:k'=k+1:=by omega
    subst this;exact h2
   obtain ⟨q0,hq0⟩:∃ q0,(bf a).length+1=q0+(k+2):=⟨(bf a).length+1-(k+2),by omega⟩
   have hq1:1≤q0:=by omega
   have e2:q0+(k+2)-(k+2)=q0:=Nat.add_sub_cancel ..
   have hinit:a*2^n<4294967296^q0*(d*2^n):=by
    have h1:=k7 a
    have h2:2^n≤2147483648:=Nat.pow_le_pow_right (by omega) (show n≤31 by omega)
    have h3:a*2^n<4294967296^(bf a).length*2147483648:=Nat.mul_lt_mul_of_lt_of_le h1 h2 (by omega)
    refine Nat.lt_of_lt_of_le h3 ?_
    refine bi ?_ (Nat.mul_le_mul_left _ hVtop)
    rw [←Nat.mul_assoc,←Nat.pow_add,show q0+(k+1)=(bf a).length by omega]
    exact ax _
   have hlV:=cY (d*2^n)
   have hVv:=cS (d*2^n)
   have hVp:0<d*2^n:=by omega
   have hsc:= @L5 a d n
   generalize bf (d*2^n)=v' at*
   generalize d*2^n=W at*
   generalize hA2:a*2^n=A2 at*
   clear hn1 hn2 hV hVL hVl
   simp (maxSteps:=2000000) (disch:=omega) only [↓RS,RY,simprocAttr,aP,hVlen,hq0,e2]
   rw [show ((q0-1:Nat):Int)=(q0:Int)-1 by omega]
   refine eG (fun (x:Nat×List Nat×List Nat) J=>ov [(4,.prim (.slice none 0 0)),(5,.prim (.slice none 0 0)),(8,.prim (.int .i64 ((n:Nat):Int))),(9,.sref 0 0 (q0+(k+2)) (q0+(k+2)) 1 true),(10,.lst 1 (lw v')),(11,.sref 2 0 q0 q0 1 true),(12,.prim (.int .i64 ((x.1:Int)-1)))] J 0 73)
    (fun x H=>S4 A2 W q0 [] x H (q0+(k+2))) (fun x=>x.1) (q0,u,List.replicate q0 0) rfl
    ⟨ax _,by simp only;omega,by simp,hUL,lJ _,fun j _=>kJ _ _,by simp only;rw [hU];exact hinit,by simp only;rw [hU,lH];omega,by simp [lw]⟩ ?_
   rintro ⟨i,u,q⟩ J H ⟨hi,hul,hql,hUL,hQL,hz,hr,hv,rfl⟩
   try conv in ov _ _ _ _=>simp only [ov,List.lookup,RO,simprocAttr]
   simp only at hi hul hql hUL hQL hz hr hv ⊢
   rcases i with _|i
   ·rw [Nat.pow_zero,Nat.one_mul] at hr
    have hqv:bk q=a/d:=by
     rw [←hsc.1,←hv,Nat.mul_comm,Nat.add_mul_div_left _ _ hVp,Nat.div_eq_of_lt hr,aX]
    have hrv:bk u/2^n=a%d:=by
     rw [←hsc.2,←hv,Nat.mul_comm,Nat.add_mul_mod_self_left,bA hr]
    simp (maxSteps:=2000000) (disch:=omega) only [↓RS,RY,simprocAttr,aP]
    refine bI (pF rfl (x:=q) (by rw [aP];omega) (by rw [List.drop_zero,←hql,←aP];exact List.take_length) (by omega) hQL ?_)
    rw [hqv]
    simp (maxSteps:=2000000) (disch:=omega) only [↓RS,RY,simprocAttr,aP]
    refine bI (pF rfl (x:=u) (by rw [aP];omega) (by rw [List.drop_zero,←hul,←aP];exact List.take_length) (by omega) hUL ?_)
    simp (maxSteps:=2000000) (disch:=omega) only [↓RS,RY,simprocAttr,aP]
    have h:=HP (bf (bk u)) n (by
     have:=mt (ms hUL)
     omega) (cY _) hn32
    rw [cS,hrv] at h
    refine gB h (.inl rfl) ?_
    simp (maxSteps:=2000000) (disch:=omega) only [↓RS,RY,simprocAttr]
   ·obtain ⟨h1,h2,h3⟩:=Pe hVp hr hv rfl
    have hs:=lG q i (bk u/4294967296^i/W) (by omega)
    rw [hz i (by omega),Nat.mul_zero,Nat.add_zero] at hs
    have g3:=mT (l:=q) (k:=i) (by omega)
    simp (maxSteps:=2000000) (disch:=omega) only [↓RS,RY,simprocAttr,aP,wU]
    refine bI ?_
    rw [←hul]
    refine Pi u v' i k _ (by omega) hVlen (by omega) hUL hlV hVt0 (by rw [hVv];exact hr) rfl ?_
    intro u' hu1 hu2 hu3
    rw [hVv] at hu3 ⊢
    rw [hul] at hu2 ⊢
    generalize bk u/4294967296^i/W=D at*
    simp (maxSteps:=2000000) (disch:=omega) only [↓RS,RY,simprocAttr,aP,g3,nr,wU]
    refine bl (i,u',q.set i D) rfl ⟨by simp only;omega,hu2,by simp [hql],hu1,hQL.set _ h3,fun l hl=>by simp only at hl ⊢;rw [jH (by omega)];exact hz l (by omega),by simp only;rw [hu3];exact h1,by simp only;rw [hs,hu3];exact h2,rfl⟩ (by simp only;omega)
end Go.Av
