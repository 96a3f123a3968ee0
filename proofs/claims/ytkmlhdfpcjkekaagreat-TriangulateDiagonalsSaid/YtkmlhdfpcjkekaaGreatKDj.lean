/- Helping texts: Dj, Dk, Dl, Dm, Dp. -/
import Derived.Test.YtkmlhdfpcjkekaaGreatKDf
import Derived.Test.YtkmlhdfpcjkekaaGreatKDa
set_option linter.unusedSimpArgs false
set_option linter.unusedVariables false
set_option maxRecDepth 100000
set_option maxHeartbeats 16000000
namespace Go.Av
open Go.RowKit
open Go.Proofs.Tryz (prog)
def Rp.pt (p:Rp):Pt:=⟨p.x.val,p.y.val⟩
def pts (l:List Rp):List Pt:=l.map Rp.pt
theorem oJ (l:List Rp):(pts l).length=l.length:=az ..
theorem Ei {l:List Rp} (h:ub l=true):∀ p∈l,p.ok=true:=by
 intro p hp
 obtain ⟨i,hi,rfl⟩:=bK.1 hp
 unfold ub at h
 rw [List.all_eq_true] at h
 have:=h i (by simpa using hi)
 rwa [ae,af hi] at this
theorem RI {p:Rp} (h:p.ok=true):p.x=can p.x.val∧p.y=can p.y.val:=by
 unfold Rp.ok at h;exact of_decide_eq_true h
theorem So {p:Rp} (h:p.ok=true):rpc p=pc p.pt:=by
 obtain ⟨h1,h2⟩:=RI h
 unfold rpc pc Rp.pt
 simp only [←h1,←h2]
theorem JJ {l:List Rp} (h:ub l=true):dH l=psV (pts l):=by
 unfold dH psV pts
 rw [List.map_map]
 congr 1
 exact List.map_congr_left fun p hp=>So (Ei h p hp)
theorem GR {q:Rat} {k:Nat} (h:(can q).le k) (hk:1≤k):ht q≤k:=by
 obtain ⟨h1,h2⟩:=h
 unfold can at h1 h2
 unfold ht dl
 simp only at h1 h2
 refine Nat.max_le.2 ⟨h1,?_⟩
 split at h2
 ·rename_i e;rw [e]
  have:(bZ 1).length=1:=by rw [lU (by omega)];simp [il]
  omega
 ·exact h2
theorem OV {l:List Rp} {k:Nat} (ho:ub l=true) (h:∀ p∈l,p.le k) (hk:1≤k):hl (pts l) k:=by
 intro q hq
 obtain ⟨p,hp,rfl⟩:=av.1 hq
 obtain ⟨h1,h2⟩:=RI (Ei ho p hp)
 obtain ⟨k1,k2⟩:=h p hp
 rw [h1] at k1;rw [h2] at k2
 exact DL (GR k1 hk) (GR k2 hk)
def Fu (L:List Pt):Int:=if 0≤oa L.length (pi L) then 12 else if crossB L=true then 13 else if jV (jB L) 0≤0∨gA L L.length≠0 then 8 else 0
def sR (l:List Rp):Int:=if l.length<3∨64<l.length then 4 else if ub l=true then Fu (pts l) else 1
theorem x6 (l:List Rp) (hn:l.length<2^50) (hl0:∀ p∈l,p.le (2^16)):PC prog 110 [dH l] (.prim (.int .i64 (sR l))):=by
 refine PCi ?_
 conv in bL _ _=>cbv
 simp only [bM,RN,simprocAttr]
 unfold sR
 by_cases h1:l.length<3
 ·rw [if_pos (.inl h1)]
  simp (disch:=omega) only [↓RS,RZ,simprocAttr,dH,bX]
 by_cases h2:64<l.length
 ·rw [if_pos (.inr h2)]
  simp (disch:=omega) only [↓RS,RZ,simprocAttr,dH,bX]
 rw [if_neg (by omega)]
 have c:=wS l (by omega) (fun p hp=>⟨⟨bi (hl0 p hp).1.1 (by omega),bi (hl0 p hp).1.2 (by omega)⟩,⟨bi (hl0 p hp).2.1 (by omega),bi (hl0 p hp).2.2 (by omega)⟩⟩)
 cases ho:ub l with
 |false=>
  rw [ho] at c
  rw [if_neg (by simp)]
  simp (disch:=omega) only [↓RS,RZ,simprocAttr,dH,bX]
  refine cX c ?_
  simp (disch:=omega) only [↓RS,RZ,simprocAttr]
 |true=>
  rw [ho] at c
  rw [if_pos rfl]
  have hL:=OV ho hl0 (by omega)
  have hlen:=oJ l
  rw [JJ ho] at c ⊢
  generalize pts l=L at*
  have hn:L.length≤64:=by omega
  have hne:L≠[]:=by intro h;rw [h] at hlen;simp at hlen;omega
  have f:=QL L (by omega) (fun p hp=>bi (hL p hp) (by omega))
  have x:=He L (by omega) hne (fun p hp=>bi (hL p hp) (by omega))
  have a:=Rw L (by omega) hL
  have hta:ht (jB L)≤2^30:=by
   have h1:=xG hL L.length (ax _)
   have h2:=xF (mY L L.length) 2
   have h3:=IB
   have h4:L.length*(4*2^16+2)≤64*(4*2^16+2):=aS _ hn
   unfold jB
   omega
  have s:=sZ (jB L) (by omega)
  have i:=O4 L (by omega) (fun p hp=>bi (hL p hp) (by omega))
  unfold Fu
  simp (disch:=omega) only [↓RS,RZ,simprocAttr,psV,cU]
  refine cX c ?_
  simp (disch:=omega) only [↓RS,RZ,simprocAttr,psV,cU]
  refine cX f ?_
  by_cases h3:0≤oa L.length (pi L)
  ·rw [if_pos h3]
   simp (disch:=omega) only [↓RS,RZ,simprocAttr]
  ·rw [if_neg h3]
   simp (disch:=omega) only [↓RS,RZ,simprocAttr,psV,cU]
   refine cX x ?_
   cases h4:crossB L with
   |true=>
    rw [if_pos rfl]
    simp (disch:=omega) only [↓RS,RZ,simprocAttr]
   |false=>
    rw [if_neg (by simp)]
    simp (disch:=omega) only [↓RS,RZ,simprocAttr,psV,cU]
    refine cX a ?_
    simp (disch:=omega) only [↓RS,RZ,simprocAttr,qV,rV]
    refine cX s ?_
    by_cases h5:jV (jB L) 0≤0
    ·rw [if_pos (.inl h5)]
     simp (disch:=omega) only [↓RS,RZ,simprocAttr]
    ·by_cases h6:gA L L.length=0
     ·rw [if_neg (fun h=>h.elim h5 (fun h=>h h6))]
      simp (disch:=omega) only [↓RS,RZ,simprocAttr,psV,cU]
      refine cX i ?_
      simp (disch:=omega) only [↓RS,RZ,simprocAttr]
     ·rw [if_pos (.inr h6)]
      simp (disch:=omega) only [↓RS,RZ,simprocAttr,psV,cU]
      refine cX i ?_
      simp (disch:=omega) only [↓RS,RZ,simprocAttr]
end Go.Av
namespace Go.Av
open Go.RowKit
open Go.Proofs.Tryz (prog)
theorem rp_ok (p:Pt):p.rp.ok=true:=by unfold Rp.ok Pt.rp;simp only [ln];simp
theorem rp_pt (p:Pt):p.rp.pt=p:=by unfold Rp.pt Pt.rp;simp only [ln]
theorem HA (L:List Pt):ub (L.map Pt.rp)=true:=by
 unfold ub
 rw [List.all_eq_true]
 intro i hi
 have hi:i<(L.map Pt.rp).length:=by simpa using hi
 rw [ae,af hi,bG,List.getElem_map]
 exact rp_ok _
theorem vg (L:List Pt):pts (L.map Pt.rp)=L:=by
 unfold pts
 rw [List.map_map]
 have:(Rp.pt∘Pt.rp)=id:=funext rp_pt
 rw [this,List.map_id]
theorem Gd {L:List Pt} {k:Nat} (h:hl L k):∀ p∈L.map Pt.rp,p.le k:=by
 intro p hp
 obtain ⟨q,hq,rfl⟩:=av.1 hp
 have:=h q hq
 exact ⟨nB (bi (sP q) this),nB (bi (rG q) this)⟩
structure jo (L:List Pt):Prop where
 lo:3≤L.length
 hi:L.length≤64
 ok:Fu L=0
 ht:hl L (2^16)
theorem jo.ne {L:List Pt} (h:jo L):L≠[]:=by intro e;have:=h.lo;rw [e] at this;simp at this
theorem jo.le {L:List Pt} (h:jo L) {k:Nat} (hk:2^16≤k):hl L k:=fun p hp=>bi (h.ht p hp) hk
theorem zJ {L:List Pt} (h1:3≤L.length) (h2:L.length≤64):sR (L.map Pt.rp)=Fu L:=by
 unfold sR
 rw [if_neg (by rw [az];omega),HA,if_pos rfl,vg]
theorem jo.check_pc {L:List Pt} (h:jo L):PC prog 110 [psV L] (.prim (.int .i64 (0))):=by
 have:=x6 (L.map Pt.rp) (by rw [az];have:=h.hi;omega) (Gd h.ht)
 rw [zJ h.lo h.hi,h.ok,←JM] at this
 exact this
theorem Q1 (p:Pt) (h:hp p≤2^20):PC prog 176 [psV [p]] (.prim (.bool true)):=by
 have:=wS ([p].map Pt.rp) (by simp) (fun q hq=>by
  obtain ⟨h1,h2⟩:=Gd (L:=[p]) (k:=2^20) (fun q hq=>by simp at hq;rw [hq];exact h) q hq
  exact ⟨⟨bi h1.1 (by omega),bi h1.2 (by omega)⟩,⟨bi h2.1 (by omega),bi h2.2 (by omega)⟩⟩)
 rw [HA,←JM] at this
 exact this
def onB (L:List Pt) (p:Pt):Bool:=(List.range L.length).any fun i=>gY (L.getD i default) (nx L i) p
theorem Gz {L:List Pt} {p:Pt} {i:Nat} (hi:i<L.length) (h:gY (L.getD i default) (nx L i) p=true):onB L p=true:=List.any_eq_true.2 ⟨i,by simpa using hi,h⟩
theorem xr {L:List Pt} {p:Pt} (h:∀ i,i<L.length→gY (L.getD i default) (nx L i) p=false):onB L p=false:=by
 unfold onB;rw [List.any_eq_false];intro i hi;rw [h i (by simpa using hi)];simp
def fI (L:List Pt) (p:Pt):Int:=if onB L p=true then 0 else if bW L p L.length=true then 1 else-1
theorem El (L:List Pt) (p:Pt) (hR:jo L) (hp0:hp p≤2^20):PC prog 130 [psV L,pV p] (.tup [.prim (.int .i64 (fI L p)),.prim (.int .i64 (0))]):=by
 have h64:=hR.hi
 have hL:hl L (2^20):=hR.le (by omega)
 have c:=hR.check_pc
 have d:=Q1 p hp0
 have o:=St L p (by omega) hL hp0
 refine PCi ?_
 conv in bL _ _=>cbv
 simp only [bM,RN,simprocAttr]
 simp (disch:=omega) only [↓RS,RZ,simprocAttr,pV,ptV,psV]
 refine cX c ?_
 simp (disch:=omega) only [↓RS,RZ,simprocAttr,pV,ptV,psV,pc,aY,List.map_nil]
 refine cX d ?_
 simp (disch:=omega) only [↓RS,RZ,simprocAttr,psV]
 refine bI (wL L ?_)
 simp (disch:=omega) only [↓RS,RZ,simprocAttr,psV]
 refine vI rE (n:=5) (k:=2) rfl rfl rfl (by kernel_rfl) ?_
 conv in lcC _=>cbv
 conv in lcC _=>cbv
 intro R B D hR hyc
 simp only [List.nil_append,List.cons_append] at hyc ⊢
 refine uF L (by omega) (fun i H=>get H 0=some (.row 6 true [pc p])∧(∃ z,get H 1=some (.row 1 true [[z]]))∧(∃ z,get H 2=some (.row 1 true [[z]]))∧get H 4=some (.row 1 true [[psV L]])∧get H 5=some R∧∀ j,j<i→gY (L.getD j default) (nx L j) p=false)
  (fun H=>onB L p=true∧get H 1=some (.row 1 true [[.prim (.int .i64 (0))]])∧get H 2=some (.row 1 true [[.prim (.int .i64 (0))]])∧get H 5=some (D .ret)) ?_ ?_ ?_ ?_ ?_ ?_
 ·rintro i H h;exact h.2.2.2.1
 ·rintro i H k ⟨h0,⟨z1,h1⟩,⟨z2,h2⟩,h3,h4,h5⟩;exact ⟨aO h0,⟨z1,aO h1⟩,⟨z2,aO h2⟩,aO h3,aO h4,h5⟩
 ·rintro i H hlt ⟨h0,⟨z1,h1⟩,⟨z2,h2⟩,h3,h4,h5⟩
  have hN:=bF h4
  refine hyc _ _ _ rfl h4 ?_
  clear hyc
  simp (disch:=omega) only [↓RS,RZ,simprocAttr,pV,ptV,kR,lR,aZ,pG]
  rw [lV]
  refine ⟨by rw [tM hN];exact h4,?_⟩
  obtain ⟨H1,e,f,k4,kn1,kn2,k5⟩:=vS (H:=H) (b:=5) (x:=some (.row 6 true [pc (L.getD i default)])) (y:=some (.row 6 true [pc (nx L i)])) (z:=some B) hN
  have q0:get H1 0=some (.row 6 true [pc p]):=by rw [f 0 (by omega) (by omega)];exact h0
  have q1:get H1 1=some (.row 1 true [[z1]]):=by rw [f 1 (by omega) (by omega)];exact h1
  have q2:get H1 2=some (.row 1 true [[z2]]):=by rw [f 2 (by omega) (by omega)];exact h2
  have q3:get H1 4=some (.row 1 true [[psV L]]):=by rw [f 4 (by omega) (by omega)];exact h3
  simp only [pc] at e kn1 kn2
  rw [e]
  have b1:=od hL hlt
  have b2:=GW hL hlt
  have bt:=sH (L.getD i default) (nx L i) p (by omega) (by omega) (by omega)
  simp (disch:=omega) only [↓RS,RZ,simprocAttr,kn1,kn2,q0,pc]
  refine cX bt ?_
  cases hb:gY (L.getD i default) (nx L i) p with
  |true=>
   have s2:∀ x,get (H1.set 1 x) 2=some (.row 1 true [[z2]]):=fun x=>by rw [bd (by omega)];exact q2
   simp (disch:=omega) only [↓RS,RZ,simprocAttr,q1,s2]
   rw [JI]
   refine ⟨by rw [bd (by omega),bd (by omega)];exact k4,.inr ⟨rfl,Gz hlt hb,?_,?_,?_⟩⟩
   ·rw [bd (by omega),bd (by omega),dF (by omega)]
   ·rw [bd (by omega),dF (by rw [cO];omega)]
   ·rw [dF (by rw [cO,cO];omega)]
  |false=>
   simp (disch:=omega) only [↓RS,RZ,simprocAttr]
   rw [k6]
   refine ⟨k4,.inl ⟨rfl,by rw [bd (by omega)];exact q0,⟨z1,by rw [bd (by omega)];exact q1⟩,⟨z2,by rw [bd (by omega)];exact q2⟩,by rw [bd (by omega)];exact q3,dF (by omega),fun j hj=> ?_⟩⟩
   rcases am j i with h|h
   ·exact h5 j h
   ·rw [show j=i by omega];exact hb
 ·exact ⟨rfl,⟨_,rfl⟩,⟨_,rfl⟩,rfl,rfl,fun j hj=>absurd hj (Nat.not_lt_zero j)⟩
 ·rintro v H ⟨h0,⟨z1,h1⟩,⟨z2,h2⟩,h3,h4,h5⟩
  have hN:=bF h4
  refine .inl ⟨h4,?_⟩
  have e0:get (H.set 5 none) 0=some (.row 6 true [pc p]):=by rw [bd (by omega)];exact h0
  have e1:get (H.set 5 none) 1=some (.row 1 true [[z1]]):=by rw [bd (by omega)];exact h1
  have e2:get (H.set 5 none) 2=some (.row 1 true [[z2]]):=by rw [bd (by omega)];exact h2
  have hl5:5<(H.set 5 none).length:=by rw [cO];omega
  generalize H.set 5 none=H1 at e0 e1 e2 hl5 ⊢
  have s2:∀ x,get (H1.set 1 x) 2=some (.row 1 true [[z2]]):=fun x=>by rw [bd (by omega)];exact e2
  have s3:∀ x y,get ((H1.set 1 x).set 2 y) 1=x:=fun x y=>by rw [bd (by omega),dF (by omega)]
  have s4:∀ x y,get ((H1.set 1 x).set 2 y) 2=y:=fun x y=>dF (by rw [cO];omega)
  have hon:onB L p=false:=xr h5
  unfold fI
  rw [hon,if_neg (by simp)]
  simp (disch:=omega) only [↓RS,RZ,simprocAttr,e0,pc,psV]
  refine cX o ?_
  cases ho:bW L p L.length with
  |true=>
   simp (disch:=omega) only [↓RS,RZ,simprocAttr,e1,s2,s3,s4]
  |false=>
   simp (disch:=omega) only [↓RS,RZ,simprocAttr,e1,s2,s3,s4]
 ·rintro v H ⟨hon,h1,h2,h5⟩
  have hN:=bF h5
  refine .inr ⟨.ret,h5,?_⟩
  have e1:get (H.set 5 none) 1=some (.row 1 true [[.prim (.int .i64 (0))]]):=by rw [bd (by omega)];exact h1
  have e2:get (H.set 5 none) 2=some (.row 1 true [[.prim (.int .i64 (0))]]):=by rw [bd (by omega)];exact h2
  unfold fI
  rw [hon,if_pos rfl]
  simp (disch:=omega) only [↓RS,RZ,simprocAttr,e1,e2]
end Go.Av
namespace Go.Av
open Go.RowKit
open Go.Proofs.Tryz (prog)
def qg (A B:List Pt):Bool:=(List.range A.length).any fun i=>(List.range B.length).any fun k=>(iI (b9 A i) (b9 B k)).isSome
theorem vj {A B:List Pt} {i k:Nat} (hi:i<A.length) (hk:k<B.length) (h:(iI (b9 A i) (b9 B k)).isSome=true):qg A B=true:=
 List.any_eq_true.2 ⟨i,by simpa using hi,List.any_eq_true.2 ⟨k,by simpa using hk,h⟩⟩
theorem yA {A B:List Pt} (h:∀ i,i<A.length→∀ k,k<B.length→(iI (b9 A i) (b9 B k)).isSome=false):qg A B=false:=by
 unfold qg
 rw [List.any_eq_false]
 intro i hi
 simp only [dz] at hi
 rw [Bool.not_eq_true,List.any_eq_false]
 intro k hk
 simp only [dz] at hk
 rw [h i hi k hk];simp
theorem J8 (A B:List Pt) (hA:jo A) (hB:jo B):PC prog 180 [psV A,psV B] (.prim (.bool (qg A B))):=by
 have a1:=hA.lo;have a2:=hA.hi;have a3:=hB.lo;have a4:=hB.hi
 have hLA:hl A (2^20):=hA.le (by omega)
 have hLB:hl B (2^20):=hB.le (by omega)
 have ea:=wW A (by omega) hA.ne
 have eb:=wW B (by omega) hB.ne
 refine PCi ?_
 conv in bL _ _=>cbv
 simp only [bM,RN,simprocAttr]
 simp (disch:=omega) only [↓RS,RZ,simprocAttr,psV]
 refine cX ea ?_
 simp (disch:=omega) only [↓RS,RZ,simprocAttr,ssV,eX,fD]
 refine eG (fun (i:Nat) J=>ov [(0,psV A),(1,psV B),(13,ssV (aU A)),(14,.prim (.int .i64 ((A.length:Nat):Int))),(15,.prim (.int .i64 ((i:Nat):Int)))] J 0 36) (fun i _=>i≤A.length∧∀ j,j<i→∀ k,k<B.length→(iI (b9 A j) (b9 B k)).isSome=false) (fun i=>A.length-i) 0 rfl ⟨bh _,fun j hj=>absurd hj (Nat.not_lt_zero j)⟩ ?_
 rintro i J H ⟨hi,hp⟩
 try conv in ov _ _ _ _=>simp only [ov,List.lookup,RO,simprocAttr]
 rcases am i A.length with hlt|hge
 ·have g1:=sA hlt
  simp (disch:=omega) only [↓RS,RZ,simprocAttr,ssV,eX,fD,g1,sgc,psV,aZ]
  refine cX eb ?_
  simp (disch:=omega) only [↓RS,RZ,simprocAttr,ssV,eX,fD]
  refine eG (fun (k:Nat) J=>ov [(0,psV A),(1,psV B),(6,.ptr H.length 0 0),(13,ssV (aU A)),(14,.prim (.int .i64 ((A.length:Nat):Int))),(15,.prim (.int .i64 ((i:Nat):Int))),(20,ssV (aU B)),(21,.prim (.int .i64 ((B.length:Nat):Int))),(22,.prim (.int .i64 ((k:Nat):Int)))] J 0 36) (fun k H'=>(k≤B.length∧∀ j,j<k→(iI (b9 A i) (b9 B j)).isSome=false)∧get H' H.length=some (.row 12 true [sgc (b9 A i)])) (fun k=>B.length-k) 0 rfl ⟨⟨bh _,fun j hj=>absurd hj (Nat.not_lt_zero j)⟩,bo⟩ ?_
  rintro k J H' ⟨⟨hk,hq⟩,hg⟩
  try conv in ov _ _ _ _=>simp only [ov,List.lookup,RO,simprocAttr]
  rcases am k B.length with hkl|hkg
  ·have g2:=sA hkl
   have m:=BP (b9 A i) (b9 B k) (AJ hLA hlt) (AJ hLB hkl)
   have hg1:∀ x,get (H'++[x]) H.length=some (.row 12 true [sgc (b9 A i)]):=fun x=>aO hg
   have hg2:∀ x y,get (H'++[x]++[y]) H.length=some (.row 12 true [sgc (b9 A i)]):=fun x y=>aO (aO hg)
   simp (disch:=omega) only [↓RS,RZ,simprocAttr,ssV,eX,fD,g2,sgc,aZ,hg1]
   refine cX m ?_
   cases hm:(iI (b9 A i) (b9 B k)).isSome with
   |true=>
    rw [vj hlt hkl hm]
    simp (disch:=omega) only [↓RS,RZ,simprocAttr,sgV,s4V,aZ]
   |false=>
    simp (disch:=omega) only [↓RS,RZ,simprocAttr,sgV,s4V,aZ]
    exact bl (k+1) rfl ⟨⟨hkl,fun j hj=>by
     rcases am j k with h|h
     ·exact hq j h
     ·rw [show j=k by omega];exact hm⟩,hg2 _ _⟩ (by omega)
  ·simp (disch:=omega) only [↓RS,RZ,simprocAttr]
   exact bl (i+1) rfl ⟨hlt,fun j hj k' hk'=>by
    rcases am j i with h|h
    ·exact hp j h k' hk'
    ·rw [show j=i by omega];exact hq k' (by omega)⟩ (by omega)
 ·have hia:i=A.length:=by omega
  subst hia
  rw [yA hp]
  simp (disch:=omega) only [↓RS,RZ,simprocAttr]
def kL (A B:List Pt):Bool:=decide (0<fI B (A.getD 0 default))
theorem w5 (A B:List Pt) (hA:jo A) (hB:jo B):PC prog 183 [psV A,psV B] (.prim (.bool (kL A B))):=by
 have a1:=hA.lo
 have g:=lj (l:=A) (k:=0) (by omega)
 have c:=El B (A.getD 0 default) hB (bi (od hA.ht (by omega)) (by omega))
 refine PCi ?_
 conv in bL _ _=>cbv
 simp only [bM,RN,simprocAttr]
 unfold kL
 simp (disch:=omega) only [↓RS,RZ,simprocAttr,psV,cU,g,pc]
 refine cX c ?_
 by_cases h:0<fI B (A.getD 0 default)
 ·rw [an h]
  simp (disch:=omega) only [↓RS,RZ,simprocAttr]
 ·rw [ak h]
  simp (disch:=omega) only [↓RS,RZ,simprocAttr]
theorem OU (h x:List Pt) (h1:jo h) (h2:jo x) {b:Nat} {H:Hp} {K:V→Hp→Prop} (hb:get H b=some (.row 1 true [[psV h]])) (hK:K (.prim (.bool (qg h x))) H):SC prog 182 [psV x,.ptr b 0 0] H K:=by
 have c:=J8 h x h1 h2
 refine SCi ?_
 conv in bL _ _=>cbv
 simp only [bM,RN,simprocAttr]
 simp (disch:=omega) only [↓RS,RZ,simprocAttr,hb,psV]
 refine cX c ?_
 simp (disch:=omega) only [↓RS,RZ,simprocAttr]
 exact hK
theorem OT (h x:List Pt) (h1:jo h) (h2:jo x) {b:Nat} {H:Hp} {K:V→Hp→Prop} (hb:get H b=some (.row 1 true [[psV h]])) (hK:K (.prim (.bool (kL h x||kL x h))) H):SC prog 184 [psV x,.ptr b 0 0] H K:=by
 have c:=w5 h x h1 h2
 have d:=w5 x h h2 h1
 refine SCi ?_
 conv in bL _ _=>cbv
 simp only [bM,RN,simprocAttr]
 simp (disch:=omega) only [↓RS,RZ,simprocAttr,hb,psV]
 refine cX c ?_
 cases hw:kL h x with
 |true=>
  rw [hw,Bool.true_or] at hK
  simp (disch:=omega) only [↓RS,RZ,simprocAttr]
  exact hK
 |false=>
  rw [hw,Bool.false_or] at hK
  simp (disch:=omega) only [↓RS,RZ,simprocAttr,hb,psV]
  refine cX d ?_
  simp (disch:=omega) only [↓RS,RZ,simprocAttr]
  exact hK
end Go.Av
namespace Go.Av
open Go.RowKit
open Go.Proofs.Tryz (prog)
theorem rB {es:List V} {i:Nat} (h:i<es.length):(es.map fun v=>[v]).getD i []=[es.getD i cW]:=by
 rw [ae,ae,aW,af h];rfl
theorem co (es:List V):(es.map fun v=>[v]).length=es.length:=az ..
theorem LP (es:List V) (f:FuncId) {b:Nat} {blk:Blk} (p:Nat→Bool) {H:Hp} {K:V→Hp→Prop} (hb:get H b=some blk) (hn:es.length<2^50)
 (hf:∀ i H K,i<es.length→get H b=some blk→K (.prim (.bool (p i))) H→SC prog f [es.getD i cW,.ptr b 0 0] H K)
 (hK:K (.prim (.int .i64 (oa es.length p))) H):SC prog 233 [.lst 1 (es.map fun v=>[v]),.clo f [] [.ptr b 0 0]] H K:=by
 refine SCi ?_
 conv in bL _ _=>cbv
 simp only [bM,RN,simprocAttr]
 simp (disch:=omega) only [↓RS,RZ,simprocAttr,co]
 refine eG (fun (i:Nat) J=>ov [(0,.lst 1 (es.map fun v=>[v])),(1,.clo f [] [.ptr b 0 0]),(4,.prim (.int .i64 (0))),(6,.lst 1 (es.map fun v=>[v])),(7,.prim (.int .i64 ((es.length:Nat):Int))),(8,.prim (.int .i64 ((i:Nat):Int)))] J 0 19) (fun i H'=>(i≤es.length∧∀ j,j<i→p j=false)∧H'=H) (fun i=>es.length-i) 0 rfl ⟨⟨bh _,fun j hj=>absurd hj (Nat.not_lt_zero j)⟩,rfl⟩ ?_
 rintro i J _ ⟨⟨hi,hp⟩,rfl⟩
 try conv in ov _ _ _ _=>simp only [ov,List.lookup,RO,simprocAttr]
 rcases am i es.length with hlt|hge
 ·have g:=rB hlt
  simp (disch:=omega) only [↓RS,RZ,simprocAttr,co,g]
  refine bI (hf i _ _ hlt hb ?_)
  cases hpi:p i with
  |true=>
   rw [lT hlt hpi hp] at hK
   simp (disch:=omega) only [↓RS,RZ,simprocAttr]
   exact hK
  |false=>
   simp (disch:=omega) only [↓RS,RZ,simprocAttr]
   exact bl (i+1) rfl ⟨⟨hlt,fun j hj=>by
    rcases am j i with h|h
    ·exact hp j h
    ·rw [show j=i by omega];exact hpi⟩,rfl⟩ (by omega)
 ·have hia:i=es.length:=by omega
  subst hia
  rw [ki hp] at hK
  simp (disch:=omega) only [↓RS,RZ,simprocAttr,co]
  exact hK
def jI (n:Nat) (p:Nat→Bool):Bool:=(List.range n).any p
theorem wR (es:List V) (f:FuncId) {b:Nat} {blk:Blk} (p:Nat→Bool) {H:Hp} {K:V→Hp→Prop} (hb:get H b=some blk) (hn:es.length<2^50)
 (hf:∀ i H K,i<es.length→get H b=some blk→K (.prim (.bool (p i))) H→SC prog f [es.getD i cW,.ptr b 0 0] H K)
 (hK:K (.prim (.bool (jI es.length p))) H):SC prog 181 [.lst 1 (es.map fun v=>[v]),.clo f [] [.ptr b 0 0]] H K:=by
 unfold jI at hK
 rw [←kX] at hK
 refine SCi ?_
 conv in bL _ _=>cbv
 simp only [bM,RN,simprocAttr]
 simp (disch:=omega) only [↓RS,RZ,simprocAttr]
 refine bI (LP es f p hb hn hf ?_)
 by_cases h:0≤oa es.length p
 ·rw [an h] at hK
  simp (disch:=omega) only [↓RS,RZ,simprocAttr]
  exact hK
 ·rw [ak h] at hK
  simp (disch:=omega) only [↓RS,RZ,simprocAttr]
  exact hK
theorem r7 {l:List Rp} (h:sR l=0) (hl0:∀ p∈l,p.le (2^16)):jo (pts l)∧dH l=psV (pts l):=by
 unfold sR at h
 split at h
 ·cases h
 ·rename_i h1
  split at h
  ·rename_i h2
   exact ⟨⟨by rw [oJ];omega,by rw [oJ];omega,h,OV h2 hl0 (by omega)⟩,JJ h2⟩
  ·cases h
def zm (O:List Rp) (hs:List (List Rp)) (i:Nat):Int:=
 if sR (hs.getD i [])≠0 then sR (hs.getD i [])
 else if qg (pts (hs.getD i [])) (pts O)=true∨jI i (fun j=>qg (pts (hs.getD i [])) (pts (hs.getD j [])))=true then 13
 else if kL (pts (hs.getD i [])) (pts O)=false then 14
 else if jI i (fun j=>kL (pts (hs.getD i [])) (pts (hs.getD j []))||kL (pts (hs.getD j [])) (pts (hs.getD i [])))=true then 22
 else if 0<i∧0≤bO ((pts (hs.getD (i-1) [])).getD 0 default) ((pts (hs.getD i [])).getD 0 default) then 8 else 0
theorem E0 {hs:List (List Rp)} {i:Nat} (h:i<hs.length):(hs.map dH).getD i cW=dH (hs.getD i []):=by
 rw [ae,ae,aW,af h];rfl
theorem c8 (hs:List (List Rp)):(hs.map dH).length=hs.length:=az ..
theorem QD {hs:List (List Rp)} {i:Nat}:((hs.map dH).map fun v=>[v]).take i=((hs.take i).map dH).map fun v=>[v]:=by
 rw [←List.map_take,←List.map_take]
theorem w8 {hs:List (List Rp)} {i j:Nat} (hj:j<i) (hi:i≤hs.length):((hs.take i).map dH).getD j cW=dH (hs.getD j []):=by
 rw [ae,ae,aW,List.getElem?_take_of_lt hj,af (by omega)];rfl
theorem QE (O:List Rp) (hs:List (List Rp)) (i:Nat) (hi:i<hs.length) (hn:hs.length<2^50) (hO:sR O=0) (kO:∀ p∈O,p.le (2^16))
 (kh:∀ l∈hs,l.length<2^50∧∀ p∈l,p.le (2^16)) (hb:∀ j,j<i→sR (hs.getD j [])=0):PC prog 111 [pgV O hs,.prim (.int .i64 ((i:Nat):Int))] (.prim (.int .i64 (zm O hs i))):=by
 have mem:∀ j,j<hs.length→hs.getD j []∈hs:=fun j hj=>by
  rw [ae,af hj];exact bx hj
 obtain ⟨rO,eO⟩:=r7 hO kO
 have g:((hs.map dH).map fun v=>[v]).getD i []=[dH (hs.getD i [])]:=by rw [rB (by rw [c8];exact hi),E0 hi]
 have c:=x6 (hs.getD i []) (kh _ (mem i hi)).1 (kh _ (mem i hi)).2
 have htake:= @QD hs i
 have hlen:((hs.take i).map dH).length=i:=by rw [az,d9];omega
 refine PCi ?_
 conv in bL _ _=>cbv
 simp only [bM,RN,simprocAttr]
 unfold zm
 simp (disch:=omega) only [↓RS,RZ,simprocAttr,pgV,hsV,c8,co,g,List.drop_zero,Nat.sub_zero,htake,dH]
 refine cX c ?_
 by_cases h0:sR (hs.getD i [])=0
 ·rw [if_neg (by simpa using h0)]
  obtain ⟨rh,eh⟩:=r7 h0 (kh _ (mem i hi)).2
  have m:=J8 _ _ rh rO
  have w:=w5 _ _ rh rO
  have ring:∀ j,j<i→jo (pts (hs.getD j []))∧dH (hs.getD j [])=psV (pts (hs.getD j [])):=fun j hj=>r7 (hb j hj) (kh _ (mem j (by omega))).2
  have eh':(hs.getD i []).map rpc=(pts (hs.getD i [])).map pc:=by have:=eh;unfold dH psV at this;injection this
  have eO':O.map rpc=(pts O).map pc:=by have:=eO;unfold dH psV at this;injection this
  simp (disch:=omega) only [↓RS,RZ,simprocAttr,eh',eO']
  refine cX m ?_
  cases hm:qg (pts (hs.getD i [])) (pts O) with
  |true=>
   rw [if_pos (.inl rfl)]
   simp (disch:=omega) only [↓RS,RZ,simprocAttr]
  |false=>
   simp (disch:=omega) only [↓RS,RZ,simprocAttr,eh',eO']
   refine bI (wR ((hs.take i).map dH) _ (fun j=>qg (pts (hs.getD i [])) (pts (hs.getD j []))) rfl (by omega) (fun j H K hj hb hK=> ?_) ?_)
   ·rw [hlen] at hj
    rw [w8 hj (by omega),(ring j hj).2]
    exact OU _ _ rh (ring j hj).1 hb hK
   rw [hlen]
   cases ha:jI i (fun j=>qg (pts (hs.getD i [])) (pts (hs.getD j []))) with
   |true=>
    rw [if_pos (.inr rfl)]
    simp (disch:=omega) only [↓RS,RZ,simprocAttr]
   |false=>
    rw [if_neg (by simp)]
    simp (disch:=omega) only [↓RS,RZ,simprocAttr,eh',eO']
    refine cX w ?_
    cases hw:kL (pts (hs.getD i [])) (pts O) with
    |false=>
     rw [if_pos rfl]
     simp (disch:=omega) only [↓RS,RZ,simprocAttr]
    |true=>
     rw [if_neg (by simp)]
     simp (disch:=omega) only [↓RS,RZ,simprocAttr,eh',eO']
     refine bI (wR ((hs.take i).map dH) _ (fun j=>kL (pts (hs.getD i [])) (pts (hs.getD j []))||kL (pts (hs.getD j [])) (pts (hs.getD i []))) rfl (by omega) (fun j H K hj hb hK=> ?_) ?_)
     ·rw [hlen] at hj
      rw [w8 hj (by omega),(ring j hj).2]
      exact OT _ _ rh (ring j hj).1 hb hK
     rw [hlen]
     cases hc:jI i (fun j=>kL (pts (hs.getD i [])) (pts (hs.getD j []))||kL (pts (hs.getD j [])) (pts (hs.getD i []))) with
     |true=>
      rw [if_pos rfl]
      simp (disch:=omega) only [↓RS,RZ,simprocAttr]
     |false=>
      rw [if_neg (by simp)]
      by_cases hi0:0<i
      ·obtain ⟨rb,eb⟩:=ring (i-1) (by omega)
       have eb':(((hs.take i).map dH).map fun v=>[v]).getD (i-1) []=[.lst 6 ((pts (hs.getD (i-1) [])).map pc)]:=by
        rw [rB (by rw [hlen];omega),w8 (by omega) (by omega),eb];rfl
       have l1:=rh.lo
       have l2:=rb.lo
       have p1:=lj (l:=pts (hs.getD i [])) (k:=0) (by omega)
       have p2:=lj (l:=pts (hs.getD (i-1) [])) (k:=0) (by omega)
       have v:=kT ((pts (hs.getD (i-1) [])).getD 0 default) ((pts (hs.getD i [])).getD 0 default) (bi (od rb.ht (by omega)) (by omega)) (bi (od rh.ht (by omega)) (by omega))
       by_cases hv:0≤bO ((pts (hs.getD (i-1) [])).getD 0 default) ((pts (hs.getD i [])).getD 0 default)
       ·rw [if_pos ⟨hi0,hv⟩]
        simp (disch:=omega) only [↓RS,RZ,simprocAttr,eh',co,hlen,eb',cU,p1,p2,pc]
        refine cX v ?_
        simp (disch:=omega) only [↓RS,RZ,simprocAttr]
       ·rw [if_neg (fun h=>hv h.2)]
        simp (disch:=omega) only [↓RS,RZ,simprocAttr,eh',co,hlen,eb',cU,p1,p2,pc]
        refine cX v ?_
        simp (disch:=omega) only [↓RS,RZ,simprocAttr]
      ·rw [if_neg (fun h=>hi0 h.1)]
       simp (disch:=omega) only [↓RS,RZ,simprocAttr]
 ·rw [if_pos h0]
  simp (disch:=omega) only [↓RS,RZ,simprocAttr]
end Go.Av
namespace Go.Av
open Go.RowKit
open Go.Proofs.Tryz (prog)
def sx (n:Nat) (f:Nat→Int):Int:=match (List.range n).find? (fun i=>decide (f i≠0)) with
 |some i=>f i
 |none=>0
theorem B6 {n i:Nat} {f:Nat→Int} (hi:i<n) (h:f i≠0) (hf:∀ j,j<i→f j=0):sx n f=f i:=by
 unfold sx
 have:(List.range n).find? (fun i=>decide (f i≠0))=some i:=by
  rw [List.find?_range_eq_some]
  exact ⟨by simpa using h,by simpa using hi,fun j hj=>by simp [hf j hj]⟩
 rw [this]
theorem su {n:Nat} {f:Nat→Int} (hf:∀ j,j<n→f j=0):sx n f=0:=by
 unfold sx
 have:(List.range n).find? (fun i=>decide (f i≠0))=none:=by
  rw [List.find?_eq_none];intro j hj;simp [hf j (by simpa using hj)]
 rw [this]
theorem E8 {n:Nat} {f:Nat→Int} (h:sx n f=0):∀ j,j<n→f j=0:=by
 intro j hj
 unfold sx at h
 cases hf:(List.range n).find? (fun i=>decide (f i≠0)) with
 |none=>rw [List.find?_eq_none] at hf;simpa using hf j (by simpa using hj)
 |some i=>
  rw [hf] at h
  have:=List.find?_some hf
  simp at this
  exact absurd h this
theorem rL {O:List Rp} {hs:List (List Rp)} {i:Nat} (h:zm O hs i=0):sR (hs.getD i [])=0:=by
 unfold zm at h
 split at h
 ·exact h
 ·rename_i h2;simpa using h2
def Fr (O:List Rp) (hs:List (List Rp)):Int:=if sR O≠0 then sR O else if 8<hs.length then 4 else sx hs.length (zm O hs)
theorem Ek (O:List Rp) (hs:List (List Rp)) (hn:hs.length<2^50) (nO:O.length<2^50) (kO:∀ p∈O,p.le (2^16)) (kh:∀ l∈hs,l.length<2^50∧∀ p∈l,p.le (2^16)):
 PC prog 49 [pgV O hs] (.prim (.int .i64 (Fr O hs))):=by
 have c:=x6 O nO kO
 refine PCi ?_
 conv in bL _ _=>cbv
 simp only [bM,RN,simprocAttr]
 unfold Fr
 by_cases h0:sR O=0
 ·rw [if_neg (fun h=>h h0)]
  rw [h0] at c
  by_cases h8:8<hs.length
  ·rw [if_pos h8]
   simp (disch:=omega) only [↓RS,RZ,simprocAttr,pgV,hsV,dH,co,c8]
   refine cX c ?_
   simp (disch:=omega) only [↓RS,RZ,simprocAttr,co,c8]
  ·rw [if_neg h8]
   simp (disch:=omega) only [↓RS,RZ,simprocAttr,pgV,hsV,dH,co,c8]
   refine cX c ?_
   simp (disch:=omega) only [↓RS,RZ,simprocAttr,co,c8]
   refine eG (fun (i:Nat) J=>ov [(0,pgV O hs),(1,.ptr 0 0 0),(18,.prim (.int .i64 ((hs.length:Nat):Int))),(19,.prim (.int .i64 ((i:Nat):Int)))] J 0 29) (fun i H=>(i≤hs.length∧∀ j,j<i→zm O hs j=0)∧H=[some (.row 2 true [[dH O,hsV hs]])]) (fun i=>hs.length-i) 0 rfl ⟨⟨bh _,fun j hj=>absurd hj (Nat.not_lt_zero j)⟩,rfl⟩ ?_
   rintro i J _ ⟨⟨hi,hp⟩,rfl⟩
   try conv in ov _ _ _ _=>simp only [ov,List.lookup,RO,simprocAttr]
   rcases am i hs.length with hlt|hge
   ·have hc:=QE O hs i hlt hn h0 kO kh (fun j hj=>rL (hp j hj))
    simp (disch:=omega) only [↓RS,RZ,simprocAttr,pgV,hsV,dH,co,c8]
    refine cX hc ?_
    by_cases hz:zm O hs i=0
    ·rw [hz]
     simp (disch:=omega) only [↓RS,RZ,simprocAttr]
     exact bl (i+1) rfl ⟨⟨hlt,fun j hj=>by
      rcases am j i with h|h
      ·exact hp j h
      ·rw [show j=i by omega];exact hz⟩,rfl⟩ (by omega)
    ·rw [B6 hlt hz hp]
     simp (disch:=omega) only [↓RS,RZ,simprocAttr]
   ·have hia:i=hs.length:=by omega
    subst hia
    rw [su hp]
    simp (disch:=omega) only [↓RS,RZ,simprocAttr,pgV,hsV,dH,co,c8]
 ·rw [if_pos h0]
  simp (disch:=omega) only [↓RS,RZ,simprocAttr,pgV,hsV,dH,co,c8]
  refine cX c ?_
  simp (disch:=omega) only [↓RS,RZ,simprocAttr]
end Go.Av
