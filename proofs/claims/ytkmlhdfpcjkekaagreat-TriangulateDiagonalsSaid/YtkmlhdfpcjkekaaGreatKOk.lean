/- Helping texts: Ok. -/
import Derived.Test.YtkmlhdfpcjkekaaGreatKNs
set_option linter.unusedSimpArgs false
set_option linter.unusedVariables false
set_option maxRecDepth 100000
set_option maxHeartbeats 16000000
namespace Go.Av
variable {C:List Pt} {E:List Sg} {c v x a p q:Pt} {M A A1 A2:List Pt}
theorem NI (n:Net (q::(A++[p,v])) (be q (A++[p,v]))) (nd:(q::(A++[p,v])).Nodup) (hy:∀ a∈q::(A++[p,v]),∀ b∈q::(A++[p,v]),a≠b→a.y≠b.y)
 (hlow:∀ w∈q::(A++[p,v]),w≠v→v.y<w.y) (T:TrE (q::(A++[p,v])) (be q (A++[p,v])) p v q) (hA1:A=a::A1) (hA2:A=A2++[x]):
 Net (q::(A++[p])) (be q (A++[p]))∧((q::(A++[p,v])).map (wt (be q (A++[p,v])))).sum=((q::(A++[p])).map (wt (be q (A++[p])))).sum+1:=by
 have n0:=cV.1 nd
 have n1:=mH.1 n0.2
 have n2:=cV.1 n1.2.1
 have qA:q∉A:=fun k=>n0.1 (bg _ k)
 have qp:q≠p:=fun k=>n0.1 (by rw [k];simp)
 have qv:q≠v:=fun k=>n0.1 (by rw [k];simp)
 have pv:p≠v:=fun k=>n2.1 (by rw [k];simp)
 have pA:p∉A:=fun k=>n1.2.2 p k p (by simp) rfl
 have vA:v∉A:=fun k=>n1.2.2 v k v (by simp) rfl
 have mq:q∈q::(A++[p,v]):=by simp
 have mp:p∈q::(A++[p,v]):=by simp
 have mv:v∈q::(A++[p,v]):=by simp
 have mA:∀ w∈A,w∈q::(A++[p,v]):=fun w h=>ag _ (bg _ h)
 have m1:∀ w∈q::(A++[p]),w∈q::(A++[p,v]):=fun w hw=>by
  simp only [ay,aF,List.not_mem_nil,or_false] at hw ⊢
  rcases hw with k|k|k
  ·exact .inl k
  ·exact .inr (.inl k)
  ·exact .inr (.inr (.inl k))
 have m2:∀ w∈q::p::[v],w∈q::(A++[p,v]):=fun w hw=>by
  simp only [ay,aF,List.not_mem_nil,or_false] at hw ⊢
  rcases hw with k|k|k
  ·exact .inl k
  ·exact .inr (.inr (.inl k))
  ·exact .inr (.inr (.inr k))
 have aA:a∈A:=by rw [hA1];exact ah ..
 have xA:x∈A:=by rw [hA2];simp
 have A0:A≠[]:=by rw [hA1];simp
 have qa:q≠a:=fun k=>qA (by rw [k];exact aA)
 have px:p≠x:=fun k=>pA (by rw [k];exact xA)
 have noS:∀ s∈be q (A++[p,v]),¬eF s ⟨q,p⟩:=fun s hs k=>by
  have ends:(s.a=q∧s.b=p)∨(s.a=p∧s.b=q):=by
   rcases k with rfl|rfl
   ·exact .inl ⟨rfl,rfl⟩
   ·exact .inr ⟨rfl,rfl⟩
  rw [jE,aF] at hs
  rcases hs with hs|hs
  ·rw [hA1] at hs
   rcases ay.1 hs with rfl|hs
   ·rcases ends with ⟨_,e⟩|⟨e,_⟩
    ·exact pA (by rw [←e];exact aA)
    ·exact qp e
   ·obtain ⟨k1,k2⟩:=Al hs
    rcases ends with ⟨e,_⟩|⟨_,e⟩
    ·rw [e] at k1
     have:q∈A++[p]:=by rw [hA1];exact k1
     rcases aF.1 this with g|g
     ·exact qA g
     ·exact qp (bH.1 g)
    ·rw [e] at k2
     have:q∈A++[p]:=by rw [hA1];exact ag _ k2
     rcases aF.1 this with g|g
     ·exact qA g
     ·exact qp (bH.1 g)
  ·rcases ay.1 hs with rfl|hs
   ·rcases ends with ⟨e,_⟩|⟨_,e⟩
    ·exact qp e.symm
    ·exact qv e.symm
   ·rcases ay.1 hs with rfl|hs
    ·rcases ends with ⟨e,_⟩|⟨e,_⟩
     ·exact qv e.symm
     ·exact pv e.symm
    ·cases hs
 have hf:nL (be q (A++[p,v])) q p:=fun s hs P h1 h2=>by
  rcases T.l3 s hs P h1 h2 with k|⟨_,k⟩
  ·exact absurd k (noS s hs)
  ·exact k
 have ho:∀ z∈q::(A++[p,v]),aJ q p z→z=q∨z=p:=fun z hz h=>T.rot.rot.onLeg hz h
 obtain ⟨N1,N2⟩:=n.cut qp hf ho
 have a1:=n.add mq mp qp hf ho
 have a2:=n.add mp mq qp.symm (fun s hs P h1 h2=>(hf s hs P h1 (cH h2)).symm) (fun z hz h=>(ho z hz (cH h)).symm)
 have sub1:∀ s∈be q (A++[p]),s∈(⟨p,q⟩:Sg)::be q (A++[p,v]):=fun s hs=>by
  rw [v8,aF] at hs
  rw [jE]
  rcases hs with k|k
  ·exact ag _ (bg _ k)
  ·rw [bH.1 k];exact ah ..
 have sub2:∀ s∈be q (p::[v]),s∈(⟨q,p⟩:Sg)::be q (A++[p,v]):=fun s hs=>by
  rw [v7] at hs
  rw [jE]
  rcases ay.1 hs with k|k
  ·rw [k];exact ah ..
  ·exact ag _ (bC _ k)
 have leg1:∀ s∈be q (A++[p,v]),Leg (be q (A++[p])) s.a s.b:=fun s hs=>(n9 a2 ⟨s,ag _ hs,.inl rfl⟩).sub sub1
 have leg2:∀ s∈be q (A++[p,v]),Leg (be q (p::[v])) s.a s.b:=fun s hs=>(n9 a1 ⟨s,ag _ hs,.inl rfl⟩).sub sub2
 have in1:∀ s∈ko q (A++[p]),s∈be q (A++[p,v]):=fun s hs=>by rw [jE];exact bg _ hs
 have in2:∀ s∈ko p ([v]++[q]),s∈be q (A++[p,v]):=fun s hs=>by rw [jE];exact bC _ hs
 have e_pv:(⟨p,v⟩:Sg)∈be q (A++[p,v]):=in2 _ (ah ..)
 have e_vq:(⟨v,q⟩:Sg)∈be q (A++[p,v]):=in2 _ (ag _ (ah ..))
 have e_qa:(⟨q,a⟩:Sg)∈be q (A++[p,v]):=in1 _ (by rw [hA1];exact ah ..)
 have e_xp:(⟨x,p⟩:Sg)∈be q (A++[p,v]):=in1 _ (by
  rw [hA2,bE,nM,m8]
  exact bC _ (ah ..))
 have TRq:∀ {f:Sg→Bool},(∀ s,s.a≠q→s.b≠q→f s=false)→bV f (be q (A++[p,v]))=(f ⟨q,a⟩^^f ⟨v,q⟩):=fun {f} hf=>
  kZ (q:=a) (p:=v) (M1:=A1++[p,v]) (M2:=A++[p]) hf n0.1 (by rw [hA1];rfl) (by rw [bE];rfl) (by simp)
 have T1q:∀ {f:Sg→Bool},(∀ s,s.a≠q→s.b≠q→f s=false)→bV f (be q (A++[p]))=(f ⟨q,a⟩^^f ⟨p,q⟩):=fun {f} hf=>
  kZ (q:=a) (p:=p) (M1:=A1++[p]) (M2:=A) hf (by simp [qA,qp]) (by rw [hA1];rfl) rfl (by simp)
 have T2q:∀ {f:Sg→Bool},(∀ s,s.a≠q→s.b≠q→f s=false)→bV f (be q (p::[v]))=(f ⟨q,p⟩^^f ⟨v,q⟩):=fun {f} hf=>
  kZ (q:=p) (p:=v) (M1:=[v]) (M2:=[p]) hf (by simp [qv,qp]) rfl rfl (by simp)
 have TRp:∀ {f:Sg→Bool},(∀ s,s.a≠p→s.b≠p→f s=false)→bV f (be q (A++[p,v]))=(f ⟨p,v⟩^^f ⟨x,p⟩):=fun {f} hf=>by
  rw [oE (oI q A p [v])]
  exact kZ (q:=v) (p:=x) (M1:=q::A) (M2:=v::q::A2) hf (by simp [pv,qp.symm,pA]) rfl (by rw [hA2];rfl) (by simp)
 have T1p:∀ {f:Sg→Bool},(∀ s,s.a≠p→s.b≠p→f s=false)→bV f (be q (A++[p]))=(f ⟨p,q⟩^^f ⟨x,p⟩):=fun {f} hf=>by
  rw [oE (oI q A p [])]
  exact kZ (q:=q) (p:=x) (M1:=A) (M2:=q::A2) hf (by simp [qp.symm,pA]) rfl (by rw [hA2];rfl) A0
 have T2p:∀ {f:Sg→Bool},(∀ s,s.a≠p→s.b≠p→f s=false)→bV f (be q (p::[v]))=(f ⟨p,v⟩^^f ⟨q,p⟩):=fun {f} hf=>by
  rw [show (p::[v])=[]++p::[v] from rfl,oE (oI q [] p [v])]
  exact kZ (q:=v) (p:=q) (M1:=[q]) (M2:=[v]) hf (by simp [pv,qp.symm]) rfl rfl (by simp)
 have vO1:v∉q::(A++[p]):=by simp [qv.symm,vA,pv.symm]
 have par1:bV (fun s=>cr v s.a s.b) (be q (A++[p]))=false:=lZ fun s hs=>by
  obtain ⟨ka,kb⟩:=iA hs
  exact pu (hlow _ (m1 _ ka) fun k=>vO1 (by rw [←k];exact ka)) (hlow _ (m1 _ kb) fun k=>vO1 (by rw [←k];exact kb))
 have AO2:∀ w∈A,w∉q::p::[v]:=fun w hw=>by
  simp only [ay,List.not_mem_nil,or_false,not_or]
  exact ⟨fun k=>qA (by rw [←k];exact hw),fun k=>pA (by rw [←k];exact hw),fun k=>vA (by rw [←k];exact hw)⟩
 have par2:∀ w∈A,bV (fun s=>cr w s.a s.b) (be q (p::[v]))=false:=fun w hw=>by
  have hO:=AO2 w hw
  simp only [ay,List.not_mem_nil,or_false,not_or] at hO
  refine P1 T.pos (hy w (mA w hw) p mp hO.2.1) (hy w (mA w hw) v mv hO.2.2) (hy w (mA w hw) q mq hO.1) fun hin=> ?_
  rcases T.emp w (mA w hw) hin with k|k|k
  ·exact hO.2.1 k
  ·exact hO.2.2 k
  ·exact hO.1 k
 have mid:half (be q (A++[p,v])) q p=true:=by
  let m:Pt:=pt q p (1/2)
  have hqy:=hlow q mq qv
  have hpy:=hlow p mp pv
  have my:v.y<m.y:=by show v.y<(pt q p (1/2)).y;unfold pt;simp only;grind
  have mne:m≠v:=fun k=>by rw [k] at my;exact aL my
  have t:=T.pos
  have mq2:0<ar v q m:=by
   have:ar v q m=(1/2)*ar p v q:=by show ar v q (pt q p (1/2))=_;unfold ar pt;simp only;grind
   rw [this];exact au (by decide+kernel) t
  have mp2:0<ar p v m:=by
   have:ar p v m=(1/2)*ar p v q:=by show ar p v (pt q p (1/2))=_;unfold ar pt;simp only;grind
   rw [this];exact au (by decide+kernel) t
  have inner:∀ e,0<e→e<1→InO p v q (pt v m e):=fun e e0 e1=>⟨by
   rw [bm,cw];have:=au e0 mp2;grind,by
   rw [bm,cL];have:=au e0 mq2;grind,by
   have:ar q p (pt v m e)=(1-e)*ar p v q:=by show ar q p (pt v (pt q p (1/2)) e)=_;unfold ar pt;simp only;grind
   rw [this];exact au (by grind) t⟩
  have notm:∀ s∈be q (A++[p,v]),¬aJ s.a s.b m:=fun s hs h=>by
   have no0:¬(m=q∨m=p):=fun k=>by
    rcases k with k|k
    ·have:=jt qp (k.trans (iH q p).symm);revert this;decide+kernel
    ·have:=jt qp (k.trans (kD q p).symm);revert this;decide+kernel
   exact no0 (hf s hs m h ⟨1/2,by decide+kernel,by decide+kernel,rfl⟩)
  have lg:Leg (be q (A++[p,v])) v m:=fun s hs P h1 h2=>by
   obtain ⟨e,e0,e1,rfl⟩:=h2
   rcases cf e0 with k0|k0
   ·rcases cf e1 with k1|k1
    ·exact absurd h1 fun h=>T.noSide n hs (inner e k0 k1) h
    ·rw [k1,show pt v m 1=m from kD v m] at h1
     exact absurd h1 (notm s hs)
   ·rw [←k0,show pt v m 0=v from iH v m] at h1 ⊢
    exact .inr ⟨n.on s hs v mv h1,.inl rfl⟩
  have h1:half (be q (A++[p,v])) v m=true:=by
   rw [lS n.ne lg (by grind) (fun w hw hne=>hy w hw v mv hne)]
   have low:bV (fun s=>cr v s.a s.b) (be q (A++[p,v]))=false:=zC (v:=q) (M:=A++[p,v]) hlow
   have up:∀ {d w:Pt},v.y<d.y→v.y<w.y→bp (rr v d w)=decide (0<ar v w d):=fun {d w} hd hw=>by
    rw [Bool.eq_iff_iff,dD,aE]
    unfold rr
    constructor
    ·rintro (⟨_,_,h⟩|⟨h,_⟩)
     ·exact h
     ·grind
    ·intro h;exact .inl ⟨hd,hw,h⟩
   have e2:(be q (A++[p,v])).Perm (be v (q::(A++[p]))):=by
    have:=oI q (A++[p]) v []
    rw [bE] at this
    exact this
   rw [low,Bool.false_xor,oE e2,kZ (v:=v) (q:=q) (p:=p) (M1:=A++[p]) (M2:=q::A) (fun s h1 h2=>rz m s h1 h2) vO1 rfl rfl (by simp),ry qv,rx pv,up my hqy,up my hpy,
    an mq2,ak (show ¬0<ar v p m by rw [uM];grind)]
   rfl
  have h2:bV (fun s=>cr (pt v m (1/2)) s.a s.b) (be q (A++[p,v]))=bV (fun s=>cr m s.a s.b) (be q (A++[p,v])):=Ln fun s hs ⟨P,⟨e,e0,e1,eP⟩,k2⟩=>by
   have eP2:P=pt v m (1/2+e*(1/2)):=by rw [eP];refine Pt.ext ?_ ?_<;>(unfold pt;simp only;grind)
   rcases cf e1 with k|k
   ·exact T.noSide n hs (inner (1/2+e*(1/2)) (by grind) (by grind)) (by rw [←eP2];exact k2)
   ·have:P=m:=by rw [eP,k];exact kD _ _
    exact notm s hs (by rw [←this];exact k2)
  show bV (fun s=>cr m s.a s.b) (be q (A++[p,v]))=true
  rw [←h2];exact h1
 have hyp:∀ w∈q::(A++[p,v]),w≠p→w.y≠p.y:=fun w hw hne=>hy w hw p mp hne
 have hyq:∀ w∈q::(A++[p,v]),w≠q→w.y≠q.y:=fun w hw hne=>hy w hw q mq hne
 have nv:∀ z,z∈q::(A++[p,v])→z≠v→v.y≠z.y:=fun z hz hne=>hy v mv z hz hne.symm
 have Wp:wt (be q (A++[p,v])) p=wt (be q (A++[p])) p+wt (be q (p::[v])) p:=by
  have g1:=lS N1.ne (leg1 _ e_pv) (nv p mp pv) (fun w hw hne=>hyp w (m1 w hw) hne)
  have g1':=qx N1.ne (leg1 _ e_pv) (hy p mp v mv pv) (fun w hw hne=>hy w (m1 w hw) v mv hne) vO1
  have g2:=lS N2.ne (leg2 _ e_xp).symm (hyp x (mA x xA) px.symm) (fun w hw hne=>hyp w (m2 w hw) hne)
  have g2':=qx N2.ne (leg2 _ e_xp).symm (hy p mp x (mA x xA) px) (fun w hw hne=>hy w (m2 w hw) x (mA x xA) hne) (AO2 x xA)
  have g3:=lS n.ne (tH n mq mp hf).symm (hyp q mq qp) (fun w hw hne=>hyp w hw hne)
  simp only at g1 g1' g2 g2'
  rw [g1',par1,T1p (fun s h1 h2=>rz v s h1 h2),ry qp,rx px.symm,Bool.xor_comm (bp _)] at g1
  rw [g2',par2 x xA,T2p (fun s h1 h2=>rz x s h1 h2),ry pv.symm,rx qp,Bool.xor_comm (bp _)] at g2
  rw [xI,mid,TRp (fun s h1 h2=>rz q s h1 h2),ry pv.symm,rx px.symm,Bool.xor_comm (bp _)] at g3
  refine Kl (c:=p) (v:=q) (x:=x) (y:=v) (hyq p mp qp.symm).symm (hyp x (mA x xA) px.symm) (nv p mp pv) (ol (mL p p q) A [v]) ?_ ?_ ?_ g1.symm g2.symm g3.symm
  ·rw [TRp (fun s h1 h2=>md s h1 h2),oH pv.symm,oG px.symm,Bool.xor_comm]
  ·rw [T1p (fun s h1 h2=>md s h1 h2),oH qp,oG px.symm,Bool.xor_comm]
  ·rw [T2p (fun s h1 h2=>md s h1 h2),oH pv.symm,oG qp,Bool.xor_comm]
 have Wq:wt (be q (A++[p,v])) q=wt (be q (A++[p])) q+wt (be q (p::[v])) q:=by
  have g1:=lS N1.ne (leg1 _ e_vq).symm (nv q mq qv) (fun w hw hne=>hyq w (m1 w hw) hne)
  have g1':=qx N1.ne (leg1 _ e_vq).symm (hy q mq v mv qv) (fun w hw hne=>hy w (m1 w hw) v mv hne) vO1
  have g2:=lS N2.ne (leg2 _ e_qa) (hyq a (mA a aA) qa.symm) (fun w hw hne=>hyq w (m2 w hw) hne)
  have g2':=qx N2.ne (leg2 _ e_qa) (hy q mq a (mA a aA) qa) (fun w hw hne=>hy w (m2 w hw) a (mA a aA) hne) (AO2 a aA)
  have g3:=lS n.ne (tH n mq mp hf) (hyq p mp qp.symm) (fun w hw hne=>hyq w hw hne)
  simp only at g1 g1' g2 g2'
  rw [g1',par1,T1q (fun s h1 h2=>rz v s h1 h2),ry qa.symm,rx qp.symm] at g1
  rw [g2',par2 a aA,T2q (fun s h1 h2=>rz a s h1 h2),ry qp.symm,rx qv.symm] at g2
  rw [mid,TRq (fun s h1 h2=>rz p s h1 h2),ry qa.symm,rx qv.symm] at g3
  refine Kl (c:=q) (v:=p) (x:=a) (y:=v) (hyq p mp qp.symm) (hyq a (mA a aA) qa.symm) (nv q mq qv) (ol (mL q p q) A [v]) ?_ ?_ ?_ g1.symm g2.symm g3.symm
  ·rw [TRq (fun s h1 h2=>md s h1 h2),oH qa.symm,oG qv.symm]
  ·rw [T1q (fun s h1 h2=>md s h1 h2),oH qa.symm,oG qp.symm]
  ·rw [T2q (fun s h1 h2=>md s h1 h2),oH qp.symm,oG qv.symm]
 have WA:A.map (wt (be q (A++[p,v])))=A.map (wt (be q (A++[p]))):=List.map_congr_left fun w hw=>by
  have hO:=AO2 w hw
  have wq:w≠q:=fun k=>hO (by rw [k];simp)
  have wp:w≠p:=fun k=>hO (by rw [k];simp)
  have crs:(fun s:Sg=>cr w s.a s.b) ⟨p,q⟩=(fun s:Sg=>cr w s.a s.b) ⟨q,p⟩:=mL w p q
  have ups:lW w ⟨p,q⟩=lW w ⟨q,p⟩:=by rw [md ⟨p,q⟩ wp.symm wq.symm,md ⟨q,p⟩ wq.symm wp.symm]
  unfold wt
  rw [ol crs A [v],ol ups A [v],par2 w hw,w6 hO,Bool.xor_false,Bool.xor_false]
 have Wv:wt (be q (A++[p,v])) v=0:=wY n.ne hlow
 have W3:wt (be q (p::[v])) q+wt (be q (p::[v])) p=1:=by
  have h:=My (v:=v) (p:=p) (q:=q) (hlow q mq qv) (hlow p mp pv) (hy q mq p mp qp)
  have e2:(be v [q,p]).Perm (be q [p,v]):=oI v [] q [p]
  have h0:wt (be v [q,p]) v=0:=wY (fun s hs=>N2.ne s (e2.mem_iff.1 hs)) (fun w hw hne=>hlow w (m2 w (by
   simp only [ay,List.not_mem_nil,or_false] at hw ⊢
   rcases hw with k|k|k
   ·exact .inr (.inr k)
   ·exact .inl k
   ·exact .inr (.inl k))) hne)
  simp only [aY,List.map_nil,List.sum_cons,List.sum_nil] at h
  rw [h0,zp e2 q,zp e2 p] at h
  omega
 refine ⟨N1,?_⟩
 simp only [aY,bz,List.map_nil,List.sum_cons,List.sum_append,List.sum_nil,WA,Wv,Wp,Wq]
 omega
end Go.Av
