/- Helping texts: Ns, Nt, Nu, Nv, Nw, Nx, Ny, Nz, Oa, Oj. -/
import Derived.Test.YtkmlhdfpcjkekaaGreatKNo
set_option linter.unusedSimpArgs false
set_option linter.unusedVariables false
set_option maxRecDepth 100000
set_option maxHeartbeats 16000000
namespace Go.Av
variable {C:List Pt} {E:List Sg} {c v x y p q:Pt} {M A B A1 A2 B1 B2:List Pt}
theorem Leg.sub {S T:List Sg} {u w:Pt} (h:Leg S u w) (hs:∀ s∈T,s∈S):Leg T u w:=fun s k=>h s (hs s k)
theorem zC {z:Pt} (hz:∀ w∈v::M,w≠z→z.y<w.y):bV (fun s=>cr z s.a s.b) (be v M)=false:=lZ fun s hs=>by
 obtain ⟨ka,kb⟩:=iA hs
 by_cases ea:s.a=z
 ·exact o9 (by rw [ea];exact pk _ _)
 ·by_cases eb:s.b=z
  ·exact o9 (by rw [eb];exact pj _ _)
  ·exact pu (hz _ ka ea) (hz _ kb eb)
theorem kZ {f:Sg→Bool} (hf:∀ s,s.a≠v→s.b≠v→f s=false) (hv:v∉M) {M1 M2:List Pt} (h1:M=q::M1) (h2:M=M2++[p]) (h3:M1≠[]):bV f (be v M)=(f ⟨v,q⟩^^f ⟨p,v⟩):=by
 cases M2 with
 |nil=>
  rw [h1] at h2
  have:=(List.cons.inj h2).2
  exact absurd this h3
 |cons q' M3=>
  rw [h1] at h2
  obtain ⟨e1,e2⟩:=List.cons.inj h2
  subst e1
  rw [h1] at hv ⊢
  show (f ⟨v,q⟩^^bV f (ko q (M1++[v])))=_
  have e3:M1=M3++[p]:=e2
  clear e2
  have e2:=e3
  rw [e3,bE]
  congr 1
  have hp:v≠p:=fun k=>hv (by rw [e2,k];simp)
  exact zZ q M3 p hf (fun k=>hv (by
   rw [e2]
   rcases ay.1 k with k|k
   ·rw [k];exact ah ..
   ·exact ag _ (bg _ k))) hp
theorem ry {d w:Pt} (h:w≠c):rAt c d ⟨c,w⟩=bp (rr c d w):=by
 unfold rAt
 rw [Bool.eq_iff_iff,dD,dD]
 constructor
 ·rintro (⟨_,k⟩|⟨k,_⟩)
  ·exact k
  ·exact absurd k h
 ·intro k;exact .inl ⟨rfl,k⟩
theorem rx {d w:Pt} (h:w≠c):rAt c d ⟨w,c⟩=bp (rr c d w):=by
 unfold rAt
 rw [Bool.eq_iff_iff,dD,dD]
 constructor
 ·rintro (⟨k,_⟩|⟨_,k⟩)
  ·exact absurd k h
  ·exact k
 ·intro k;exact .inr ⟨rfl,k⟩
theorem oH {w:Pt} (h:w≠c):lW c ⟨c,w⟩=bp (c.y<w.y):=by
 unfold lW
 rw [Bool.eq_iff_iff,dD,dD]
 constructor
 ·rintro (⟨_,k⟩|⟨k,_⟩)
  ·exact k
  ·exact absurd k h
 ·intro k;exact .inl ⟨rfl,k⟩
theorem oG {w:Pt} (h:w≠c):lW c ⟨w,c⟩=bp (c.y<w.y):=by
 unfold lW
 rw [Bool.eq_iff_iff,dD,dD]
 constructor
 ·rintro (⟨k,_⟩|⟨_,k⟩)
  ·exact absurd k h
  ·exact k
 ·intro k;exact .inr ⟨rfl,k⟩
theorem NJ (n:Net (v::(A++c::B)) (be v (A++c::B))) (nd:(v::(A++c::B)).Nodup) (hy:∀ a∈v::(A++c::B),∀ b∈v::(A++c::B),a≠b→a.y≠b.y)
 (hlow:∀ w∈v::(A++c::B),w≠v→v.y<w.y) (hA1:A=q::A1) (hA2:A=A2++[x]) (hB1:B=y::B1) (hB2:B=B2++[p])
 (t1:0<ar p v q) (t2:0<ar p v c) (t3:ar v c q<0) (hf:nL (be v (A++c::B)) v c) (ho:∀ z∈v::(A++c::B),aJ v c z→z=v∨z=c):
 ((v::(A++c::B)).map (wt (be v (A++c::B)))).sum=((v::(A++[c])).map (wt (be v (A++[c])))).sum+((v::c::B).map (wt (be v (c::B)))).sum:=by
 have n0:=cV.1 nd
 have n1:=mH.1 n0.2
 have n2:=cV.1 n1.2.1
 have vA:v∉A:=fun k=>n0.1 (bg _ k)
 have vB:v∉B:=fun k=>n0.1 (bC _ (ag _ k))
 have vc:v≠c:=fun k=>n0.1 (by rw [k];exact bC _ (ah ..))
 have cA:c∉A:=fun k=>n1.2.2 c k c (ah ..) rfl
 have cB:c∉B:=n2.1
 have AB:∀ w,w∈A→w∈B→False:=fun w h1 h2=>n1.2.2 w h1 w (ag _ h2) rfl
 have mA:∀ w∈A,w∈v::(A++c::B):=fun w h=>ag _ (bg _ h)
 have mB:∀ w∈B,w∈v::(A++c::B):=fun w h=>ag _ (bC _ (ag _ h))
 have mc:c∈v::(A++c::B):=ag _ (bC _ (ah ..))
 have mv:v∈v::(A++c::B):=ah ..
 have m1:∀ w∈v::(A++[c]),w∈v::(A++c::B):=fun w hw=>by
  simp only [ay,aF,List.not_mem_nil,or_false] at hw ⊢
  rcases hw with k|k|k
  ·exact .inl k
  ·exact .inr (.inl k)
  ·exact .inr (.inr (.inl k))
 have m2:∀ w∈v::c::B,w∈v::(A++c::B):=fun w hw=>by
  simp only [ay,aF] at hw ⊢
  rcases hw with k|k|k
  ·exact .inl k
  ·exact .inr (.inr (.inl k))
  ·exact .inr (.inr (.inr k))
 have qA:q∈A:=by rw [hA1];exact ah ..
 have xA:x∈A:=by rw [hA2];simp
 have yB:y∈B:=by rw [hB1];exact ah ..
 have pB:p∈B:=by rw [hB2];simp
 obtain ⟨N1,N2⟩:=n.cut vc hf ho
 have a1:=n.add mv mc vc hf ho
 have a2:=n.add mc mv vc.symm (fun s hs P h1 h2=>(hf s hs P h1 (cH h2)).symm) (fun z hz h=>(ho z hz (cH h)).symm)
 have sub1:∀ s∈be v (A++[c]),s∈(⟨c,v⟩:Sg)::be v (A++c::B):=fun s hs=>by
  rw [v8,aF] at hs
  rw [jE]
  rcases hs with k|k
  ·exact ag _ (bg _ k)
  ·rw [bH.1 k];exact ah ..
 have sub2:∀ s∈be v (c::B),s∈(⟨v,c⟩:Sg)::be v (A++c::B):=fun s hs=>by
  rw [v7] at hs
  rw [jE]
  rcases ay.1 hs with k|k
  ·rw [k];exact ah ..
  ·exact ag _ (bC _ k)
 have leg1:∀ s∈be v (A++c::B),Leg (be v (A++[c])) s.a s.b:=fun s hs=>(n9 a2 ⟨s,ag _ hs,.inl rfl⟩).sub sub1
 have leg2:∀ s∈be v (A++c::B),Leg (be v (c::B)) s.a s.b:=fun s hs=>(n9 a1 ⟨s,ag _ hs,.inl rfl⟩).sub sub2
 have in1:∀ s∈ko v (A++[c]),s∈be v (A++c::B):=fun s hs=>by rw [jE];exact bg _ hs
 have in2:∀ s∈ko c (B++[v]),s∈be v (A++c::B):=fun s hs=>by rw [jE];exact bC _ hs
 have hyE:∀ s∈be v (A++c::B),s.a.y≠s.b.y:=fun s hs=>hy _ (iA hs).1 _ (iA hs).2 (n.ne s hs)
 have hq0:=hlow q (mA q qA) (fun k=>vA (by rw [←k];exact qA))
 have hp0:=hlow p (mB p pB) (fun k=>vB (by rw [←k];exact pB))
 have hc0:=hlow c mc vc.symm
 have up:∀ {d w:Pt},v.y<d.y→v.y<w.y→bp (rr v d w)=decide (0<ar v w d):=fun {d w} hd hw=>by
  rw [Bool.eq_iff_iff,dD,aE]
  unfold rr
  constructor
  ·rintro (⟨_,_,h⟩|⟨h,_⟩)
   ·exact h
   ·grind
  ·intro h;exact .inl ⟨hd,hw,h⟩
 have qv:q≠v:=fun k=>vA (by rw [←k];exact qA)
 have pv:p≠v:=fun k=>vB (by rw [←k];exact pB)
 have low1:bV (fun s=>cr v s.a s.b) (be v (A++[c]))=false:=zC fun w hw=>hlow w (m1 w hw)
 have low2:bV (fun s=>cr v s.a s.b) (be v (c::B))=false:=zC fun w hw=>hlow w (m2 w hw)
 have lowR:bV (fun s=>cr v s.a s.b) (be v (A++c::B))=false:=zC hlow
 have pvE:(⟨p,v⟩:Sg)∈ko c (B++[v]):=by
  rw [hB2,bE,nM,m8]
  exact bC _ (ah ..)
 have vqE:(⟨v,q⟩:Sg)∈ko v (A++[c]):=by rw [hA1];exact ah ..
 have half1:half (be v (A++[c])) v p=false:=by
  rw [lS N1.ne (leg1 _ (in2 _ pvE)).symm (hy p (mB p pB) v mv pv) (fun w hw hne=>hy w (m1 w hw) v mv hne),low1,Bool.false_xor,
   kZ (q:=q) (p:=c) (M1:=A1++[c]) (M2:=A) (fun s h1 h2=>rz p s h1 h2) (fun k=>by
    rcases aF.1 k with k|k
    ·exact vA k
    ·exact vc (by simpa using k)) (by rw [hA1];rfl) rfl (by simp),ry qv,rx vc.symm,up hp0 hq0,up hp0 hc0,
   an (show 0<ar v q p by unfold ar at t1 ⊢;grind),an (show 0<ar v c p by unfold ar at t2 ⊢;grind)]
  rfl
 have out1:∀ w∈B,w∉v::(A++[c]):=fun w hw k=>by
  simp only [ay,aF,List.not_mem_nil,or_false] at k
  rcases k with k|k|k
  ·exact vB (by rw [←k];exact hw)
  ·exact AB w k hw
  ·exact cB (by rw [←k];exact hw)
 have parB:∀ w∈B,bV (fun s=>cr w s.a s.b) (be v (A++[c]))=half (be v (A++[c])) c y:=by
  have:=xW (v:=v) (M:=A++[c]) N1.ne B1 c y v (fun s hs=>leg1 s (in2 s (by rw [hB1];exact hs))) (fun s hs=>hyE s (in2 s (by rw [hB1];exact hs))) (fun w hw=>⟨out1 w (by rw [hB1];exact hw),fun z hz hne=>hy z (m1 z hz) w (mB w (by rw [hB1];exact hw)) hne⟩)
  intro w hw
  exact this w (by rw [←hB1];exact hw)
 have G1:half (be v (A++[c])) c y=false:=by
  rw [←parB p pB,←half1]
  exact (qx N1.ne (leg1 _ (in2 _ pvE)).symm (hy v mv p (mB p pB) pv.symm) (fun w hw hne=>hy w (m1 w hw) p (mB p pB) hne) (out1 p pB)).symm
 have out2:∀ w∈A,w∉v::c::B:=fun w hw k=>by
  simp only [ay] at k
  rcases k with k|k|k
  ·exact vA (by rw [←k];exact hw)
  ·exact cA (by rw [←k];exact hw)
  ·exact AB w hw k
 have half2:half (be v (c::B)) v q=false:=by
  rw [lS N2.ne (leg2 _ (in1 _ vqE)) (hy q (mA q qA) v mv qv) (fun w hw hne=>hy w (m2 w hw) v mv hne),low2,Bool.false_xor,
   kZ (q:=c) (p:=p) (M1:=B) (M2:=c::B2) (fun s h1 h2=>rz q s h1 h2) (fun k=>by
    rcases ay.1 k with k|k
    ·exact vc k
    ·exact vB k) rfl (by rw [hB2];rfl) (by rw [hB1];simp),ry vc.symm,rx pv,up hq0 hc0,up hq0 hp0,
   ak (show ¬0<ar v c q by grind),ak (show ¬0<ar v p q by rw [uM];grind)]
  rfl
 have parA:∀ w∈A,bV (fun s=>cr w s.a s.b) (be v (c::B))=false:=by
  have:=xW (v:=v) (M:=c::B) N2.ne A1 v q c (fun s hs=>leg2 s (in1 s (by rw [hA1];exact hs))) (fun s hs=>hyE s (in1 s (by rw [hA1];exact hs))) (fun w hw=>⟨out2 w (by rw [hA1];exact hw),fun z hz hne=>hy z (m2 z hz) w (mA w (by rw [hA1];exact hw)) hne⟩)
  intro w hw
  rw [this w (by rw [←hA1];exact hw),half2]
 have xcE:(⟨x,c⟩:Sg)∈ko v (A++[c]):=by
  rw [hA2,bE,nM,m8]
  exact bC _ (ah ..)
 have cyE:(⟨c,y⟩:Sg)∈ko c (B++[v]):=by rw [hB1];exact ah ..
 have xc:x≠c:=fun k=>cA (by rw [←k];exact xA)
 have yc:y≠c:=fun k=>cB (by rw [←k];exact yB)
 have G2:half (be v (c::B)) c x=false:=by
  rw [qx N2.ne (leg2 _ (in1 _ xcE)).symm (hy c mc x (mA x xA) xc.symm) (fun w hw hne=>hy w (m2 w hw) x (mA x xA) hne) (out2 x xA)]
  exact parA x xA
 have legd:Leg (be v (A++c::B)) v c:=tH n mv mc hf
 have G3:half (be v (A++c::B)) c v=true:=by
  rw [xI,lS n.ne legd (hy c mc v mv vc.symm) (fun w hw hne=>hy w hw v mv hne),lowR,Bool.false_xor,
   kZ (q:=q) (p:=p) (M1:=A1++c::B) (M2:=A++c::B2) (fun s h1 h2=>rz c s h1 h2) n0.1 (by rw [hA1];rfl) (by rw [hB2,bE];rfl) (by simp),ry qv,rx pv,up hc0 hq0,up hc0 hp0,
   an (show 0<ar v q c by unfold ar at t3 ⊢;grind),ak (show ¬0<ar v p c by rw [uM];grind)]
  rfl
 have cvA:c∉v::(A2++[x]):=fun k=>by
  rcases ay.1 k with k|k
  ·exact vc k.symm
  ·exact cA (by rw [hA2];exact k)
 have cyB:c∉y::(B1++[v]):=fun k=>by
  rcases ay.1 k with k|k
  ·exact yc k.symm
  ·rcases aF.1 k with k|k
   ·exact cB (by rw [hB1];exact ag _ k)
   ·exact vc (bH.1 k).symm
 have TR:∀ {f:Sg→Bool},(∀ s,s.a≠c→s.b≠c→f s=false)→bV f (be v (A++c::B))=(f ⟨x,c⟩^^f ⟨c,y⟩):=fun {f} hf=>by
  rw [jE,hA2,hB1,bE]
  exact z4 hf cvA cyB
 have T1:∀ {f:Sg→Bool},(∀ s,s.a≠c→s.b≠c→f s=false)→bV f (be v (A++[c]))=(f ⟨x,c⟩^^f ⟨c,v⟩):=fun {f} hf=>by
  rw [v8,hA2,bE]
  exact z4 (y:=v) (B:=[]) hf cvA (by simpa using vc.symm)
 have T2:∀ {f:Sg→Bool},(∀ s,s.a≠c→s.b≠c→f s=false)→bV f (be v (c::B))=(f ⟨v,c⟩^^f ⟨c,y⟩):=fun {f} hf=>by
  rw [v7,hB1]
  show (f ⟨v,c⟩^^bV f (ko c (y::(B1++[v]))))=_
  rw [z5 y (B1++[v]) hf cyB]
 have nv:bp (c.y<v.y)=false:=kw (by grind)
 refine SJ nd n.ne N1.ne N2.ne hlow parA (fun w hw=>by rw [parB w hw,G1]) ?_
 have g1:=lS N1.ne (leg1 _ (in2 _ cyE)) (hy y (mB y yB) c mc yc) (fun w hw hne=>hy w (m1 w hw) c mc hne)
 have g2:=lS N2.ne (leg2 _ (in1 _ xcE)).symm (hy x (mA x xA) c mc xc) (fun w hw hne=>hy w (m2 w hw) c mc hne)
 have g3:=lS n.ne legd.symm (hy v mv c mc vc) (fun w hw hne=>hy w hw c mc hne)
 simp only at g1 g2
 rw [G1,T1 (fun s h1 h2=>rz y s h1 h2),rx xc,ry vc] at g1
 rw [G2,T2 (fun s h1 h2=>rz x s h1 h2),rx vc,ry yc] at g2
 rw [G3,TR (fun s h1 h2=>rz v s h1 h2),rx xc,ry yc] at g3
 unfold wt
 refine R7 (c:=c) (v:=v) (x:=x) (y:=y) hc0 (hy x (mA x xA) c mc xc) (hy y (mB y yB) c mc yc) (ol (mL c c v) A B) ?_ ?_ ?_ g1.symm g2.symm g3.symm
 ·rw [TR (fun s h1 h2=>md s h1 h2),oG xc,oH yc]
 ·rw [T1 (fun s h1 h2=>md s h1 h2),oG xc,oH vc,nv,Bool.xor_false]
 ·rw [T2 (fun s h1 h2=>md s h1 h2),oG vc,oH yc,nv,Bool.false_xor]
end Go.Av
namespace Go.Av
variable {v p q:Pt}
theorem My (hvq:v.y<q.y) (hvp:v.y<p.y) (hqp:q.y≠p.y):((v::[q,p]).map (wt (be v [q,p]))).sum=1:=by
 have nvq:v≠q:=fun k=>by rw [k] at hvq;exact aL hvq
 have nvp:v≠p:=fun k=>by rw [k] at hvp;exact aL hvp
 have nqp:q≠p:=fun k=>hqp (by rw [k])
 have hE:be v [q,p]=[⟨v,q⟩,⟨q,p⟩,⟨p,v⟩]:=rfl
 have three:∀ f:Sg→Bool,bV f (be v [q,p])=(f ⟨v,q⟩^^(f ⟨q,p⟩^^(f ⟨p,v⟩^^false))):=fun f=>rfl
 have w0:wt (be v [q,p]) v=0:=wY (fun s hs=>by
  rw [hE] at hs
  simp only [ay,List.not_mem_nil,or_false] at hs
  rcases hs with rfl|rfl|rfl
  ·exact nvq
  ·exact nqp
  ·exact nvp.symm) (fun w hw hne=>by
  simp only [ay,List.not_mem_nil,or_false] at hw
  rcases hw with rfl|rfl|rfl
  ·exact absurd rfl hne
  ·exact hvq
  ·exact hvp)
 have mid:∀ a:Bool,a.toNat+(a^^true).toNat=1:=fun a=>by cases a<;>rfl
 simp only [aY,List.map_nil,List.sum_cons,List.sum_nil]
 rw [w0]
 rcases eH q.y p.y with k|k|k
 ·have w1:wt (be v [q,p]) q=1:=by
   unfold wt
   rw [three (lW q),oG nvq,oH nqp.symm,md ⟨p,v⟩ nqp.symm nvq,kw (show ¬q.y<v.y by grind),pP k]
   exact mid _
  have w2:wt (be v [q,p]) p=0:=by
   unfold wt
   rw [three (lW p),three,oG nqp,oH nvp,md ⟨v,q⟩ nvp nqp,kw (show ¬p.y<v.y by grind),kw (show ¬p.y<q.y by grind),po (show ¬p.y<v.y by grind) (show ¬p.y<q.y by grind),o9 (pj q p),o9 (pk p v)]
   rfl
  rw [w1,w2];rfl
 ·exact absurd k hqp
 ·have w1:wt (be v [q,p]) p=1:=by
   unfold wt
   rw [three (lW p),oG nqp,oH nvp,md ⟨v,q⟩ nvp nqp,kw (show ¬p.y<v.y by grind),pP k]
   exact mid _
  have w2:wt (be v [q,p]) q=0:=by
   unfold wt
   rw [three (lW q),three,oG nvq,oH nqp.symm,md ⟨p,v⟩ nqp.symm nvq,kw (show ¬q.y<v.y by grind),kw (show ¬q.y<p.y by grind),o9 (pj v q),o9 (pk q p),po (show ¬q.y<p.y by grind) (show ¬q.y<v.y by grind)]
   rfl
  rw [w1,w2];rfl
end Go.Av
namespace Go.Av
variable {C:List Pt} {S:List Sg} {p v q c m:Pt}
theorem Eye.rightOf (h:Eye C S p v m) (hc:Mw C S p v m c) (hq:0<ar p v q) (hs:∃ s∈S,eF s ⟨v,q⟩) (hqC:q∈C) (hne:q≠c):ar v c q<0:=by
 have T:=h.tr hc
 have hA:=T.pos
 rcases qlt (ar v c q) 0 with k|k
 ·exact k
 exfalso
 have hqT:¬InT p v c q:=fun k=>by
  rcases T.emp q hqC k with e|e|e
  ·rw [e,cL] at hq;exact aL hq
  ·rw [e,cw] at hq;exact aL hq
  ·exact hne e
 obtain ⟨s,hsS,hsm⟩:=hs
 have hvq:v≠q:=fun e=>by rw [←e,cw] at hq;exact aL hq
 have hcp:ar c p q<0:=by
  rcases qlt (ar c p q) 0 with g|g
  ·exact g
  ·exact absurd ⟨ai hq,k,g⟩ hqT
 have hcv:0<ar c p v:=by rw [iu p v c];exact hA
 obtain ⟨n,n0,n1,ne,_⟩:=oM (ai hcv) hcp
 rw [←jn] at ne
 have np:0<n:=by
  rcases cf n0 with g|g
  ·exact g
  ·rw [←g,iH] at ne;rw [ne] at hcv;exact absurd hcv aL
 have i1:0<ar p v (pt v q n):=by rw [bm,cw];have:=au np hq;grind
 have i2:0≤ar v c (pt v q n):=by rw [bm,cL];have:=aj n0 k;grind
 have on:aJ c p (pt v q n):=kM (p:=c) (q:=p) (r:=v) hcv ne (ai i1) i2
 have hst:aJ s.a s.b (pt v q n):=(kH hsm).2 ⟨n,n0,ai n1,rfl⟩
 rcases T.l3 s hsS _ hst on with g|⟨g,g2⟩
 ·have:aJ c p v:=(kH g).1 ((kH hsm).2 (j8 _ _))
  have:=iv this
  rw [this] at hcv;exact aL hcv
 ·have g3:pt v q n=v∨pt v q n=q:=by
   rcases hsm with rfl|rfl
   ·exact g
   ·exact g.symm
  rcases g3 with e|e
  ·have:=jt hvq (e.trans (iH v q).symm);grind
  ·have:=jt hvq (e.trans (kD v q).symm);grind
end Go.Av
namespace Go.Av
variable {c v x y:Pt}
theorem SV (hx:c.y<x.y) (hy:c.y<y.y) (hv:c.y<v.y) (g1:(bp (rr c y x)^^bp (rr c y v))=true) (g2:(bp (rr c x v)^^bp (rr c x y))=true) (g3:(bp (rr c v x)^^bp (rr c v y))=true):False:=by
 have low:∀ {d w:Pt},c.y<d.y→c.y<w.y→(rr c d w↔0<ar c w d):=fun {d w} hd hw=>by
  unfold rr
  constructor
  ·rintro (⟨_,_,h⟩|⟨h,_⟩)
   ·exact h
   ·grind
  ·intro h;exact .inl ⟨hd,hw,h⟩
 have id:ar c x y*(v.y-c.y)+ar c y v*(x.y-c.y)+ar c v x*(y.y-c.y)=0:=by unfold ar;grind
 have s1:ar c y x= -ar c x y:=by unfold ar;grind
 have s2:ar c v y= -ar c y v:=by unfold ar;grind
 have s3:ar c x v= -ar c v x:=by unfold ar;grind
 have eqv:∀ {d w:Pt},c.y<d.y→c.y<w.y→bp (rr c d w)=decide (0<ar c w d):=fun {d w} hd hw=>by
  rw [Bool.eq_iff_iff,dD,low hd hw,aE]
 rw [eqv hy hx,eqv hy hv,s2] at g1
 rw [eqv hx hv,eqv hx hy,s1] at g2
 rw [eqv hv hx,eqv hv hy,s3] at g3
 generalize ar c x y=X at*
 generalize ar c y v=Y at*
 generalize ar c v x=V at*
 have px:0<x.y-c.y:=by grind
 have py:0<y.y-c.y:=by grind
 have pv:0<v.y-c.y:=by grind
 rcases eH X 0 with kx|kx|kx<;>rcases eH Y 0 with ky|ky|ky<;>rcases eH V 0 with kv|kv|kv
 case inl.inl.inl=>
  have:=au (show 0< -X by grind) pv
  have:=au (show 0< -Y by grind) px
  have:=au (show 0< -V by grind) py
  grind
 case inr.inr.inr.inr.inr.inr=>
  have:=au kx pv
  have:=au ky px
  have:=au kv py
  grind
 all_goals
  exfalso
  have dx:decide (X<0)=decide (X<0):=rfl
  revert g1 g2 g3
  simp only [kx,ky,kv,aE]
  intros
  simp_all
  try grind
theorem SK (hv:c.y<v.y) (hx:x.y≠c.y) (hy:y.y≠c.y) {a1 a2 aR bR b1 b2:Bool} (haR:aR=(a1^^a2))
 (eR:bR=(bp (c.y<x.y)^^bp (c.y<y.y))) (e1:b1=(bp (c.y<x.y)^^true)) (e2:b2=(true^^bp (c.y<y.y)))
 (G1:(a1^^(bp (rr c y x)^^bp (rr c y v)))=false) (G2:(a2^^(bp (rr c x v)^^bp (rr c x y)))=false) (G3:(aR^^(bp (rr c v x)^^bp (rr c v y)))=true):
 aR.toNat+(aR^^bR).toNat=(a1.toNat+(a1^^b1).toNat)+(a2.toNat+(a2^^b2).toNat):=by
 have off:∀ {d w:Pt},(c.y<d.y→¬c.y<w.y)→(d.y<c.y→¬w.y<c.y)→bp (rr c d w)=false:=fun {d w} h1 h2=>kw (by
  rintro (⟨k1,k2,_⟩|⟨k1,k2,_⟩)
  ·exact h1 k1 k2
  ·exact h2 k1 k2)
 rcases eH x.y c.y with kx|kx|kx
 ·have nx:bp (c.y<x.y)=false:=kw (by grind)
  rw [nx] at eR e1
  rcases eH y.y c.y with ky|ky|ky
  ·have ny:bp (c.y<y.y)=false:=kw (by grind)
   rw [ny] at eR e2
   rw [off (d:=v) (w:=x) (by grind) (by grind),off (d:=v) (w:=y) (by grind) (by grind)] at G3
   subst eR;subst e1;subst e2;subst haR
   cases a1<;>cases a2<;>first|rfl|cases G3
  ·exact absurd ky hy
  ·have ny:bp (c.y<y.y)=true:=pP ky
   rw [ny] at eR e2
   rw [off (d:=x) (w:=v) (by grind) (by grind),off (d:=x) (w:=y) (by grind) (by grind)] at G2
   subst eR;subst e1;subst e2;subst haR
   cases a1<;>cases a2<;>first|rfl|cases G2
 ·exact absurd kx hx
 ·have nx:bp (c.y<x.y)=true:=pP kx
  rw [nx] at eR e1
  rcases eH y.y c.y with ky|ky|ky
  ·have ny:bp (c.y<y.y)=false:=kw (by grind)
   rw [ny] at eR e2
   rw [off (d:=y) (w:=x) (by grind) (by grind),off (d:=y) (w:=v) (by grind) (by grind)] at G1
   subst eR;subst e1;subst e2;subst haR
   cases a1<;>cases a2<;>first|rfl|cases G1
  ·exact absurd ky hy
  ·have ny:bp (c.y<y.y)=true:=pP ky
   rw [ny] at eR e2
   have no:¬(a1=true∧a2=true):=fun ⟨k1,k2⟩=>by
    rw [k1] at G1;rw [k2] at G2;rw [haR,k1,k2] at G3
    refine SV kx ky hv ?_ ?_ ?_
    ·cases h:(bp (rr c y x)^^bp (rr c y v))<;>rw [h] at G1<;>first|rfl|cases G1
    ·cases h:(bp (rr c x v)^^bp (rr c x y))<;>rw [h] at G2<;>first|rfl|cases G2
    ·cases h:(bp (rr c v x)^^bp (rr c v y))<;>rw [h] at G3<;>first|rfl|cases G3
   subst eR;subst e1;subst e2;subst haR
   cases a1<;>cases a2<;>first|rfl|exact absurd ⟨rfl,rfl⟩ no
end Go.Av
namespace Go.Av
variable {E F:List Sg} {c v x y:Pt} {A B:List Pt}
theorem oI (v:Pt) (A:List Pt) (c:Pt) (B:List Pt):(be v (A++c::B)).Perm (be c (B++v::A)):=by
 rw [jE,jE]
 exact List.perm_append_comm
theorem zp (h:E.Perm F) (w:Pt):wt E w=wt F w:=by
 unfold wt
 rw [oE h,oE (f:=lW w) h]
end Go.Av
namespace Go.Av
variable {c v x y:Pt} {A B A2 B1:List Pt}
end Go.Av
namespace Go.Av
variable {v:Pt} {M:List Pt}
end Go.Av
namespace Go.Av
variable {v p q:Pt} {M M1 M2:List Pt}
end Go.Av
namespace Go.Av
variable {C:List Pt} {S:List Sg} {x c y:Pt}
theorem Net.apartAt (n:Net C S) (h1:(⟨x,c⟩:Sg)∈S) (h2:(⟨c,y⟩:Sg)∈S) (hxy:x≠y) (kx:x.y≠c.y) (hs:x.y<c.y↔y.y<c.y) (ky:y.y≠c.y):ar c x y≠0:=by
 intro e
 have cx:c≠x:=(n.ne _ h1).symm
 have cy:c≠y:=n.ne _ h2
 obtain ⟨m,hm⟩:=iB cx e
 have ey:y.y-c.y=m*(x.y-c.y):=by rw [hm];unfold pt;simp only;grind
 have m0:0<m:=by
  rcases qlt 0 m with k|k
  ·exact k
  ·exfalso
   rcases eH x.y c.y with g|g|g
   ·have:=hs.1 g
    have:=aj (show 0≤ -m by grind) (show 0≤c.y-x.y by grind)
    grind
   ·exact kx g
   ·have:c.y<y.y:=by
     rcases eH y.y c.y with j|j|j
     ·have:=hs.2 j;grind
     ·exact absurd j ky
     ·exact j
    have:=aj (show 0≤ -m by grind) (show 0≤x.y-c.y by grind)
    grind
 rcases qlt 1 m with k|k
 ·have hx:x=pt c y (1/m):=by
   have d:1/m*m=1:=Rat.div_mul_cancel (by grind)
   generalize 1/m=r at*
   rw [hm]
   refine Pt.ext ?_ ?_<;>(unfold pt;simp only;grind)
  have pr:=part (x:=1) (a:=m) m0 (by decide+kernel) (ai k)
  rcases n.on _ h2 x (n.ea _ h1) ⟨1/m,pr.1,pr.2,hx⟩ with g|g
  ·exact cx g.symm
  ·exact hxy g
 ·rcases n.on _ h1 y (n.eb _ h2) (cH ⟨m,ai m0,k,hm⟩) with g|g
  ·exact hxy g.symm
  ·exact cy g.symm
end Go.Av
namespace Go.Av
variable {C:List Pt} {E:List Sg} {c v x y p q:Pt} {M A:List Pt}
theorem Ln {a b v:Pt} {M:List Pt} (h:∀ s∈be v M,¬ez a b s.a s.b):bV (fun s=>cr a s.a s.b) (be v M)=bV (fun s=>cr b s.a s.b) (be v M):=by
 have key:bV (fun s=>cr a s.a s.b^^cr b s.a s.b) (be v M)=false:=by
  rw [←xi (mN a b) v M]
  exact jl fun s hs=>tZ (h s hs)
 rw [m6] at key
 cases h1:bV (fun s=>cr a s.a s.b) (be v M)<;>cases h2:bV (fun s=>cr b s.a s.b) (be v M)<;>rw [h1,h2] at key<;>first|rfl|cases key
theorem Kl {ER E1 E2:List Sg} (hv:v.y≠c.y) (hx:x.y≠c.y) (hy:y.y≠c.y)
 (hA:bV (fun s=>cr c s.a s.b) ER=(bV (fun s=>cr c s.a s.b) E1^^bV (fun s=>cr c s.a s.b) E2))
 (uR:bV (lW c) ER=(bp (c.y<x.y)^^bp (c.y<y.y))) (u1:bV (lW c) E1=(bp (c.y<x.y)^^bp (c.y<v.y))) (u2:bV (lW c) E2=(bp (c.y<v.y)^^bp (c.y<y.y)))
 (G1:(bV (fun s=>cr c s.a s.b) E1^^(bp (rr c y x)^^bp (rr c y v)))=false) (G2:(bV (fun s=>cr c s.a s.b) E2^^(bp (rr c x v)^^bp (rr c x y)))=false)
 (G3:(bV (fun s=>cr c s.a s.b) ER^^(bp (rr c v x)^^bp (rr c v y)))=true):wt ER c=wt E1 c+wt E2 c:=by
 unfold wt
 rcases eH v.y c.y with k|k|k
 ·have nv:bp (c.y<v.y)=false:=kw (by grind)
  rw [nv,Bool.xor_false] at u1
  rw [nv,Bool.false_xor] at u2
  exact R7 k hx hy hA uR u1 u2 G1 G2 G3
 ·exact absurd k hv
 ·have nv:bp (c.y<v.y)=true:=pP k
  rw [nv] at u1 u2
  exact SK k hx hy hA uR u1 u2 G1 G2 G3
theorem ul {X Y Z u t s:Rat} (hu:0<u) (ht:0<t) (hs:0<s) (he:X*u+Y*t=Z*s) (hD:0<X+Y+Z):
 (0≤X→0≤Y→0≤Z)∧¬(X≤0∧Y≤0):=by
 have pos:0≤Z*s→0≤Z:=fun h=>by
  rcases qlt Z 0 with k|k
  ·have:=au (show 0< -Z by grind) hs;grind
  ·exact k
 refine ⟨fun h1 h2=>pos ?_,fun ⟨h1,h2⟩=> ?_⟩
 ·have:=aj h1 (ai hu);have:=aj h2 (ai ht);grind
 ·have:=aj (show 0≤ -X by grind) (ai hu);have:=aj (show 0≤ -Y by grind) (ai ht)
  have hZ:0<Z:=by grind
  have:=au hZ hs
  grind
theorem P1 {w:Pt} (hD:0<ar p v q) (hp:w.y≠p.y) (hv:w.y≠v.y) (hq:w.y≠q.y) (ho:¬InT p v q w):
 (cr w q p^^(cr w p v^^(cr w v q^^false)))=false:=by
 have b1:0<ar p v w+ar v q w+ar q p w:=by rw [BN];exact hD
 have b2:=Ja p v q w
 have b3:=BN p v q w
 have no:¬(0≤ar p v w∧0≤ar v q w∧0≤ar q p w):=fun ⟨h1,h2,h3⟩=>ho ⟨h1,h2,h3⟩
 rw [←b3] at b2
 clear ho
 have lo:∀ {z:Pt},w.y≠z.y→¬w.y<z.y→0<w.y-z.y:=fun h k=>by
  rcases eH w.y _ with g|g|g
  ·exact absurd g k
  ·exact absurd g h
  ·grind
 have hi:∀ {z:Pt},w.y<z.y→0<z.y-w.y:=fun k=>by grind
 by_cases kp:w.y<p.y<;>by_cases kv:w.y<v.y<;>by_cases kq:w.y<q.y
 ·rw [pu kq kp,pu kp kv,pu kv kq];rfl
 ·rw [qH kq kp,pu kp kv,sM kv kq]
  have:=ul (X:=ar q p w) (Y:=ar v q w) (Z:=ar p v w) (hi kv) (hi kp) (lo hq kq) (by grind) (by grind)
  generalize ar p v w=X at*;generalize ar v q w=Y at*;generalize ar q p w=Z at*
  clear b1 b2 b3
  by_cases h1:0<Z<;>by_cases h2:Y<0<;>simp [h1,h2]<;>grind
 ·rw [pu kq kp,sM kp kv,qH kv kq]
  have:=ul (X:=ar p v w) (Y:=ar v q w) (Z:=ar q p w) (hi kq) (hi kp) (lo hv kv) (by grind) (by grind)
  generalize ar p v w=X at*;generalize ar v q w=Y at*;generalize ar q p w=Z at*
  clear b1 b2 b3
  by_cases h1:X<0<;>by_cases h2:0<Y<;>simp [h1,h2]<;>grind
 ·rw [qH kq kp,sM kp kv,po kv kq]
  have:=ul (X:=ar q p w) (Y:=ar p v w) (Z:=ar v q w) (lo hv kv) (lo hq kq) (hi kp) (by grind) (by grind)
  generalize ar p v w=X at*;generalize ar v q w=Y at*;generalize ar q p w=Z at*
  clear b1 b2 b3
  by_cases h1:0<Z<;>by_cases h2:X<0<;>simp [h1,h2]<;>grind
 ·rw [sM kq kp,qH kp kv,pu kv kq]
  have:=ul (X:=ar q p w) (Y:=ar p v w) (Z:=ar v q w) (hi kv) (hi kq) (lo hp kp) (by grind) (by grind)
  generalize ar p v w=X at*;generalize ar v q w=Y at*;generalize ar q p w=Z at*
  clear b1 b2 b3
  by_cases h1:Z<0<;>by_cases h2:0<X<;>simp [h1,h2]<;>grind
 ·rw [po kq kp,qH kp kv,sM kv kq]
  have:=ul (X:=ar p v w) (Y:=ar v q w) (Z:=ar q p w) (lo hq kq) (lo hp kp) (hi kv) (by grind) (by grind)
  generalize ar p v w=X at*;generalize ar v q w=Y at*;generalize ar q p w=Z at*
  clear b1 b2 b3
  by_cases h1:0<X<;>by_cases h2:Y<0<;>simp [h1,h2]<;>grind
 ·rw [sM kq kp,po kp kv,qH kv kq]
  have:=ul (X:=ar q p w) (Y:=ar v q w) (Z:=ar p v w) (lo hv kv) (lo hp kp) (hi kq) (by grind) (by grind)
  generalize ar p v w=X at*;generalize ar v q w=Y at*;generalize ar q p w=Z at*
  clear b1 b2 b3
  by_cases h1:Z<0<;>by_cases h2:0<Y<;>simp [h1,h2]<;>grind
 ·rw [po kq kp,po kp kv,po kv kq];rfl
end Go.Av
