/- Helping texts: Ol, Om, On. -/
import Derived.Test.YtkmlhdfpcjkekaaGreatKOk
import Derived.Test.YtkmlhdfpcjkekaaGreatKMm
import Derived.Test.YtkmlhdfpcjkekaaGreatKNl
set_option linter.unusedSimpArgs false
set_option linter.unusedVariables false
set_option maxRecDepth 100000
set_option maxHeartbeats 16000000
namespace Go.Av
variable {C:List Pt} {E:List Sg} {c v x a p q:Pt} {M A A1 A2:List Pt}
theorem Gm:∀ (a:Pt) (l:List Pt) (z:Pt),((ko a (l++[z])).map Sg.rev).Perm (ko z (l.reverse++[a]))
 |a,[],z=>List.Perm.refl _
 |a,b::l,z=>by
  have h:=Gm b l z
  show ((⟨a,b⟩:Sg).rev::(ko b (l++[z])).map Sg.rev).Perm _
  rw [List.reverse_cons,bE,nM,m8 z l.reverse b [a]]
  exact (List.Perm.cons _ h).trans (List.perm_append_comm (l₁:=[(⟨b,a⟩:Sg)]) (l₂:=ko z (l.reverse++[b])))
theorem C1 (v:Pt) (M:List Pt):((be v M).map Sg.rev).Perm (be v M.reverse):=Gm v M v
theorem Se (E:List Sg) (w:Pt):wt (E.map Sg.rev) w=wt E w:=by
 unfold wt
 rw [sT,sT]
 have h1:bV (fun s=>cr w s.rev.a s.rev.b) E=bV (fun s=>cr w s.a s.b) E:=jl fun s _=>mL w s.b s.a
 have h2:bV (fun s=>lW w s.rev) E=bV (lW w) E:=jl fun s _=>by
  unfold lW
  rw [Bool.eq_iff_iff,dD,dD]
  exact ⟨Or.symm,Or.symm⟩
 rw [h1,h2]
theorem Net.perm (n:Net C E) {C':List Pt} {E':List Sg} (hC:C.Perm C') (hE:E.Perm E'):Net C' E':=
 ⟨fun s hs=>n.ne s (hE.mem_iff.2 hs),fun s hs=>hC.mem_iff.1 (n.ea s (hE.mem_iff.2 hs)),fun s hs=>hC.mem_iff.1 (n.eb s (hE.mem_iff.2 hs)),
  fun s hs t ht=>n.cross s (hE.mem_iff.2 hs) t (hE.mem_iff.2 ht),fun s hs c hc=>n.on s (hE.mem_iff.2 hs) c (hC.mem_iff.2 hc)⟩
theorem Net.rev (n:Net C E):Net C (E.map Sg.rev):=by
 refine ⟨fun s hs=> ?_,fun s hs=> ?_,fun s hs=> ?_,fun s hs t ht P h1 h2=> ?_,fun s hs c hc h=> ?_⟩
 ·obtain ⟨s',h,rfl⟩:=av.1 hs;exact (n.ne s' h).symm
 ·obtain ⟨s',h,rfl⟩:=av.1 hs;exact n.eb s' h
 ·obtain ⟨s',h,rfl⟩:=av.1 hs;exact n.ea s' h
 ·obtain ⟨s',k1,rfl⟩:=av.1 hs
  obtain ⟨t',k2,rfl⟩:=av.1 ht
  rcases n.cross s' k1 t' k2 P (cH h1) (cH h2) with k|⟨g1,g2⟩
  ·left
   rcases k with rfl|rfl
   ·exact .inl rfl
   ·exact .inr rfl
  ·exact .inr ⟨g1.symm,g2.symm⟩
 ·obtain ⟨s',k1,rfl⟩:=av.1 hs
  exact (n.on s' k1 c hc (cH h)).symm
theorem TrE.perm {p q r:Pt} (h:TrE C E p q r) {C':List Pt} {E':List Sg} (hC:C.Perm C') (hE:E.Perm E'):TrE C' E' p q r:=
 ⟨h.pos,hC.mem_iff.1 h.mp,hC.mem_iff.1 h.mq,hC.mem_iff.1 h.mr,h.l1.sub fun s hs=>hE.mem_iff.2 hs,h.l2.sub fun s hs=>hE.mem_iff.2 hs,h.l3.sub fun s hs=>hE.mem_iff.2 hs,
  fun f hf hin=>h.emp f (hC.mem_iff.2 hf) hin⟩
noncomputable def qu (v:Pt) (M:List Pt):Nat:=((v::M).map (wt (be v M))).sum
theorem Ac {v z:Pt} {M N:List Pt} (h1:(v::M).Perm (z::N)) (h2:(be v M).Perm (be z N)):qu v M=qu z N:=by
 unfold qu
 rw [List.map_congr_left (fun w _=>zp h2 w)]
 exact (h1.map _).sum_nat
theorem K5 (v:Pt) (M:List Pt):qu v M=qu v M.reverse:=by
 unfold qu
 rw [List.map_congr_left (fun w _=>(zp (C1 v M) w).symm.trans (Se _ w):∀ w∈v::M.reverse,wt (be v M.reverse) w=wt (be v M) w)]
 exact ((List.Perm.cons v (List.reverse_perm M).symm).map _).sum_nat
structure mi (v:Pt) (M:List Pt):Prop where
 net:Net (v::M) (be v M)
 nd:(v::M).Nodup
 hy:∀ a∈v::M,∀ b∈v::M,a≠b→a.y≠b.y
theorem mi.perm {v z:Pt} {M N:List Pt} (h:mi v M) (h1:(v::M).Perm (z::N)) (h2:(be v M).Perm (be z N)):mi z N:=
 ⟨h.net.perm h1 h2,h1.nodup_iff.1 h.nd,fun a ha b hb=>h.hy a (h1.mem_iff.2 ha) b (h1.mem_iff.2 hb)⟩
theorem mi.rev {v:Pt} {M:List Pt} (h:mi v M):mi v M.reverse:=
 have e:(v::M).Perm (v::M.reverse):=List.Perm.cons v (List.reverse_perm M).symm
 ⟨h.net.rev.perm e (C1 v M),e.nodup_iff.1 h.nd,fun a ha b hb=>h.hy a (e.mem_iff.2 ha) b (e.mem_iff.2 hb)⟩
theorem mi.step {v:Pt} {M M1 M2:List Pt} (h:mi v M) (ih:∀ z N,(z::N).length<(v::M).length→3≤(z::N).length→mi z N→qu z N+2=(z::N).length)
 (hlow:∀ w∈v::M,w≠v→v.y<w.y) (h1:M=q::M1) (h2:M=M2++[p]) (h3:M1≠[]) (t1:0<ar p v q):qu v M+2=(v::M).length:=by
 have n0:=cV.1 h.nd
 have hq:q∈M:=by rw [h1];simp
 have hp:p∈M:=by rw [h2];simp
 have vq:v≠q:=fun k=>n0.1 (by rw [k];exact hq)
 have vp:v≠p:=fun k=>n0.1 (by rw [k];exact hp)
 have e_vq:(⟨v,q⟩:Sg)∈be v M:=by unfold be;rw [h1];exact ah ..
 have e_pv:(⟨p,v⟩:Sg)∈be v M:=by
  unfold be
  rw [h2,bE,nM,m8]
  exact bC _ (ah ..)
 have mid:(0:Rat)<1/2∧(1:Rat)/2<1:=by decide+kernel
 have eye:Eye (v::M) (be v M) p v (pt p v (1/2)):=⟨h.net,⟨_,e_pv,.inl rfl⟩,1/2,mid.1,mid.2,rfl⟩
 obtain ⟨c,hc⟩:=eye.apex ⟨q,ag _ hq,t1⟩
 have T:=eye.tr hc
 have cv:c≠v:=fun k=>by have:=hc.pos;rw [k,cw] at this;exact aL this
 have cp:c≠p:=fun k=>by have:=hc.pos;rw [k,cL] at this;exact aL this
 have cM:c∈M:=(ay.1 hc.mem).resolve_left cv
 by_cases cq:c=q
 ·subst cq
  by_cases len:M.length=2
  ·have eM:M=[c,p]:=by
    rw [h1] at h2 len ⊢
    match M1,len with
    |[b],_=>
     match M2,h2 with
     |[],h2=>cases h2
     |[d],h2=>simp only [List.cons_append,List.nil_append,List.cons.injEq,and_true] at h2;rw [h2.2]
     |d::e::l,h2=>simp at h2
   unfold qu
   rw [eM,My (hlow c hc.mem cv) (hlow p (ag _ hp) vp.symm) (h.hy c hc.mem p (ag _ hp) cp)]
   rfl
  ·obtain ⟨A,hA⟩:∃ A,M=c::(A++[p]):=by
    rw [h1] at h2 ⊢
    match M2,h2 with
    |[],h2=>simp only [List.nil_append,List.cons.injEq] at h2;exact absurd h2.2 h3
    |d::A,h2=>simp only [List.cons_append,List.cons.injEq] at h2;exact ⟨A,by rw [h2.2]⟩
   have A0:A≠[]:=fun k=>len (by rw [hA,k];rfl)
   obtain ⟨a,A1,hA1⟩:∃ a A1,A=a::A1:=by cases A with
    |nil=>exact absurd rfl A0
    |cons a A1=>exact ⟨a,A1,rfl⟩
   have hA2:A=A.dropLast++[A.getLast A0]:=(List.dropLast_concat_getLast A0).symm
   have e2:(be v M).Perm (be c (A++[p,v])):=by
    have:=oI v [] c (A++[p])
    rw [bE] at this
    rw [hA];exact this
   have e1:(v::M).Perm (c::(A++[p,v])):=by
    rw [hA]
    have:(c::(A++[p,v]))=(c::(A++[p]))++[v]:=by simp
    rw [this]
    exact (List.perm_append_comm (l₁:=c::(A++[p])) (l₂:=[v])).symm
   have h':=h.perm e1 e2
   obtain ⟨N1,hs⟩:=NI h'.net h'.nd h'.hy (fun w hw=>hlow w (e1.mem_iff.2 hw)) (T.perm e1 e2) hA1 hA2
   rw [Ac e1 e2]
   have sub:∀ w∈c::(A++[p]),w∈v::M:=fun w hw=>ag _ (by rw [hA];exact hw)
   have i:=ih c (A++[p]) (by rw [hA];simp only [aC];omega) (by rw [hA1];simp only [aC,aK];simp) ⟨N1,by rw [←hA];exact n0.2,fun a ha b hb=>h.hy a (sub a ha) b (sub b hb)⟩
   unfold qu at i ⊢
   rw [hs,hA]
   simp only [aC,aK] at i ⊢
   simp only [aI] at i ⊢
   omega
 ·obtain ⟨A,B,hAB⟩:=List.append_of_mem cM
  have hA1:∃ A1,A=q::A1:=by
   cases A with
   |nil=>rw [h1] at hAB;exact absurd (List.cons.inj hAB).1.symm cq
   |cons a A1=>rw [h1] at hAB;exact ⟨A1,by rw [(List.cons.inj hAB).1]⟩
  obtain ⟨A1,hA1⟩:=hA1
  have A0:A≠[]:=by rw [hA1];simp
  have B0:B≠[]:=fun k=>by
   rw [k,h2] at hAB
   have:=(List.append_inj' hAB rfl).2
   exact cp (List.cons.inj this).1.symm
  obtain ⟨y,B1,hB1⟩:∃ y B1,B=y::B1:=by cases B with
   |nil=>exact absurd rfl B0
   |cons a A1=>exact ⟨a,A1,rfl⟩
  have hB2:B=B.dropLast++[p]:=by
   have e1:=(List.dropLast_concat_getLast B0)
   have:A++c::B=(A++c::B.dropLast)++[B.getLast B0]:=by rw [bE];simp [e1]
   rw [this,h2] at hAB
   have:=(List.append_inj' hAB rfl).2
   rw [(List.cons.inj this).1];exact e1.symm
  subst hAB
  have n1:=mH.1 n0.2
  have nside:¬∃ s∈be v (A++c::B),eF s ⟨v,c⟩:=fun ⟨s,hs,k⟩=>by
   have ends:(s.a=v∧s.b=c)∨(s.a=c∧s.b=v):=by
    rcases k with rfl|rfl
    ·exact .inl ⟨rfl,rfl⟩
    ·exact .inr ⟨rfl,rfl⟩
   have vA:v∉A:=fun k=>n0.1 (bg _ k)
   have vB:v∉B:=fun k=>n0.1 (bC _ (ag _ k))
   have cA:c∉A:=fun k=>n1.2.2 c k c (ah ..) rfl
   have cB:c∉B:=(cV.1 n1.2.1).1
   rw [jE,aF] at hs
   rcases hs with hs|hs
   ·rw [hA1] at hs
    rcases ay.1 hs with rfl|hs
    ·rcases ends with ⟨_,e⟩|⟨e,_⟩
     ·exact cq e.symm
     ·exact cv e.symm
    ·obtain ⟨k1,k2⟩:=Al hs
     rcases ends with ⟨e,_⟩|⟨_,e⟩
     ·rw [e] at k1
      have:v∈A++[c]:=by rw [hA1];exact k1
      rcases aF.1 this with g|g
      ·exact vA g
      ·exact cv (bH.1 g).symm
     ·rw [e] at k2
      have:v∈A++[c]:=by rw [hA1];exact ag _ k2
      rcases aF.1 this with g|g
      ·exact vA g
      ·exact cv (bH.1 g).symm
   ·rw [hB2,bE,nM] at hs
    rw [show B.dropLast++p::[v]=B.dropLast++p::[v] from rfl,m8,aF] at hs
    rcases hs with hs|hs
    ·obtain ⟨k1,k2⟩:=Al hs
     have vB':v∉c::(B.dropLast++[p]):=fun g=>by
      rw [←hB2] at g
      rcases ay.1 g with g|g
      ·exact cv g.symm
      ·exact vB g
     rcases ends with ⟨e,_⟩|⟨_,e⟩
     ·rw [e] at k1;exact vB' k1
     ·rw [e] at k2;exact vB' (ag _ k2)
    ·rw [bH.1 hs] at ends
     rcases ends with ⟨e,_⟩|⟨e,_⟩
     ·exact vp e.symm
     ·exact cp e.symm
  have hf:nL (be v (A++c::B)) v c:=(eye.leg hc (.inr rfl)).resolve_left nside
  have t3:=eye.rightOf hc t1 ⟨_,e_vq,.inl rfl⟩ (ag _ hq) (fun k=>cq k.symm)
  have ho:∀ z∈v::(A++c::B),aJ v c z→z=v∨z=c:=fun z hz k=>T.rot.onLeg hz k
  obtain ⟨N1,N2⟩:=h.net.cut cv.symm hf ho
  have hs:=NJ h.net h.nd h.hy hlow hA1 (List.dropLast_concat_getLast A0).symm hB1 hB2 t1 hc.pos t3 hf ho
  have s1:List.Sublist (v::(A++[c])) (v::(A++c::B)):=List.Sublist.cons_cons _ (List.Sublist.append (List.Sublist.refl _) (List.Sublist.cons_cons _ (List.nil_sublist _)))
  have s2:List.Sublist (v::c::B) (v::(A++c::B)):=List.Sublist.cons_cons _ (List.sublist_append_right _ _)
  have i1:=ih v (A++[c]) (by rw [hB1];simp only [aC,aK,aI];omega) (by rw [hA1];simp only [aC,aK,aI];omega)
   ⟨N1,h.nd.sublist s1,fun a ha b hb=>h.hy a (s1.subset ha) b (s1.subset hb)⟩
  have i2:=ih v (c::B) (by rw [hA1];simp only [aC,aK];omega) (by rw [hB1];simp only [aC];omega)
   ⟨N2,h.nd.sublist s2,fun a ha b hb=>h.hy a (s2.subset ha) b (s2.subset hb)⟩
  unfold qu at i1 i2 ⊢
  rw [hs]
  simp only [aC,aK,aI] at i1 i2 ⊢
  omega
theorem mi.sum:∀ (n:Nat) (v:Pt) (M:List Pt),(v::M).length=n→3≤n→mi v M→qu v M+2=n:=by
 intro n
 induction n using Nat.strongRecOn with
 |ind n ih=>
 intro v M hl h3 h
 have ih':∀ z N,(z::N).length<n→3≤(z::N).length→mi z N→qu z N+2=(z::N).length:=fun z N k k3 hz=>ih _ k z N rfl k3 hz
 obtain ⟨z,hz,_,hmin⟩:=It (fun w:Pt=>w.y) (fun _=>True) (v::M) ⟨v,ah ..,trivial⟩
 obtain ⟨N,e1,e2⟩:∃ N,(v::M).Perm (z::N)∧(be v M).Perm (be z N):=by
  rcases ay.1 hz with rfl|hz
  ·exact ⟨M,List.Perm.refl _,List.Perm.refl _⟩
  ·obtain ⟨P,Q,rfl⟩:=List.append_of_mem hz
   refine ⟨Q++v::P,?_,oI v P z Q⟩
   have:(v::(P++z::Q)).Perm ((z::Q)++(v::P)):=List.perm_append_comm (l₁:=v::P) (l₂:=z::Q)
   exact this
 have h':=h.perm e1 e2
 have hlow:∀ w∈z::N,w≠z→z.y<w.y:=fun w hw hne=>by
  have k1:=hmin w (e1.mem_iff.2 hw) trivial
  have k2:=h'.hy w hw z (ah ..) hne
  rcases eH z.y w.y with g|g|g
  ·exact g
  ·exact absurd g.symm k2
  ·grind
 have hl':(z::N).length=n:=by rw [←e1.length_eq];exact hl
 rw [Ac e1 e2]
 clear e1 e2 h hmin hz hl v M
 have N3:2≤N.length:=by simp only [aC] at hl';omega
 match N,N3 with
 |q::b::M1,_=>
  have B0:b::M1≠[]:=by simp
  have hp:q::b::M1=(q::(b::M1).dropLast)++[(b::M1).getLast B0]:=by
   rw [List.cons_append,List.dropLast_concat_getLast]
  have hpB:(b::M1).getLast B0∈b::M1:=List.getLast_mem B0
  generalize (b::M1).getLast B0=p at*
  generalize (b::M1).dropLast=D at*
  have n0:=cV.1 h'.nd
  have n1:=cV.1 n0.2
  have mq:q∈z::q::b::M1:=by simp
  have mp:p∈z::q::b::M1:=ag _ (ag _ hpB)
  have pq:p≠q:=fun k=>n1.1 (by rw [←k];exact hpB)
  have qz:q≠z:=fun k=>n0.1 (by rw [←k];simp)
  have pz:p≠z:=fun k=>n0.1 (by rw [←k];exact ag _ hpB)
  have e_zq:(⟨z,q⟩:Sg)∈be z (q::b::M1):=ah ..
  have e_pz:(⟨p,z⟩:Sg)∈be z (q::b::M1):=by
   unfold be
   rw [hp,bE,nM,m8]
   exact bC _ (ah ..)
  have lq:=hlow q mq qz
  have lp:=hlow p mp pz
  have a0:=h'.net.apartAt e_pz e_zq pq (by grind) ⟨fun g=>by grind,fun g=>by grind⟩ (by grind)
  rcases eH (ar p z q) 0 with k|k|k
  ·rw [K5]
   have hr:=h'.rev
   have er:(z::q::b::M1).Perm (z::(q::b::M1).reverse):=List.Perm.cons z (List.reverse_perm _).symm
   have:=hr.step (q:=p) (p:=q) (M1:=(q::D).reverse) (M2:=(b::M1).reverse) (fun z' N' hN=>ih' z' N' (by rw [←er.length_eq,hl'] at hN;exact hN)) (fun w hw=>hlow w (er.mem_iff.2 hw)) (by rw [hp];simp) (by simp) (by simp) (by rw [show ar q z p= -ar p z q by unfold ar;grind];grind)
   rw [←er.length_eq,hl'] at this
   exact this
  ·exact absurd (by rw [show ar z p q= -ar p z q by unfold ar;grind];grind) a0
  ·have:=h'.step (q:=q) (p:=p) (M1:=b::M1) (M2:=q::D) (fun z' N' hN=>ih' z' N' (by rw [hl'] at hN;exact hN)) hlow rfl hp (by simp) k
   rw [hl'] at this
   exact this
end Go.Av
namespace Go.Av
variable {L:List Pt} {Hs:List (List Pt)}
theorem Ak:∀ (a:Pt) (l:List Pt),(ko a l).length=l.length
 |_,[]=>rfl
 |_,b::l=>by show (ko b l).length+1=_;rw [Ak b l];rfl
theorem Gn:∀ (a:Pt) (l:List Pt) (i:Nat) (h:i<(ko a l).length),(ko a l)[i]=⟨(a::l).getD i default,l.getD i default⟩
 |_,[],i,h=>absurd h (by simp [ko])
 |a,b::l,0,_=>rfl
 |a,b::l,i+1,h=>by
  show (ko b l)[i]'_=_
  rw [Gn b l i];rfl
theorem yR (v:Pt) (M:List Pt):aU (v::M)=be v M:=by
 unfold be aU
 refine List.ext_getElem (by rw [az,zd,Ak,aK];rfl) fun i h1 h2=> ?_
 rw [List.getElem_map,List.getElem_range,Gn]
 rw [Ak,aK,bD] at h2
 unfold b9 nx
 simp only [aC,Sg.mk.injEq]
 constructor
 ·rw [←List.cons_append,ae,ae,bB (by simp only [aC];omega)]
 ·by_cases k:i<M.length
  ·rw [bA (by omega),aB,ae,ae,bB k]
  ·have e:i=M.length:=by omega
   rw [e,Nat.mod_self,ae,ae,bv (ax _),Nat.sub_self];rfl
theorem wH {f:Sg→Bool} {x:List Pt}:∀ {Hs:List (List Pt)},Hs.Pairwise Sep→x∈Hs→(∀ y∈Hs,Sep x y→bV f (aU y)=false)→bV f (Hs.flatMap aU)=bV f (aU x)
 |a::t,hw,hl,h=>by
  obtain ⟨w1,w2⟩:=qo.1 hw
  rw [List.flatMap_cons,kn]
  rcases ay.1 hl with rfl|hl
  ·have:bV f (t.flatMap aU)=false:=by
    have h':∀ y∈t,bV f (aU y)=false:=fun y hy=>h y (ag _ hy) (w1 y hy)
    clear h w1 w2 hw
    induction t with
    |nil=>rfl
    |cons b t ih=>rw [List.flatMap_cons,kn,h' b (ah ..),ih (ah ..) fun y hy=>h' y (ag _ hy)];rfl
   rw [this,Bool.xor_false]
  ·rw [h a (ah ..) (w1 x hl).symm,Bool.false_xor]
   exact wH w2 hl fun y hy=>h y (ag _ hy)
theorem rI {f:Sg→Bool}:∀ {Hs:List (List Pt)},(∀ y∈Hs,bV f (aU y)=false)→bV f (Hs.flatMap aU)=false
 |[],_=>rfl
 |a::t,h=>by rw [List.flatMap_cons,kn,h a (ah ..),rI fun y hy=>h y (ag _ hy)];rfl
theorem zX {w:Pt} {l:List Pt} (h:w∉l):bV (lW w) (aU l)=false:=lZ fun s hs=>by
 obtain ⟨k1,k2⟩:=j6 hs
 exact md s (fun e=>h (by rw [←e];exact k1)) (fun e=>h (by rw [←e];exact k2))
theorem jC.apartP {a b:List Pt} (h:jC a b) {p:Pt} (hp:p∈a):p∉b:=fun k=>by
 have:=(qk b)▸k
 obtain ⟨s,hs,rfl⟩:=av.1 this
 exact h.freeP hp s hs (j8 _ _)
def vE (L:List Pt) (Hs:List (List Pt)):List Sg:=aU L++Hs.flatMap aU
theorem vF.wt_out (N:vF L Hs) {w:Pt} (hw:w∈L):wt (vE L Hs) w=wt (aU L) w:=by
 unfold wt vE
 rw [kn,kn,rI fun y hy=>by rw [←iw];exact N.ow y hy w hw,rI fun y hy=>zX ((N.mo y hy).symm.apartP hw),Bool.xor_false,Bool.xor_false]
theorem vF.wt_hole (N:vF L Hs) {x:List Pt} (hx:x∈Hs) {w:Pt} (hw:w∈x):wt (vE L Hs) w+wt (aU x) w=2:=by
 unfold wt vE
 rw [kn,kn,wH N.pw hx fun y hy s=>by rw [←iw];exact s.ba w hw,wH N.pw hx fun y hy s=>zX (s.nm.apartP hw),
  zX ((N.mo x hx).apartP hw),Bool.false_xor,←iw L,N.wo x hx w hw]
 cases bV (fun s=>cr w s.a s.b) (aU x)<;>cases bV (lW w) (aU x)<;>rfl
theorem mi.sumL {l:List Pt} (h:∃ v M,l=v::M∧mi v M) (h3:3≤l.length):(l.map (wt (aU l))).sum+2=l.length:=by
 obtain ⟨v,M,rfl,hs⟩:=h
 have:=mi.sum (v::M).length v M rfl h3 hs
 unfold qu at this
 rw [yR];exact this
theorem Jw {α:Type} (f g:α→Nat):∀ l:List α,(∀ x∈l,f x+g x=2)→(l.map f).sum+(l.map g).sum=2*l.length
 |[],_=>rfl
 |x::l,h=>by
  have:=Jw f g l fun y hy=>h y (ag _ hy)
  have:=h x (ah ..)
  simp only [aY,List.sum_cons,aC];omega
theorem vF.sum (N:vF L Hs) (hS:∀ l∈L::Hs,∃ v M,l=v::M∧mi v M) (h3:∀ l∈L::Hs,3≤l.length):((L++Hs.flatten).map (wt (vE L Hs))).sum+2=(L++Hs.flatten).length+2*Hs.length:=by
 have hL:(L.map (wt (vE L Hs))).sum+2=L.length:=by
  rw [List.map_congr_left fun w hw=>N.wt_out hw]
  exact mi.sumL (hS L (ah ..)) (h3 L (ah ..))
 have hH:∀ X:List (List Pt),(∀ x∈X,x∈Hs)→(X.flatten.map (wt (vE L Hs))).sum=X.flatten.length+2*X.length:=by
  intro X hX
  induction X with
  |nil=>rfl
  |cons x X ih=>
   have hx:=hX x (ah ..)
   have i:=ih fun y hy=>hX y (ag _ hy)
   have k1:=Jw (wt (vE L Hs)) (wt (aU x)) x fun w hw=>N.wt_hole hx hw
   have k2:=mi.sumL (hS x (ag _ hx)) (h3 x (ag _ hx))
   rw [List.flatten_cons,bz,List.sum_append,i]
   simp only [aK,aC]
   omega
 rw [bz,List.sum_append,hH Hs fun x hx=>hx]
 simp only [aK]
 omega
theorem JP {a b:List Pt} {β:Bool} (nm:jC a b) (ha:∀ p∈a,bW b p b.length=β) (hb:∀ p∈b,bW a p a.length=false) (h1:∀ s∈aU a,s.a≠s.b) (h2:∀ s∈aU b,s.a≠s.b)
 {q:Pt} (qa:∀ s∈aU a,¬aJ s.a s.b q) (qb:∀ s∈aU b,¬aJ s.a s.b q) (hq:bW a q a.length=true):bW b q b.length=β:=by
 obtain ⟨lo,hlo⟩:=sG ((a.map fun v=> -v.y)++[-q.y])
 have hd0:∀ v∈a, -lo<v.y:=fun v hv=>by
  have:=hlo (-v.y) (bg _ (av.2 ⟨v,hv,rfl⟩));grind
 have hdq: -lo<q.y:=by have:=hlo (-q.y) (bC _ (ah ..));grind
 let d:Pt:=⟨q.x, -lo⟩
 have hne:q≠d:=fun e=>by
  have:q.y= -lo:=congrArg Pt.y e
  grind
 have hdf:bW a d a.length=false:=by
  rw [iw]
  refine lZ fun s hs=> ?_
  obtain ⟨k1,k2⟩:=j6 hs
  exact pu (hd0 _ k1) (hd0 _ k2)
 have hda:∀ s∈aU a,¬aJ s.a s.b d:=fun s hs ⟨m,m0,m1,e⟩=>by
  obtain ⟨k1,k2⟩:=j6 hs
  have g1:=hd0 _ k1
  have g2:=hd0 _ k2
  have ey:(-lo:Rat)=s.a.y+m*(s.b.y-s.a.y):=by have:=congrArg Pt.y e;unfold pt at this;simpa using this
  have:=aj m0 (show 0≤s.b.y- -lo by grind)
  have:=aj (show 0≤1-m by grind) (show 0≤s.a.y- -lo by grind)
  rcases cf m0 with g|g
  ·have:=au g (show 0<s.b.y- -lo by grind);grind
  ·grind
 obtain ⟨l,l0,l1,hf,hl⟩:=rJ hne (aU a++aU b) (fun s hs=>(aF.1 hs).elim (h1 s) (h2 s)) (fun s hs k=>absurd k ((aF.1 hs).elim (qa s) (qb s)))
 have move:∀ {c:List Pt},(∀ s∈aU c,¬aJ s.a s.b q)→(∀ s∈aU c,∀ k,0<k→k<l→¬aJ s.a s.b (pt q d k))→(∀ s∈aU c,¬aJ s.a s.b (pt q d l))→bW c q c.length=bW c (pt q d l) c.length:=by
  intro c g1 g2 g3
  refine qf fun j hj=> ?_
  rintro ⟨P,p1,p2⟩
  obtain ⟨k,k0,k1,rfl⟩:=EK (ai l0) l1 p1
  rcases cf k0 with e|e
  ·rcases cf k1 with e'|e'
   ·exact g2 _ (kC hj) k e e' p2
   ·rw [e'] at p2;exact g3 _ (kC hj) p2
  ·rw [←e,iH] at p2;exact g1 _ (kC hj) p2
 have fa:=fun s hs=>hf s (bg (aU b) hs)
 have fb:=fun s hs=>hf s (bC (aU a) hs)
 have onA:∀ s∈aU a,aJ s.a s.b (pt q d l)→bW b q b.length=β:=fun s hs k=>by
  rw [move qb fb fun t ht j=>nm s hs t ht ⟨_,k,j⟩,nX nm hs k]
  exact ha _ (j6 hs).1
 have onB:∀ s∈aU b,aJ s.a s.b (pt q d l)→False:=fun s hs k=>by
  have:=move qa fa fun t ht j=>nm t ht s hs ⟨_,j,k⟩
  rw [nX nm.symm hs k,hb _ (j6 hs).1,hq] at this
  cases this
 rcases hl with rfl|⟨s,hs,hk⟩
 ·rw [kD] at onB onA move
  have:=move qa fa hda
  rw [hdf,hq] at this;cases this
 ·rcases aF.1 hs with g|g
  ·exact onA s g hk
  ·exact (onB s g hk).elim
theorem vF.par (N:vF L Hs) {q:Pt} (hq:∀ l∈L::Hs,∀ s∈aU l,¬aJ s.a s.b q):(bW L q L.length=true∧∀ x∈Hs,bW x q x.length=false)↔bV (fun s=>cr q s.a s.b) (vE L Hs)=true:=by
 unfold vE
 rw [kn,←iw]
 have q0:=hq L (ah ..)
 have seg:∀ l∈L::Hs,∀ s∈aU l,s.a≠s.b:=fun l hl=>by
  rcases ay.1 hl with rfl|hl
  ·exact N.out.seg_ne
  ·exact (N.holes l hl).1.seg_ne
 constructor
 ·rintro ⟨h1,h2⟩
  rw [h1,rI fun y hy=>by rw [←iw];exact h2 y hy];rfl
 ·intro h
  by_cases k:∃ x∈Hs,bW x q x.length=true
  ·obtain ⟨x,hx,kx⟩:=k
   have e1:=JP (N.mo x hx) (N.wo x hx) (N.ow x hx) (seg x (ag _ hx)) (seg L (ah ..)) (hq x (ag _ hx)) q0 kx
   rw [e1,wH N.pw hx fun y hy s=>by
    rw [←iw]
    exact JP s.nm s.ba s.ab (seg x (ag _ hx)) (seg y (ag _ hy)) (hq x (ag _ hx)) (hq y (ag _ hy)) kx,←iw,kx] at h
   cases h
  ·have k2:∀ x∈Hs,bW x q x.length=false:=fun x hx=>by
    cases e:bW x q x.length
    ·rfl
    ·exact absurd ⟨x,hx,e⟩ k
   rw [rI fun y hy=>by rw [←iw];exact k2 y hy,Bool.xor_false] at h
   exact ⟨h,k2⟩
end Go.Av
namespace Go.Av
variable {C:List Pt} {S:List Sg} {I:Pt→Prop} {t r:Aff}
theorem NK (s:Sg) (g:Pt→Pt):(s.map g).rev=s.rev.map g:=rfl
theorem eF.map {s u:Sg} (h:eF s u) (g:Pt→Pt):eF (s.map g) (u.map g):=by
 rcases h with rfl|rfl
 ·exact .inl rfl
 ·exact .inr rfl
theorem HZ {g:Pt→Pt} (hg:∀ {p q},g p=g q→p=q) {s u:Sg} (e:s.map g=u.map g):s=u:=by
 cases s;cases u
 unfold Sg.map at e
 simp only [Sg.mk.injEq] at e ⊢
 exact ⟨hg e.1,hg e.2⟩
theorem eF.unmap {g:Pt→Pt} (hg:∀ {p q},g p=g q→p=q) {s u:Sg} (h:eF (s.map g) (u.map g)):eF s u:=by
 rcases h with h|h
 ·exact .inl (HZ hg h)
 ·rw [NK] at h;exact .inr (HZ hg h)
theorem Net.map (n:Net C S) (ht:t.det≠0) (hr:∀ q,t.ap (r.ap q)=q):Net (C.map t.ap) (S.map fun s=>s.map t.ap):=by
 refine ⟨fun s hs e=> ?_,fun s hs=> ?_,fun s hs=> ?_,fun s hs u hu P h1 h2=> ?_,fun s hs c hc h=> ?_⟩
 ·obtain ⟨s,h,rfl⟩:=av.1 hs;exact n.ne s h (ra ht e)
 ·obtain ⟨s,h,rfl⟩:=av.1 hs;exact av.2 ⟨_,n.ea s h,rfl⟩
 ·obtain ⟨s,h,rfl⟩:=av.1 hs;exact av.2 ⟨_,n.eb s h,rfl⟩
 ·obtain ⟨s,k1,rfl⟩:=av.1 hs
  obtain ⟨u,k2,rfl⟩:=av.1 hu
  rw [←hr P] at h1 h2 ⊢
  rcases n.cross s k1 u k2 _ ((lD ht).1 h1) ((lD ht).1 h2) with k|⟨g1,g2⟩
  ·exact .inl (k.map _)
  ·refine .inr ⟨?_,?_⟩
   ·rcases g1 with g|g
    ·exact .inl (congrArg t.ap g)
    ·exact .inr (congrArg t.ap g)
   ·rcases g2 with g|g
    ·exact .inl (congrArg t.ap g)
    ·exact .inr (congrArg t.ap g)
 ·obtain ⟨s,k1,rfl⟩:=av.1 hs
  obtain ⟨c,k2,rfl⟩:=av.1 hc
  rcases n.on s k1 c k2 ((lD ht).1 h) with g|g
  ·exact .inl (congrArg t.ap g)
  ·exact .inr (congrArg t.ap g)
theorem nL.unmap {u v:Pt} (ht:t.det≠0) (h:nL (S.map fun s=>s.map t.ap) (t.ap u) (t.ap v)):nL S u v:=fun s hs P h1 h2=>by
 rcases h _ (av.2 ⟨s,hs,rfl⟩) (t.ap P) ((lD ht).2 h1) ((lD ht).2 h2) with k|k
 ·exact .inl (ra ht k)
 ·exact .inr (ra ht k)
theorem Region.map (R:Region C S I) (ht:t.det≠0) (hr:∀ q,t.ap (r.ap q)=q) (hl:∀ q,r.ap (t.ap q)=q):Region (C.map t.ap) (S.map fun s=>s.map t.ap) (fun q=>I (r.ap q)):=by
 refine ⟨R.net.map ht hr,fun p q h hp=> ?_,fun p v hv=> ?_,fun u hu v hv hne hf hm=> ?_⟩
 ·refine R.stay _ _ (fun s hs k=>h _ (av.2 ⟨s,hs,rfl⟩) ?_) hp
  rw [←hr p,←hr q]
  exact (x8 ht).2 k
 ·let v':Pt:=⟨r.a*v.x+r.b*v.y,r.c*v.x+r.d*v.y⟩
  have hv':v'≠⟨0,0⟩:=fun e=>by
   have e1:r.ap v=r.ap ⟨0,0⟩:=by
    have h1:r.a*v.x+r.b*v.y=0:=congrArg Pt.x e
    have h2:r.c*v.x+r.d*v.y=0:=congrArg Pt.y e
    refine Pt.ext ?_ ?_<;>(unfold Aff.ap;simp only;grind)
   have:=congrArg t.ap e1
   rw [hr,hr] at this
   exact hv this
  obtain ⟨x,x0,hx⟩:=R.far (r.ap p) v' hv'
  refine ⟨x,x0,fun k=>hx ?_⟩
  have:(⟨(r.ap p).x+x*v'.x,(r.ap p).y+x*v'.y⟩:Pt)=r.ap ⟨p.x+x*v.x,p.y+x*v.y⟩:=by
   refine Pt.ext ?_ ?_<;>(unfold Aff.ap;simp only [v'];grind)
  rw [this];exact k
 ·obtain ⟨u,h1,rfl⟩:=av.1 hu
  obtain ⟨v,h2,rfl⟩:=av.1 hv
  rw [yw,hl] at hm
  obtain ⟨s,hs,k⟩:=R.max u h1 v h2 (fun e=>hne (congrArg t.ap e)) (hf.unmap ht) hm
  exact ⟨_,av.2 ⟨s,hs,rfl⟩,k.map t.ap⟩
theorem Dir.map_iff (ht:0<t.det) (hr:∀ q,t.ap (r.ap q)=q) (hl:∀ q,r.ap (t.ap q)=q) {a b:Pt}:Dir (S.map fun s=>s.map t.ap) (fun q=>I (r.ap q)) (t.ap a) (t.ap b)↔Dir S I a b:=by
 have h0:t.det≠0:=fun e=>by rw [e] at ht;exact aL ht
 constructor
 ·rintro ⟨⟨s,hs,k⟩,u,w,u0,u1,hw,hI,ho⟩
  obtain ⟨s,h1,rfl⟩:=av.1 hs
  refine ⟨⟨s,h1,eF.unmap (u:=⟨a,b⟩) (g:=t.ap) (fun e=>ra h0 e) k⟩,u,r.ap w,u0,u1,?_,hI,fun s hs P p1 p2=> ?_⟩
  ·rw [←hr w,Hz] at hw
   exact (ju ht).1 hw
  ·have:=ho _ (av.2 ⟨s,hs,rfl⟩) (t.ap P) ((lD h0).2 p1) (by rw [yw,←hr w];exact (lD h0).2 p2)
   rw [yw] at this
   exact ra h0 this
 ·rintro ⟨⟨s,hs,k⟩,u,w,u0,u1,hw,hI,ho⟩
  refine ⟨⟨_,av.2 ⟨s,hs,rfl⟩,k.map t.ap⟩,u,t.ap w,u0,u1,?_,by show I (r.ap (t.ap w));rw [hl];exact hI,fun s hs P p1 p2=> ?_⟩
  ·rw [Hz];exact au ht hw
  ·obtain ⟨s,h1,rfl⟩:=av.1 hs
   rw [←hr P] at p1 p2 ⊢
   rw [yw] at p2 ⊢
   exact congrArg t.ap (ho s h1 _ ((lD h0).1 p1) ((lD h0).1 p2))
end Go.Av
