/- Helping texts: Od. -/
import Derived.Test.YtkmlhdfpcjkekaaGreatKOc
import Derived.Test.YtkmlhdfpcjkekaaGreatKNg
import Derived.Test.YtkmlhdfpcjkekaaGreatKLi
set_option linter.unusedSimpArgs false
set_option linter.unusedVariables false
set_option maxRecDepth 100000
set_option maxHeartbeats 16000000
namespace Go.Av
theorem HV (A:List Pt) (a x:Pt) (B:List Pt):oN (A++a::x::B) A.length=A++x::a::B:=by
 unfold oN
 have e1:(A++a::x::B).getD A.length default=a:=by simp [ae]
 have e2:(A++a::x::B).getD (A.length+1) default=x:=by simp [ae,bv]
 rw [e1,e2,List.set_append_right _ _ (by omega),List.set_append_right _ _ (by omega)]
 simp
theorem BJ:∀ (n:Nat) (A:List Pt) (x:Pt) (B:List Pt),A.length=n→A.Pairwise (fun p q=>bO p q≤0)→∃ A2,mO (A++x::B) A.length=A2++B∧A2.Perm (A++[x])∧A2.Pairwise fun p q=>bO p q≤0
 |0,A,x,B,hn,hs=>by
  have:A=[]:=List.length_eq_zero_iff.1 hn
  subst this
  exact ⟨[x],rfl,List.Perm.refl _,List.pairwise_singleton _ _⟩
 |n+1,A,x,B,hn,hs=>by
  obtain ⟨A',a,rfl⟩:∃ A' a,A=A'++[a]:=by
   have hne:A≠[]:=fun h=>by subst h;simp at hn
   exact ⟨A.dropLast,A.getLast hne,(List.dropLast_concat_getLast hne).symm⟩
  have hl:(A'++[a]).length=A'.length+1:=by simp
  have hA':A'.length=n:=by omega
  rw [hl]
  unfold mO
  have e:A'++[a]++x::B=A'++a::x::B:=by simp
  rw [e]
  have e1:(A'++a::x::B).getD A'.length default=a:=by simp [ae]
  have e2:(A'++a::x::B).getD (A'.length+1) default=x:=by simp [ae,bv]
  rw [e1,e2]
  rw [List.pairwise_append] at hs
  split
  ·rename_i hx
   rw [HV]
   obtain ⟨A2,h1,h2,h3⟩:=BJ n A' x (a::B) hA' hs.1
   refine ⟨A2++[a],by rw [h1];simp,?_,?_⟩
   ·refine (h2.append_right [a]).trans ?_
    rw [bE,bE]
    exact List.Perm.append_left _ (List.Perm.swap _ _ _)
   ·rw [List.pairwise_append]
    refine ⟨h3,List.pairwise_singleton _ _,fun p hp q hq=> ?_⟩
    rw [bH.1 hq]
    rcases aF.1 (h2.mem_iff.1 hp) with k|k
    ·exact hs.2.2 p k a (bH.2 rfl)
    ·rw [bH.1 k];omega
  ·rename_i hx
   refine ⟨A'++[a,x],by simp,by simp,?_⟩
   have hax:bO a x≤0:=by have:= @io a x;omega
   rw [List.pairwise_append]
   refine ⟨hs.1,by simp [hax],fun p hp q hq=> ?_⟩
   have hpa:=hs.2.2 p hp a (bH.2 rfl)
   simp only [ay,List.not_mem_nil,or_false] at hq
   rcases hq with rfl|rfl
   ·exact hpa
   ·exact je hpa hax
theorem DH (l:List Pt):∀ i,i<l.length→∃ A,kW l i=A++l.drop (i+1)∧A.Perm (l.take (i+1))∧A.Pairwise fun p q=>bO p q≤0
 |0,h=>by
  obtain ⟨a,l',rfl⟩:∃ a l',l=a::l':=by cases l with
   |nil=>simp at h
   |cons a l'=>exact ⟨a,l',rfl⟩
  exact ⟨[a],rfl,by simp,List.pairwise_singleton _ _⟩
 |i+1,h=>by
  obtain ⟨A,h1,h2,h3⟩:=DH l i (by omega)
  have hA:A.length=i+1:=by rw [h2.length_eq,d9];omega
  have hd:l.drop (i+1)=l[i+1]::l.drop (i+1+1):=List.drop_eq_getElem_cons h
  have ht:l.take (i+1+1)=l.take (i+1)++[l[i+1]]:=by rw [List.take_add_one,af h];rfl
  rw [kW,h1,hd,ht]
  generalize l[i+1]=y
  obtain ⟨A2,k1,k2,k3⟩:=BJ _ A y (l.drop (i+1+1)) rfl h3
  rw [hA] at k1
  exact ⟨A2,k1,k2.trans (h2.append_right _),k3⟩
theorem Jx {C:List Pt} (h:C≠[]):(qS C).Perm C∧(qS C).Pairwise fun p q=>bO p q≤0:=by
 have hp:=List.length_pos_iff.2 h
 obtain ⟨A,h1,h2,h3⟩:=DH C (C.length-1) (by omega)
 have e:C.length-1+1=C.length:=by omega
 rw [e,List.drop_length,List.append_nil] at h1
 rw [e,List.take_length] at h2
 unfold qS
 rw [h1]
 exact ⟨h2,h3⟩
variable {L:List Pt} {Hs:List (List Pt)}
theorem Bx (h:da L Hs):dE L Hs≠[]:=oq h.rgs Hs.length
theorem pa (h:da L Hs):(dE L Hs).Nodup:=by
 have hap:zc (L::Hs):=by
  refine ⟨fun i hi=> ?_,fun i j hij hi=> ?_⟩
  ·rw [ae,af hi];exact oT h (bx hi)
  ·rw [nZ]
   ·cases i with
    |zero=>omega
    |succ i=>
     have hi':i<Hs.length:=by simpa using hi
     have gi:(L::Hs).getD (i+1) []=Hs[i]:=by rw [aB,ae,af hi'];rfl
     rw [gi]
     cases j with
     |zero=>exact h.mo _ (bx hi')
     |succ j=>
      have hj':j<Hs.length:=by omega
      have gj:(L::Hs).getD (j+1) []=Hs[j]:=by rw [aB,ae,af hj'];rfl
      rw [gj]
      exact (bN.1 h.pw j i hj' hi' (by omega)).nm.symm
   ·rw [ae,af hi];exact oT h (bx hi)
   ·rw [ae,af (by omega)];exact oT h (bx _)
 exact hap.nodup _ (ax _)
def gW (L:List Pt) (Hs:List (List Pt)):List Pt:=qS (dE L Hs)
theorem pU (h:da L Hs):(gW L Hs).Perm (dE L Hs):=(Jx (Bx h)).1
theorem Gu (h:da L Hs):(gW L Hs).Pairwise fun p q=>bO p q<0:=by
 have h1:=(Jx (Bx h)).2
 have h2:(gW L Hs).Nodup:=(pU h).nodup_iff.2 (pa h)
 refine (h1.and h2).imp ?_
 rintro p q ⟨k1,k2⟩
 have:bO p q≠0:=fun e=>k2 (c7.1 e)
 omega
theorem m9 (h:da L Hs) {c:Pt}:c∈gW L Hs↔c∈dE L Hs:=(pU h).mem_iff
theorem uz (h:da L Hs) {u v:Pt} (hu:u∈dE L Hs) (hv:v∈dE L Hs) (hlt:bO u v<0):∃ x∈fL (gW L Hs).length (gW L Hs).length,prS (gW L Hs) x=⟨u,v⟩:=by
 obtain ⟨i,hi,rfl⟩:=bK.1 ((m9 h).2 hu)
 obtain ⟨k,hk,rfl⟩:=bK.1 ((m9 h).2 hv)
 have hik:i<k:=by
  rcases Nat.lt_trichotomy i k with j|j|j
  ·exact j
  ·subst j;rw [iZ] at hlt;omega
  ·have:=bN.1 (Gu h) k i hk hi j
   have:= @io (gW L Hs)[k] (gW L Hs)[i]
   omega
 refine ⟨(i,k),mD.2 ⟨hi,hik,hk⟩,?_⟩
 unfold prS
 simp only [ae,af hi,af hk,bG]
theorem wh (h:da L Hs) {x:Nat×Nat} (hx:x∈fL (gW L Hs).length (gW L Hs).length):bO (prS (gW L Hs) x).a (prS (gW L Hs) x).b<0∧(prS (gW L Hs) x).a∈dE L Hs∧(prS (gW L Hs) x).b∈dE L Hs:=by
 obtain ⟨h1,h2,h3⟩:=mD.1 hx
 unfold prS
 simp only [ae,af h1,af h3,bG]
 exact ⟨bN.1 (Gu h) _ _ h1 h3 h2,(m9 h).1 (bx h1),(m9 h).1 (bx h3)⟩
theorem KY {l:List Pt} (h:jo l) {q:Pt}:fI l q=1↔¬onE l q∧bW l q l.length=true:=by
 unfold fI
 by_cases k:onB l q=true
 ·rw [if_pos k];exact ⟨fun e=>(by cases e),fun e=>absurd ((r9 h q).1 k) e.1⟩
 ·have k':¬onE l q:=fun j=>k ((r9 h q).2 j)
  rw [if_neg k]
  by_cases o:bW l q l.length=true
  ·rw [if_pos o];exact ⟨fun _=>⟨k',o⟩,fun _=>rfl⟩
  ·rw [if_neg o];exact ⟨fun e=>(by cases e),fun e=>absurd e.2 o⟩
theorem CU {l:List Pt} (h:jo l) {q:Pt}:fI l q= -1↔¬onE l q∧bW l q l.length=false:=by
 unfold fI
 by_cases k:onB l q=true
 ·rw [if_pos k];exact ⟨fun e=>(by cases e),fun e=>absurd ((r9 h q).1 k) e.1⟩
 ·have k':¬onE l q:=fun j=>k ((r9 h q).2 j)
  rw [if_neg k]
  by_cases o:bW l q l.length=true
  ·rw [if_pos o];exact ⟨fun e=>(by cases e),fun e=>(by rw [o] at e;cases e.2)⟩
  ·rw [if_neg o];exact ⟨fun _=>⟨k',by simpa using o⟩,fun _=>rfl⟩
def inP (L:List Pt) (Hs:List (List Pt)) (q:Pt):Prop:=gE L Hs q=1
theorem pL (h:da L Hs) {q:Pt}:inP L Hs q↔(∀ e∈kr L Hs,¬aJ e.a e.b q)∧bW L q L.length=true∧∀ x∈Hs,bW x q x.length=false:=by
 unfold inP
 rw [KJ h,KY h.out]
 constructor
 ·rintro ⟨⟨h1,h2⟩,h3⟩
  have h4:=fun x hx=>(CU (h.holes x hx)).1 (h3 x hx)
  refine ⟨fun e he k=> ?_,h2,fun x hx=>(h4 x hx).2⟩
  obtain ⟨l,hl,he'⟩:=nI he
  rcases ay.1 hl with e1|e1
  ·rw [e1] at he';exact h1 ⟨e,he',k⟩
  ·exact (h4 l e1).1 ⟨e,he',k⟩
 ·rintro ⟨h1,h2,h3⟩
  exact ⟨⟨fun ⟨e,he,k⟩=>h1 e (kY (ah ..) he) k,h2⟩,fun x hx=>(CU (h.holes x hx)).2 ⟨fun ⟨e,he,k⟩=>h1 e (kY (ag _ hx) he) k,h3 x hx⟩⟩
theorem sd {l:List Pt} {p q:Pt} (hc:∀ e∈aU l,¬ez p q e.a e.b):bW l p l.length=bW l q l.length:=
 qf fun j hj=>hc (b9 l j) (kC hj)
theorem GP (h:da L Hs) {p q:Pt} (hc:∀ e∈kr L Hs,¬ez p q e.a e.b) (hp:inP L Hs p):inP L Hs q:=by
 rw [pL h] at*
 refine ⟨fun e he k=>hc e he ⟨q,mI _ _,k⟩,?_,fun x hx=> ?_⟩
 ·rw [←sd fun e he=>hc e (kY (ah ..) he)];exact hp.2.1
 ·rw [←sd fun e he=>hc e (kY (ag _ hx) he)];exact hp.2.2 x hx
theorem wk {u v P:Pt} (h:aJ u v P):(P.x≤u.x∨P.x≤v.x)∧(u.x≤P.x∨v.x≤P.x)∧(P.y≤u.y∨P.y≤v.y)∧(u.y≤P.y∨v.y≤P.y):=by
 obtain ⟨m,m0,m1,rfl⟩:=h
 unfold pt
 try simp only
 have key:∀ a b:Rat,(a+m*(b-a)≤a∨a+m*(b-a)≤b)∧(a≤a+m*(b-a)∨b≤a+m*(b-a)):=by
  intro a b
  by_cases k:a≤b
  ·have h1:=aj m0 (show 0≤b-a by grind)
   have h2:=aj (show 0≤1-m by grind) (show 0≤b-a by grind)
   exact ⟨.inr (by grind),.inl (by grind)⟩
  ·have h1:=aj m0 (show 0≤a-b by grind)
   have h2:=aj (show 0≤1-m by grind) (show 0≤a-b by grind)
   exact ⟨.inl (by grind),.inr (by grind)⟩
 exact ⟨(key _ _).1,(key _ _).2,(key _ _).1,(key _ _).2⟩
theorem vh {l:List Pt} {p:Pt} (hx:(∀ v∈l,v.x<p.x)∨(∀ v∈l,p.x<v.x)):bW l p l.length=false:=by
 obtain ⟨Y,hY⟩:=yY (p.y::l.map Pt.y)
 have hY1:=hY _ (ah ..)
 have hY2:∀ v∈l,v.y<Y:=fun v hv=>hY _ (ag _ (av.2 ⟨v,hv,rfl⟩))
 rw [sd (q:=⟨p.x,Y⟩)]
 ·exact zx fun v hv=>ai (hY2 v hv)
 ·rintro e he ⟨P,p1,p2⟩
  obtain ⟨ea,eb⟩:=j6 he
  have b1:=wk p1
  have b2:=wk p2
  simp only at b1
  rcases hx with hx|hx
  ·have:=hx _ ea;have:=hx _ eb
   grind
  ·have:=hx _ ea;have:=hx _ eb
   grind
theorem LB {l:List Pt} {p:Pt} (hy:∀ v∈l,p.y<v.y):bW l p l.length=false:=by
 obtain ⟨X,hX⟩:=yY (l.map Pt.x)
 have hX2:∀ v∈l,v.x<X:=fun v hv=>hX _ (av.2 ⟨v,hv,rfl⟩)
 rw [sd (q:=⟨X,p.y⟩)]
 ·exact vh (.inl fun v hv=>hX2 v hv)
 ·rintro e he ⟨P,p1,p2⟩
  obtain ⟨ea,eb⟩:=j6 he
  have b1:=wk p1
  have b2:=wk p2
  simp only at b1
  have:=hy _ ea;have:=hy _ eb
  grind
theorem zE (h:da L Hs) {q:Pt} (ho:bW L q L.length=false):¬inP L Hs q:=fun k=>by
 have:=((pL h).1 k).2.1
 rw [ho] at this;cases this
theorem QB (h:da L Hs) (p v:Pt) (hv:v≠⟨0,0⟩):∃ t:Rat,0≤t∧¬inP L Hs ⟨p.x+t*v.x,p.y+t*v.y⟩:=by
 obtain ⟨X,hX⟩:=yY (p.x::L.map Pt.x)
 obtain ⟨X',hX'⟩:=yY ((-p.x)::L.map fun q=> -q.x)
 obtain ⟨Y,hY⟩:=yY (p.y::L.map Pt.y)
 obtain ⟨Y',hY'⟩:=yY ((-p.y)::L.map fun q=> -q.y)
 have x1:=hX _ (ah ..);have x2:∀ q∈L,q.x<X:=fun q hq=>hX _ (ag _ (av.2 ⟨q,hq,rfl⟩))
 have x3:=hX' _ (ah ..);have x4:∀ q∈L, -q.x<X':=fun q hq=>hX' _ (ag _ (av.2 ⟨q,hq,rfl⟩))
 have y1:=hY _ (ah ..);have y2:∀ q∈L,q.y<Y:=fun q hq=>hY _ (ag _ (av.2 ⟨q,hq,rfl⟩))
 have y3:=hY' _ (ah ..);have y4:∀ q∈L, -q.y<Y':=fun q hq=>hY' _ (ag _ (av.2 ⟨q,hq,rfl⟩))
 have dv:∀ {a b:Rat},0<a→b≠0→(0<b)→0≤a/b∧a/b*b=a:=fun {a b} ha hb hp=>⟨ai (by rw [Rat.lt_div_iff hp];grind),Rat.div_mul_cancel hb⟩
 by_cases k1:0<v.x
 ·obtain ⟨d1,d2⟩:=dv (a:=X-p.x) (by grind) (by grind) k1
  refine ⟨_,d1,zE h (vh (.inl fun q hq=> ?_))⟩
  simp only [d2]
  have:=x2 q hq;grind
 by_cases k2:v.x<0
 ·obtain ⟨d1,d2⟩:=dv (a:=X'+p.x) (b:= -v.x) (by grind) (by grind) (by grind)
  refine ⟨_,d1,zE h (vh (.inr fun q hq=> ?_))⟩
  try simp only
  have:(X'+p.x)/ -v.x*v.x= -(X'+p.x):=by grind
  rw [this]
  have:=x4 q hq;grind
 have kx:v.x=0:=by grind
 by_cases k3:0<v.y
 ·obtain ⟨d1,d2⟩:=dv (a:=Y-p.y) (by grind) (by grind) k3
  refine ⟨_,d1,zE h (zx fun q hq=> ?_)⟩
  simp only [d2]
  have:=y2 q hq;grind
 by_cases k4:v.y<0
 ·obtain ⟨d1,d2⟩:=dv (a:=Y'+p.y) (b:= -v.y) (by grind) (by grind) (by grind)
  refine ⟨_,d1,zE h (LB fun q hq=> ?_)⟩
  try simp only
  have:(Y'+p.y)/ -v.y*v.y= -(Y'+p.y):=by grind
  rw [this]
  have:=y4 q hq;grind
 exact absurd (Pt.ext (by simp only;grind) (by simp only;grind)) hv
theorem Kg (h:da L Hs) {u v:Pt} (hu:u∈dE L Hs) (hv:v∈dE L Hs) (hlt:bO u v<0) (hf:nL (fU L Hs) u v) (hm:inP L Hs (pt u v (1/2))):(⟨u,v⟩:Sg)∈gX L Hs:=by
 have hne:u≠v:=fun e=>by subst e;rw [iZ] at hlt;omega
 have ok:(⟨u,v⟩:Sg).ok:=Ay.2 hne
 have half:∀ {s:Sg} {P Q:Pt},s∈fU L Hs→P≠Q→aJ s.a s.b P→aJ u v P→aJ s.a s.b Q→aJ u v Q→False:=by
  intro s P Q hs hPQ p1 p2 q1 q2
  have mid:aJ s.a s.b (pt P Q (1/2))∧aJ u v (pt P Q (1/2)):=by
   have cv:∀ {a b:Pt},aJ a b P→aJ a b Q→aJ a b (pt P Q (1/2)):=by
    rintro a b ⟨m,m0,m1,rfl⟩ ⟨n,n0,n1,rfl⟩
    exact ⟨m+1/2*(n-m),by grind,by grind,pn ..⟩
   exact ⟨cv p1 q1,cv p2 q2⟩
  have ep:=hf s hs P p1 p2
  have eq:=hf s hs Q q1 q2
  have em:=hf s hs _ mid.1 mid.2
  have m1:pt P Q (1/2)=P→False:=fun e=>hPQ (by
   have h1:=congrArg Pt.x e;have h2:=congrArg Pt.y e
   unfold pt at h1 h2;simp only at h1 h2
   exact Pt.ext (by grind) (by grind))
  have m2:pt P Q (1/2)=Q→False:=fun e=>hPQ (by
   have h1:=congrArg Pt.x e;have h2:=congrArg Pt.y e
   unfold pt at h1 h2;simp only at h1 h2
   exact Pt.ext (by grind) (by grind))
  rcases ep with rfl|rfl<;>rcases eq with rfl|rfl
  ·exact hPQ rfl
  ·rcases em with e|e
   ·exact m1 e
   ·exact m2 e
  ·rcases em with e|e
   ·exact m2 e
   ·exact m1 e
  ·exact hPQ rfl
 have hb:pe (kr L Hs) ⟨u,v⟩=false:=by
  refine lQ fun i hi=> ?_
  rw [ae,af hi]
  simp only [bG]
  have he:=bx hi
  generalize (kr L Hs)[i]=e at he
  have hs:e∈fU L Hs:=bg _ he
  unfold mG
  cases hm:iI ⟨u,v⟩ e with
  |none=>rfl
  |some m=>
   obtain ⟨⟨a1,a2⟩,b1,b2⟩:=tA hm
   simp only [Option.isSome_some,bG,Bool.true_and]
   have e1:m.a=m.b:=Classical.byContradiction fun hn=>half hs hn a2 a1 b2 b1
   rw [ak (fun k=>k e1),Bool.false_or]
   rcases hf e hs m.a a2 a1 with k|k
   ·rw [ak (fun j=>j k),Bool.false_and]
   ·rw [ak (fun j:m.a≠v=>j k),Bool.and_false]
 have hD:kN L Hs ⟨u,v⟩=(true,0):=by
  unfold kN
  rw [if_neg ok,if_pos ⟨hu,hv⟩]
  have:pe (eN (L::Hs) (Hs.length+1)) ⟨u,v⟩=false:=hb
  rw [this]
  have hw:gE L Hs (u.at v (1/2))=1:=by rw [yZ];exact hm
  simp only [hw]
  rfl
 obtain ⟨x,hx,e⟩:=uz h hu hv hlt
 have:=xQ (kN L Hs) (gW L Hs) (x:=x) (by rw [e];exact hD) _ [] hx
 rw [e] at this
 rcases this with k|⟨t,ht,hc⟩
 ·exact k
 ·exfalso
  have ht:t∈gX L Hs:=ht
  obtain ⟨P,p1,p2,n1,n2,_⟩:=DZ hc
  rcases hf t (bC _ ht) P p2 p1 with k|k
  ·exact n1 k
  ·exact n2 k
theorem region (h:da L Hs):Region (dE L Hs) (fU L Hs) (inP L Hs):=by
 refine ⟨pT h,fun p q hc hp=>GP h (fun e he=>hc e (bg _ he)) hp,QB h,fun u hu v hv hne hf hm=> ?_⟩
 have hz:bO u v≠0:=fun e=>hne (c7.1 e)
 by_cases hlt:bO u v<0
 ·exact ⟨_,bC _ (Kg h hu hv hlt hf hm),.inl rfl⟩
 ·have hlt':bO v u<0:=by have:= @io u v;omega
  refine ⟨⟨v,u⟩,bC _ (Kg h hv hu hlt' (fun s hs P p1 p2=>(hf s hs P p1 (cH p2)).symm) ?_),.inr rfl⟩
  have e:pt v u (1/2)=pt u v (1/2):=Pt.ext (by unfold pt;simp only;grind) (by unfold pt;simp only;grind)
  rw [e];exact hm
end Go.Av
