/- Helping texts: Ng, Nh, Ni. -/
import Derived.Test.YtkmlhdfpcjkekaaGreatKNe
set_option linter.unusedSimpArgs false
set_option linter.unusedVariables false
set_option maxRecDepth 100000
set_option maxHeartbeats 16000000
namespace Go.Av
variable {C:List Pt} {S:List Sg} {a b m:Pt}
def Leg (S:List Sg) (u v:Pt):Prop:=∀ s∈S,∀ P,aJ s.a s.b P→aJ u v P→eF s ⟨u,v⟩∨(P=s.a∨P=s.b)∧(P=u∨P=v)
theorem Leg.symm {u v:Pt} (h:Leg S u v):Leg S v u:=fun s hs P h1 h2=>by
 rcases h s hs P h1 (cH h2) with k|⟨k1,k2⟩
 ·left
  rcases k with rfl|rfl
  ·exact .inr rfl
  ·exact .inl rfl
 ·exact .inr ⟨k1,k2.symm⟩
theorem n9 (n:Net C S) {u v:Pt} (h:∃ s∈S,eF s ⟨u,v⟩):Leg S u v:=fun s hs P h1 h2=>by
 obtain ⟨t,ht,k⟩:=h
 rcases n.cross s hs t ht P h1 ((kH k).2 h2) with g|⟨g1,g2⟩
 ·left
  rcases k with rfl|rfl
  ·exact g
  ·rcases g with rfl|rfl
   ·exact .inr rfl
   ·exact .inl rfl
 ·refine .inr ⟨g1,?_⟩
  rcases k with rfl|rfl
  ·exact g2
  ·exact g2.symm
theorem tH (n:Net C S) {u v:Pt} (hu:u∈C) (hv:v∈C) (h:nL S u v):Leg S u v:=fun s hs P h1 h2=>by
 have k:=h s hs P h1 h2
 refine .inr ⟨n.on s hs P ?_ h1,k⟩
 rcases k with k|k<;>rw [k]<;>assumption
structure InO (p q r w:Pt):Prop where
 a:0<ar p q w
 b:0<ar q r w
 c:0<ar r p w
theorem InO.rot {p q r w:Pt} (h:InO p q r w):InO q r p w:=⟨h.b,h.c,h.a⟩
theorem InO.le {p q r w:Pt} (h:InO p q r w):InT p q r w:=⟨ai h.a,ai h.b,ai h.c⟩
theorem InO.pos {p q r w:Pt} (h:InO p q r w):0<ar p q r:=by
 have:=BN p q r w;have:=h.a;have:=h.b;have:=h.c;grind
theorem InT.on1 {p q r w:Pt} (h:0<ar p q r) (hw:InT p q r w) (n:¬aJ p q w):0<ar p q w:=by
 rcases cf hw.a with k|k
 ·exact k
 ·exact absurd (kM h k.symm hw.b hw.c) n
theorem exit {p q r z f:Pt} (hz:InO p q r z) (n1:¬ez z f p q) (n2:¬ez z f q r) (n3:¬ez z f r p):InO p q r f:=by
 have hA:=hz.pos
 have key:InT p q r f:=by
  have b1:=BN p q r z
  have b2:=BN p q r f
  rcases qlt (ar q r f) (ar q r z) with k1|k1
  ·rcases qlt (ar r p f) (ar r p z) with k2|k2
   ·have:=stay (p:=r) (q:=p) (r:=q) (by rw [iu];exact hA) hz.rot.rot.le hz.a (f:=f) (by grind) n3 n2
    exact this.rot
   ·have:=stay (p:=q) (q:=r) (r:=p) (by rw [ld];exact hA) hz.rot.le hz.c (f:=f) k2 n2 n1
    exact this.rot.rot
  ·exact stay hA hz.le hz.b k1 n1 n3
 refine ⟨key.on1 hA fun k=>n1 ⟨f,mI _ _,k⟩,?_,?_⟩
 ·exact key.rot.on1 (by rw [ld];exact hA) fun k=>n2 ⟨f,mI _ _,k⟩
 ·exact key.rot.rot.on1 (by rw [iu];exact hA) fun k=>n3 ⟨f,mI _ _,k⟩
structure TrE (C:List Pt) (S:List Sg) (p q r:Pt):Prop where
 pos:0<ar p q r
 mp:p∈C
 mq:q∈C
 mr:r∈C
 l1:Leg S p q
 l2:Leg S q r
 l3:Leg S r p
 emp:∀ f∈C,InT p q r f→f=p∨f=q∨f=r
theorem TrE.rot {p q r:Pt} (h:TrE C S p q r):TrE C S q r p:=⟨by rw [ld];exact h.pos,h.mq,h.mr,h.mp,h.l2,h.l3,h.l1,fun f hf hin=>by
 rcases h.emp f hf hin.rot.rot with k|k|k
 ·exact .inr (.inr k)
 ·exact .inl k
 ·exact .inr (.inl k)⟩
theorem vX {p q r z:Pt} {s:Sg} (hz:InO p q r z) (hs:aJ s.a s.b z):¬eF s ⟨p,q⟩:=fun k=>by
 have:=iv ((kH k).1 hs)
 have h:=hz.a
 simp only at this
 rw [this] at h;exact aL h
theorem TrE.noSide (n:Net C S) {p q r:Pt} (h:TrE C S p q r) {s:Sg} (hs:s∈S) {z:Pt} (hz:InO p q r z) (hon:aJ s.a s.b z):False:=by
 have vert:∀ f,(f=p∨f=q∨f=r)→ar p q f=0∨ar r p f=0:=fun f hf=>by
  rcases hf with k|k|k<;>rw [k]
  ·exact .inl (pk _ _)
  ·exact .inl (pj _ _)
  ·exact .inr (pk _ _)
 have notO:∀ f∈C,¬InO p q r f:=fun f hf hi=>by
  rcases vert f (h.emp f hf hi.le) with k|k
  ·have:=hi.a;rw [k] at this;exact aL this
  ·have:=hi.c;rw [k] at this;exact aL this
 have za:z≠s.a:=fun e=>notO s.a (n.ea s hs) (by rw [←e];exact hz)
 have zb:z≠s.b:=fun e=>notO s.b (n.eb s hs) (by rw [←e];exact hz)
 have ends:∀ e,(e=s.a∨e=s.b)→e=p∨e=q∨e=r:=fun e he=>by
  refine Classical.byContradiction fun hn=> ?_
  have eC:e∈C:=by rcases he with k|k<;>rw [k];exact n.ea s hs;exact n.eb s hs
  have no:∀ {u v w},InO u v w z→Leg S u v→(e≠u)→(e≠v)→¬ez z e u v:=fun {u v w} hi hl h1 h2=>by
   rintro ⟨P,k1,k2⟩
   rcases hl s hs P (rq he hon k1) k2 with k|⟨k3,k4⟩
   ·exact vX hi hon k
   ·have:=EE (n.ne s hs) he hon za zb k1 k3
    rw [this] at k4
    rcases k4 with k|k
    ·exact h1 k
    ·exact h2 k
  have hn':e≠p∧e≠q∧e≠r:=⟨fun k=>hn (.inl k),fun k=>hn (.inr (.inl k)),fun k=>hn (.inr (.inr k))⟩
  exact notO e eC (exit hz (no hz h.l1 hn'.1 hn'.2.1) (no hz.rot h.l2 hn'.2.1 hn'.2.2) (no hz.rot.rot h.l3 hn'.2.2 hn'.1))
 have hne:=n.ne s hs
 have ea:=ends s.a (.inl rfl)
 have eb:=ends s.b (.inr rfl)
 have s1:¬eF s ⟨p,q⟩:=vX hz hon
 have s2:¬eF s ⟨q,r⟩:=vX hz.rot hon
 have s3:¬eF s ⟨r,p⟩:=vX hz.rot.rot hon
 cases s with|mk sa sb=> ?_
 simp only at ea eb hne
 rcases ea with rfl|rfl|rfl<;>rcases eb with rfl|rfl|rfl
 ·exact hne rfl
 ·exact s1 (.inl rfl)
 ·exact s3 (.inr rfl)
 ·exact s1 (.inr rfl)
 ·exact hne rfl
 ·exact s2 (.inl rfl)
 ·exact s3 (.inl rfl)
 ·exact s2 (.inr rfl)
 ·exact hne rfl
theorem InO.toward {p q r w P:Pt} (hw:InO p q r w) (h:aJ w p P) (hne:P≠p):InO p q r P:=by
 obtain ⟨n,n0,n1,e⟩:=h
 have k1:0<1-n:=by
  rcases cf n1 with k|k
  ·grind
  ·rw [k,kD] at e;exact absurd e hne
 have hA:=hw.pos
 rw [e]
 refine ⟨?_,?_,?_⟩
 ·rw [bm,cL];have:=au k1 hw.a;grind
 ·rw [bm,ld p q r];have:=au k1 hw.b;have:=aj n0 (ai hA);grind
 ·rw [bm,cw];have:=au k1 hw.c;grind
structure TrS (C:List Pt) (S:List Sg) (p q r:Pt):Prop extends TrE C S p q r where
 s1:∃ s∈S,eF s ⟨p,q⟩
 s2:∃ s∈S,eF s ⟨q,r⟩
 s3:∃ s∈S,eF s ⟨r,p⟩
theorem TrS.rot {p q r:Pt} (h:TrS C S p q r):TrS C S q r p:={ h.toTrE.rot with s1:=h.s2,s2:=h.s3,s3:=h.s1 }
theorem TrS.vert (n:Net C S) {p q r u v w x:Pt} (h:TrS C S p q r) (k:TrE C S u v w) (hx:InO p q r x) (kx:InO u v w x):u=p∨u=q∨u=r:=by
 refine h.emp u k.mp ?_
 refine Classical.byContradiction fun hn=> ?_
 have no:∀ {i j:Pt},(∃ s∈S,eF s ⟨i,j⟩)→(aJ i j u→InT p q r u)→¬ez x u i j:=fun {i j} hs hon=>by
  rintro ⟨P,k1,k2⟩
  obtain ⟨s,hs,e⟩:=hs
  have hPs:=(kH e).2 k2
  by_cases hPu:P=u
  ·exact hn (hon (by rw [←hPu];exact k2))
  ·exact k.noSide n hs (kx.toward k1 hPu) hPs
 have side:∀ {i j l:Pt},0<ar i j l→aJ i j u→InT i j l u:=fun {i j l} hA ⟨c,c0,c1,e⟩=>by
  rw [e]
  refine ⟨?_,?_,?_⟩
  ·rw [bm,cL,cw];grind
  ·rw [bm,ld i j l,cL];have:=aj (show 0≤1-c by grind) (ai hA);grind
  ·rw [bm,cw,iu i j l];have:=aj c0 (ai hA);grind
 have hA:=h.pos
 exact hn (exit hx (no h.s1 fun k=>side hA k) (no h.s2 fun k=>(side (l:=p) (by rw [ld];exact hA) k).rot.rot) (no h.s3 fun k=>(side (l:=q) (by rw [iu];exact hA) k).rot)).le
theorem TrS.same (n:Net C S) {p q r u v w x:Pt} (h:TrS C S p q r) (k:TrS C S u v w) (hx:InO p q r x) (kx:InO u v w x):(u=p∧v=q∧w=r)∨(u=q∧v=r∧w=p)∨(u=r∧v=p∧w=q):=by
 have h1:=h.vert n k.toTrE hx kx
 have h2:=h.vert n k.toTrE.rot hx kx.rot
 have h3:=h.vert n k.toTrE.rot.rot hx kx.rot.rot
 have hA:=k.pos
 have hB:=h.pos
 have n1:∀ i j,ar i i j=0:=fun i j=>by unfold ar;grind
 have d1:u≠v:=fun e=>by rw [e,n1] at hA;exact aL hA
 have d2:w≠u:=fun e=>by rw [e,cL] at hA;exact aL hA
 have d3:v≠w:=fun e=>by rw [e,cw] at hA;exact aL hA
 have n4:¬(u=q∧v=p∧w=r):=fun ⟨e1,e2,e3⟩=>by rw [e1,e2,e3,uM] at hA;grind
 have n5:¬(u=p∧v=r∧w=q):=fun ⟨e1,e2,e3⟩=>by
  rw [e1,e2,e3] at hA
  have:ar p r q= -ar p q r:=by unfold ar;grind
  grind
 have n6:¬(u=r∧v=q∧w=p):=fun ⟨e1,e2,e3⟩=>by
  rw [e1,e2,e3] at hA
  have:ar r q p= -ar p q r:=by unfold ar;grind
  grind
 clear hA hB hx kx h k n n1
 grind
theorem Eye.tr (h:Eye C S a b m) {c:Pt} (hc:Mw C S a b m c):TrE C S a b c:=by
 have mC:∀ g,(g=a∨g=b)→g∈C:=fun g hg=>by
  obtain ⟨t,ht,k⟩:=h.side
  have k1:=h.net.ea t ht
  have k2:=h.net.eb t ht
  rcases k with rfl|rfl<;>rcases hg with rfl|rfl<;>assumption
 have leg:∀ g,(g=a∨g=b)→Leg S g c:=fun g hg=>by
  rcases h.leg hc hg with k|k
  ·exact n9 h.net k
  ·exact tH h.net (mC g hg) hc.mem k
 exact ⟨hc.pos,mC a (.inl rfl),mC b (.inr rfl),hc.mem,n9 h.net h.side,leg b (.inr rfl),(leg a (.inl rfl)).symm,fun f hf hin=>h.empty hc hf hin⟩
end Go.Av
namespace Go.Av
variable {C:List Pt} {S:List Sg} {I:Pt→Prop} {a b:Pt}
structure Region (C:List Pt) (S:List Sg) (I:Pt→Prop):Prop where
 net:Net C S
 stay:∀ p q,(∀ s∈S,¬ez p q s.a s.b)→I p→I q
 far:∀ p v:Pt,v≠⟨0,0⟩→∃ t:Rat,0≤t∧¬I ⟨p.x+t*v.x,p.y+t*v.y⟩
 max:∀ u∈C,∀ v∈C,u≠v→nL S u v→I (pt u v (1/2))→∃ s∈S,eF s ⟨u,v⟩
def zn (S:List Sg) (m w:Pt):Prop:=∀ s∈S,∀ P,aJ s.a s.b P→aJ m w P→P=m
def Dir (S:List Sg) (I:Pt→Prop) (a b:Pt):Prop:=(∃ s∈S,eF s ⟨a,b⟩)∧∃ u w,0<u∧u<1∧0<ar a b w∧I w∧zn S (pt a b u) w
theorem InO.seg {p q r P w Q:Pt} (hw:InO p q r w) (hP:InT p q r P) (h:aJ P w Q) (hne:Q≠P):InO p q r Q:=by
 obtain ⟨k,k0,k1,e⟩:=h
 have kp:0<k:=by
  rcases cf k0 with g|g
  ·exact g
  ·rw [←g,iH] at e;exact absurd e hne
 rw [e]
 refine ⟨?_,?_,?_⟩
 ·rw [bm];have:=au kp hw.a;have:=aj (show 0≤1-k by grind) hP.a;grind
 ·rw [bm];have:=au kp hw.b;have:=aj (show 0≤1-k by grind) hP.b;grind
 ·rw [bm];have:=au kp hw.c;have:=aj (show 0≤1-k by grind) hP.c;grind
theorem InO.conv {p q r P w Q:Pt} (hw:InO p q r w) (hP:InO p q r P) (h:aJ P w Q):InO p q r Q:=by
 by_cases e:Q=P
 ·rw [e];exact hP
 ·exact hw.seg hP.le h e
theorem EC {p q r:Pt} (hA:0<ar p q r) {n:Rat} (n0:0≤n) (n1:n≤1):InT p q r (pt p q n):=by
 refine ⟨?_,?_,?_⟩
 ·rw [bm,cL,cw];grind
 ·rw [bm,ld p q r,cL];have:=aj (show 0≤1-n by grind) (ai hA);grind
 ·rw [bm,cw,iu p q r];have:=aj n0 (ai hA);grind
theorem zk {f:Rat} (g:Rat) (h:0<f):∃ e,0<e∧e≤1∧∀ x,0≤x→x≤e→0<(1-x)*f+x*g:=by
 rcases qlt g 0 with k|k
 ·obtain ⟨m,m0,m1,me,mx⟩:=oM (ai h) k
  have mp:0<m:=by
   rcases cf m0 with j|j
   ·exact j
   ·rw [←j] at me;grind
  refine ⟨m/2,by grind,by grind,fun x x0 x1=> ?_⟩
  have:=mx x (by grind)
  grind
 ·refine ⟨1/2,by decide+kernel,by decide+kernel,fun x x0 x1=> ?_⟩
  have:=au (show 0<1-x by grind) h
  have:=aj x0 k
  grind
theorem Region.eye (R:Region C S I) (hs:∃ s∈S,eF s ⟨a,b⟩) {u:Rat} (u0:0<u) (u1:u<1):Eye C S a b (pt a b u):=
 ⟨R.net,hs,u,u0,u1,rfl⟩
theorem P8 {p q:Pt} {s:Sg} {P:Pt} (h:aJ s.a s.b P) (ha:ar p q s.a≤0) (hb:ar p q s.b≤0):ar p q P≤0:=by
 obtain ⟨n,n0,n1,e⟩:=h
 rw [e,bm]
 have:=aj (show 0≤1-n by grind) (show 0≤ -ar p q s.a by grind)
 have:=aj n0 (show 0≤ -ar p q s.b by grind)
 grind
theorem Region.corner (R:Region C S I) (h:Dir S I a b):∃ e∈C,0<ar a b e:=by
 refine Classical.byContradiction fun hn=> ?_
 have hle:∀ e∈C,ar a b e≤0:=fun e he=>by
  rcases qlt 0 (ar a b e) with k|k
  ·exact absurd ⟨e,he,k⟩ hn
  ·exact k
 obtain ⟨_,u,w,u0,u1,hw,hI,_⟩:=h
 have m0:ar a b (pt a b u)=0:=by rw [jn,pk,pj];grind
 obtain ⟨t,t0,ht⟩:=R.far w ⟨w.x-(pt a b u).x,w.y-(pt a b u).y⟩ (fun e=>by
  have e1:=congrArg Pt.x e
  have e2:=congrArg Pt.y e
  simp only at e1 e2
  have:w=pt a b u:=Pt.ext (by grind) (by grind)
  rw [this,m0] at hw;exact aL hw)
 have ef:(⟨w.x+t*(w.x-(pt a b u).x),w.y+t*(w.y-(pt a b u).y)⟩:Pt)=pt (pt a b u) w (1+t):=by
  generalize pt a b u=m
  refine Pt.ext ?_ ?_<;>(unfold pt;simp only;grind)
 refine ht (R.stay w _ (fun s hs ⟨P,k1,k2⟩=> ?_) hI)
 have hP:=P8 k2 (hle _ (R.net.ea s hs)) (hle _ (R.net.eb s hs))
 simp only [ef] at k1
 obtain ⟨n,n0,n1,e⟩:=k1
 rw [e,bm,bm,m0] at hP
 have:=aj (aj n0 t0) (ai hw)
 grind
theorem TrE.allI (R:Region C S I) {p q r w x:Pt} (h:TrE C S p q r) (hw:InO p q r w) (hI:I w) (hx:InO p q r x):I x:=
 R.stay w x (fun s hs ⟨P,k1,k2⟩=>h.noSide R.net hs (hx.conv hw k1) k2) hI
theorem TrE.legSide (R:Region C S I) {p q r w:Pt} (h:TrE C S p q r) (hw:InO p q r w) (hI:I w) (hf:nL S p q):∃ s∈S,eF s ⟨p,q⟩:=by
 have hne:p≠q:=fun e=>by
  have:=h.pos
  have z:ar q q r=0:=by unfold ar;grind
  rw [e,z] at this;exact aL this
 have hi:=EC h.pos (n:=1/2) (by decide+kernel) (by decide+kernel)
 refine R.max p h.mp q h.mq hne hf (R.stay w _ (fun s hs ⟨P,k1,k2⟩=> ?_) hI)
 by_cases e:P=pt p q (1/2)
 ·rcases hf s hs P k2 (by rw [e];exact tl (by decide+kernel) (by decide+kernel)) with k|k
  ·have:=jt hne (e.symm.trans (k.trans (iH p q).symm));exact absurd this (by decide+kernel)
  ·have:=jt hne (e.symm.trans (k.trans (kD p q).symm));exact absurd this (by decide+kernel)
 ·exact h.noSide R.net hs (hw.seg hi (cH k1) e) k2
theorem TrE.dir (R:Region C S I) {p q r w:Pt} (h:TrE C S p q r) (hw:InO p q r w) (hI:I w) (hs:∃ s∈S,eF s ⟨p,q⟩):Dir S I p q:=by
 refine ⟨hs,1/2,w,by decide+kernel,by decide+kernel,hw.a,hI,fun s hs P k1 k2=> ?_⟩
 refine Classical.byContradiction fun e=> ?_
 exact h.noSide R.net hs (hw.seg (EC h.pos (by decide+kernel) (by decide+kernel)) k2 e) k1
theorem Region.tri (R:Region C S I) (h:Dir S I a b):∃ c,TrS C S a b c∧Dir S I b c∧Dir S I c a∧∀ x,InO a b c x→I x:=by
 have hex:=R.corner h
 obtain ⟨hs,u,w,u0,u1,hw,hI,ho⟩:=h
 have E:=R.eye hs u0 u1
 obtain ⟨c,hc⟩:=E.apex hex
 have T:=E.tr hc
 have hA:=T.pos
 have m0:=E.m0
 have b1:ar b c (pt a b u)=(1-u)*ar a b c:=by rw [bm,ld a b c,cL];grind
 have c1:ar c a (pt a b u)=u*ar a b c:=by rw [bm,cw,iu a b c];grind
 obtain ⟨e1,e10,e11,e1p⟩:=zk (ar b c w) (show 0<ar b c (pt a b u) by rw [b1];exact au (by grind) hA)
 obtain ⟨e2,e20,e21,e2p⟩:=zk (ar c a w) (show 0<ar c a (pt a b u) by rw [c1];exact au u0 hA)
 have hmin:∃ e,0<e∧e≤e1∧e≤e2:=by
  rcases qlt e1 e2 with k|k
  ·exact ⟨e1,e10,Rat.le_refl,ai k⟩
  ·exact ⟨e2,e20,k,Rat.le_refl⟩
 obtain ⟨e,e0,el1,el2⟩:=hmin
 have hw1:InO a b c (pt (pt a b u) w e):=by
  refine ⟨?_,?_,?_⟩
  ·rw [bm,m0];have:=au e0 hw;grind
  ·rw [bm];exact e1p e (ai e0) el1
  ·rw [bm];exact e2p e (ai e0) el2
 have hI1:I (pt (pt a b u) w e):=by
  refine R.stay w _ (fun s hs ⟨P,k1,k2⟩=> ?_) hI
  have hmw:aJ (pt a b u) w P:=by
   obtain ⟨n,n0,n1,ep⟩:=k1
   have e3:P=pt (pt a b u) w (1-n*(1-e)):=by
    rw [ep];generalize pt a b u=m
    refine Pt.ext ?_ ?_<;>(unfold pt;simp only;grind)
   have p1:=aj n0 (show 0≤1-e by grind)
   have p2:=aj (show 0≤1-n by grind) (show 0≤1-e by grind)
   exact ⟨_,by grind,by grind,e3⟩
  have hPm:=ho s hs P k2 hmw
  obtain ⟨n,n0,n1,ep⟩:=k1
  have:ar a b P=0:=by rw [hPm];exact m0
  rw [ep,bm] at this
  have q1:=hw1.a
  have p1:=aj n0 (ai q1)
  have p2:=aj (show 0≤1-n by grind) (ai hw)
  have z1:n*ar a b (pt (pt a b u) w e)=0:=by grind
  have z2:(1-n)*ar a b w=0:=by grind
  rcases br.1 z1 with k|k
  ·rcases br.1 z2 with k'|k'<;>grind
  ·rw [k] at q1;exact aL q1
 have lb:∃ s∈S,eF s ⟨b,c⟩:=by
  rcases E.leg hc (.inr rfl) with k|k
  ·exact k
  ·exact T.rot.legSide R hw1.rot hI1 k
 have lc:∃ s∈S,eF s ⟨c,a⟩:=by
  rcases E.leg hc (.inl rfl) with k|k
  ·obtain ⟨s,hs,k⟩:=k
   refine ⟨s,hs,?_⟩
   rcases k with rfl|rfl
   ·exact .inr rfl
   ·exact .inl rfl
  ·exact T.rot.rot.legSide R hw1.rot.rot hI1 (fun s hs P k1 k2=>(k s hs P k1 (cH k2)).symm)
 exact ⟨c,{ T with s1:=hs,s2:=lb,s3:=lc },T.rot.dir R hw1.rot hI1 lb,T.rot.rot.dir R hw1.rot.rot hI1 lc,fun x hx=>T.allI R hw1 hI1 hx⟩
end Go.Av
namespace Go.Av
variable {C:List Pt} {S:List Sg} {I:Pt→Prop} {a b:Pt}
theorem yY:∀ L:List Rat,∃ M,∀ x∈L,x<M
 |[]=>⟨0,fun x hx=>by cases hx⟩
 |y::L=>by
  obtain ⟨M,h⟩:=yY L
  rcases qlt y M with k|k
  ·refine ⟨M,fun x hx=> ?_⟩
   rcases ay.1 hx with rfl|hx
   ·exact k
   ·exact h x hx
  ·refine ⟨y+1,fun x hx=> ?_⟩
   rcases ay.1 hx with rfl|hx
   ·grind
   ·have:=h x hx;grind
theorem QJ (C:List Pt) (w:Pt) (h:w∉C):∃ l:Rat,∀ c∈C,ar w ⟨w.x+1,w.y+l⟩ c≠0:=by
 obtain ⟨M,hM⟩:=yY (C.map fun c=>(c.y-w.y)/(c.x-w.x))
 refine ⟨M,fun c hc e=> ?_⟩
 have hlt:=hM _ (av.2 ⟨c,hc,rfl⟩)
 have e2:c.y-w.y=M*(c.x-w.x):=by unfold ar at e;simp only at e;grind
 by_cases hx:c.x-w.x=0
 ·rw [hx] at e2
  have:w=c:=Pt.ext (by grind) (by grind)
  exact h (by rw [this];exact hc)
 ·have d:(c.y-w.y)/(c.x-w.x)*(c.x-w.x)=c.y-w.y:=Rat.div_mul_cancel hx
  have:((c.y-w.y)/(c.x-w.x)-M)*(c.x-w.x)=0:=by grind
  rcases br.1 this with k|k
  ·grind
  ·exact hx k
theorem Ij {m w P:Pt} {l:Rat} (h0:0≤l) (h1:l≤1) (h:aJ (pt w m l) w P):∃ k,0≤k∧k≤l∧P=pt w m k:=EK h0 h1 (cH h)
theorem Region.seen (R:Region C S I) {w:Pt} (hI:I w) (hC:w∉C) (hoff:∀ s∈S,¬aJ s.a s.b w):∃ a b u,Dir S I a b∧0<u∧u<1∧0<ar a b w∧zn S (pt a b u) w:=by
 obtain ⟨g,hg⟩:=QJ C w hC
 obtain ⟨t,t0,ht⟩:=R.far w ⟨1,g⟩ (fun e=>by have:=congrArg Pt.x e;simp only at this;exact absurd this (by decide+kernel))
 have tp:0<t:=by
  rcases cf t0 with k|k
  ·exact k
  ·exfalso
   have:(⟨w.x+t*1,w.y+t*g⟩:Pt)=w:=by rw [←k];refine Pt.ext ?_ ?_<;>(simp only;grind)
   rw [this] at ht;exact ht hI
 have hgen:∀ c∈C,ar w ⟨w.x+t*1,w.y+t*g⟩ c≠0:=fun c hc e=>by
  have:t*ar w ⟨w.x+1,w.y+g⟩ c=0:=by rw [←e];unfold ar;simp only;grind
  rcases br.1 this with k|k
  ·rw [k] at tp;exact aL tp
  ·exact hg c hc k
 generalize (⟨w.x+t*1,w.y+t*g⟩:Pt)=d at ht hgen
 have hne:w≠d:=fun e=>ht (by rw [←e];exact hI)
 obtain ⟨l,l0,l1,hf,hl⟩:=rJ hne S R.net.ne (fun s hs k=>absurd k (hoff s hs))
 have hhit:∃ s∈S,aJ s.a s.b (pt w d l):=by
  rcases hl with rfl|k
  ·refine Classical.byContradiction fun hn=>ht (R.stay w d (fun s hs ⟨P,k1,k2⟩=> ?_) hI)
   obtain ⟨n,n0,n1,e⟩:=k1
   rcases cf n0 with h0|h0
   ·rcases cf n1 with h1|h1
    ·exact hf s hs n h0 h1 (by rw [←e];exact k2)
    ·exact hn ⟨s,hs,by rw [←h1,←e];exact k2⟩
   ·rw [←h0,iH] at e
    exact hoff s hs (by rw [←e];exact k2)
  ·exact k
 obtain ⟨s,hs,hz⟩:=hhit
 have hzC:pt w d l∉C:=fun k=>hgen _ k (by rw [bm,cL,cw];grind)
 have hncol:ar s.a s.b w≠0:=fun e=>by
  have g1:=iv hz
  rw [bm,e] at g1
  have g2:ar s.a s.b d=0:=by
   rcases br.1 (show l*ar s.a s.b d=0 by grind) with k|k
   ·grind
   ·exact k
  have hsn:=R.net.ne s hs
  obtain ⟨x,hx⟩:=iB hsn e
  obtain ⟨y,hy⟩:=iB hsn g2
  refine hgen _ (R.net.ea s hs) ?_
  rw [hx,hy];unfold ar pt;simp only;grind
 have honly:zn S (pt w d l) w:=fun s' hs' P k1 k2=>by
  obtain ⟨k,k0,kl,e⟩:=Ij (ai l0) l1 k2
  rcases cf k0 with h0|h0
  ·rcases cf kl with h1|h1
   ·exact absurd (by rw [←e];exact k1) (hf s' hs' k h0 h1)
   ·rw [e,h1]
  ·rw [←h0,iH] at e
   exact absurd (by rw [←e];exact k1) (hoff s' hs')
 obtain ⟨u,u0,u1,eu⟩:=hz
 have up:0<u:=by
  rcases cf u0 with k|k
  ·exact k
  ·rw [←k,iH] at eu;exact absurd (by rw [eu];exact R.net.ea s hs) hzC
 have um:u<1:=by
  rcases cf u1 with k|k
  ·exact k
  ·rw [k,kD] at eu;exact absurd (by rw [eu];exact R.net.eb s hs) hzC
 rcases eH (ar s.a s.b w) 0 with k|k|k
 ·have e2:pt s.b s.a (1-u)=pt s.a s.b u:=by refine Pt.ext ?_ ?_<;>(unfold pt;simp only;grind)
  have hw:0<ar s.b s.a w:=by rw [mZ];grind
  refine ⟨s.b,s.a,1-u,⟨⟨s,hs,.inr rfl⟩,1-u,w,by grind,by grind,hw,hI,?_⟩,by grind,by grind,hw,?_⟩
  ·rw [e2,←eu];exact honly
  ·rw [e2,←eu];exact honly
 ·exact absurd k hncol
 ·refine ⟨s.a,s.b,u,⟨⟨s,hs,.inl rfl⟩,u,w,up,um,k,hI,?_⟩,up,um,k,?_⟩
  ·rw [←eu];exact honly
  ·rw [←eu];exact honly
theorem Region.cover (R:Region C S I) {w:Pt} (hI:I w) (hC:w∉C) (hoff:∀ s∈S,¬aJ s.a s.b w):∃ a b c,Dir S I a b∧TrS C S a b c∧InO a b c w:=by
 obtain ⟨a,b,u,hd,u0,u1,hw,ho⟩:=R.seen hI hC hoff
 obtain ⟨c,hT,_,_,_⟩:=R.tri hd
 have hA:=hT.pos
 have m0:ar a b (pt a b u)=0:=by rw [bm,cL,cw];grind
 have b1:0<ar b c (pt a b u):=by rw [bm,ld a b c,cL];have:=au (show 0<1-u by grind) hA;grind
 have c1:0<ar c a (pt a b u):=by rw [bm,cw,iu a b c];have:=au u0 hA;grind
 have no:∀ {i j},(∃ s∈S,eF s ⟨i,j⟩)→0<ar i j (pt a b u)→¬ez (pt a b u) w i j:=fun {i j} ⟨s,hs,k⟩ hp ⟨P,k1,k2⟩=>by
  have:=ho s hs P ((kH k).2 k2) k1
  have z:=iv k2
  rw [this] at z
  rw [z] at hp;exact aL hp
 have hin:=(F2 (p:=c) (q:=a) (r:=b) (z:=pt a b u) (f:=w) (by rw [iu];exact hA) c1 b1 (by rw [m0];exact Rat.le_refl) (by rw [m0];exact hw) (no hT.s3 c1) (no hT.s2 b1)).rot
 have off:∀ {i j},(∃ s∈S,eF s ⟨i,j⟩)→¬aJ i j w:=fun {i j} ⟨s,hs,k⟩ h=>hoff s hs ((kH k).2 h)
 exact ⟨a,b,c,hd,hT,hw,hin.rot.on1 (by rw [ld];exact hA) (off hT.s2),hin.rot.rot.on1 (by rw [iu];exact hA) (off hT.s3)⟩
theorem TrS.third (n:Net C S) {c c':Pt} (h:TrS C S a b c) (k:TrS C S a b c'):c'=c:=by
 have hA:=h.pos
 have kA:=k.pos
 have side:∀ {d},0<ar a b d→0<ar b d (pt a b (1/2))∧0<ar d a (pt a b (1/2)):=fun {d} hd=>by
  refine ⟨?_,?_⟩
  ·rw [bm,ld a b d,cL];grind
  ·rw [bm,cw,iu a b d];grind
 obtain ⟨e1,e10,e11,e1p⟩:=zk (ar b c' c) (side kA).1
 obtain ⟨e2,e20,e21,e2p⟩:=zk (ar c' a c) (side kA).2
 have hmin:∃ e,0<e∧e<1∧e≤e1∧e≤e2:=by
  rcases qlt e1 e2 with k|k
  ·exact ⟨e1/2,by grind,by grind,by grind,by grind⟩
  ·exact ⟨e2/2,by grind,by grind,by grind,by grind⟩
 obtain ⟨e,e0,el,el1,el2⟩:=hmin
 have m0:ar a b (pt a b (1/2))=0:=by rw [bm,cL,cw];grind
 have i2:InO a b c' (pt (pt a b (1/2)) c e):=by
  refine ⟨?_,?_,?_⟩
  ·rw [bm,m0];have:=au e0 hA;grind
  ·rw [bm];exact e1p e (ai e0) el1
  ·rw [bm];exact e2p e (ai e0) el2
 have i1:InO a b c (pt (pt a b (1/2)) c e):=by
  refine ⟨i2.a,?_,?_⟩
  ·rw [bm,cw];have:=au (show 0<1-e by grind) (side hA).1;grind
  ·rw [bm,cL];have:=au (show 0<1-e by grind) (side hA).2;grind
 rcases h.same n k i1 i2 with ⟨_,_,g⟩|⟨g,_,_⟩|⟨g,_,_⟩
 ·exact g
 ·exfalso
  have z:ar a a c=0:=by unfold ar;grind
  rw [←g,z] at hA;exact aL hA
 ·exfalso
  rw [←g,cL] at hA;exact aL hA
end Go.Av
