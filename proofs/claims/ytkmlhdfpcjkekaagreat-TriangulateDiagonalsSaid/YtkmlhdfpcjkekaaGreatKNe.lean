/- Helping texts: Ne, Nf. -/
import Derived.Test.YtkmlhdfpcjkekaaGreatKOc
set_option linter.unusedSimpArgs false
set_option linter.unusedVariables false
set_option maxRecDepth 100000
set_option maxHeartbeats 16000000
namespace Go.Av
variable {C:List Pt} {S:List Sg} {a b m:Pt}
theorem below {p q r f:Pt} (hA:0<ar p q r) (hf:InT p q r f) (hp:ar a b p=0) (hq:ar a b q=0) (hr:0<ar a b r) (hne:f≠r):ar a b f<ar a b r:=by
 have e:=GF p q r a b f
 have s:=BN p q r f
 rw [hp,hq] at e
 have h1:=hf.a;have h2:=hf.b;have h3:=hf.c
 rcases qlt (ar p q f) (ar p q r) with k|k
 ·have:=au (show 0<ar p q r-ar p q f by grind) hr
  rcases qlt (ar a b f) (ar a b r) with g|g
  ·exact g
  ·have:=aj (ai hA) (show 0≤ar a b f-ar a b r by grind)
   grind
 ·exfalso
  have z2:ar q r f=0:=by grind
  have z3:ar r p f=0:=by grind
  have z1:ar p q f=ar p q r:=by grind
  refine hne (Pt.ext (sh hA ?_) (sh hA ?_))
  ·have:=PA p q r f;grind
  ·have:=Ja p q r f;grind
theorem MN {p q r f:Pt} {M:Rat} (hA:0<ar p q r) (hf:InT p q r f) (hp:ar a b p≤M) (hq:ar a b q≤M) (hr:ar a b r≤M):ar a b f≤M:=by
 have e:=GF p q r a b f
 have s:=BN p q r f
 have h1:=aj hf.a (show 0≤M-ar a b r by grind)
 have h2:=aj hf.b (show 0≤M-ar a b p by grind)
 have h3:=aj hf.c (show 0≤M-ar a b q by grind)
 rcases qlt M (ar a b f) with g|g
 ·have:=au hA (show 0<ar a b f-M by grind)
  have s2:(ar p q f+ar q r f+ar r p f)*M=ar p q r*M:=by rw [s]
  grind
 ·exact g
theorem Eye.ma (h:Eye C S a b m):m≠a:=fun e2=>by
 obtain ⟨u,u0,u1,e⟩:=h.at_
 have:pt a b u=pt a b 0:=by rw [iH,←e,e2]
 have:=jt h.ne this;grind
theorem Eye.mb (h:Eye C S a b m):m≠b:=fun e2=>by
 obtain ⟨u,u0,u1,e⟩:=h.at_
 have:pt a b u=pt a b 1:=by rw [kD,←e,e2]
 have:=jt h.ne this;grind
theorem Eye.on (h:Eye C S a b m):aJ a b m:=by
 obtain ⟨u,u0,u1,e⟩:=h.at_
 exact ⟨u,ai u0,ai u1,e⟩
theorem Eye.half (h:Eye C S a b m) {g P:Pt} (hg:g=a∨g=b) (h1:aJ m g P) (h2:P=a∨P=b):P=g:=
 EE (s:=⟨a,b⟩) h.ne hg h.on h.ma h.mb h1 h2
theorem Eye.halfOn (h:Eye C S a b m) {g P:Pt} (hg:g=a∨g=b) (h1:aJ m g P):aJ a b P:=
 rq (s:=⟨a,b⟩) hg h.on h1
theorem Eye.corner (h:Eye C S a b m) {f:Pt} (hf:f∈C) (ho:aJ a b f):f=a∨f=b:=by
 obtain ⟨t,ht,k⟩:=h.side
 have:=h.net.on t ht f hf ((kH k).2 ho)
 rcases k with rfl|rfl
 ·exact this
 ·exact this.symm
theorem Eye.noCross (h:Eye C S a b m) {c g z e:Pt} (hfc:nL S m c) (hg:g=a∨g=b) {s:Sg} (hs:s∈S) (hz:aJ s.a s.b z) (hHz:0<ar a b z) (he:e=s.a∨e=s.b) (hne:∀ P,aJ z e P→P≠c∧P≠g):¬ez z e m c∧¬ez z e m g:=by
 refine ⟨?_,?_⟩
 ·rintro ⟨P,h1,h2⟩
  have hP:=rq he hz h1
  rcases hfc s hs P hP h2 with k|k
  ·exact h.off hs hz hHz (by rw [←k];exact hP)
  ·exact (hne P h1).1 k
 ·rintro ⟨P,h1,h2⟩
  have hP:=rq he hz h1
  obtain ⟨t,ht,k⟩:=h.side
  rcases h.net.cross s hs t ht P hP ((kH k).2 (h.halfOn hg h2)) with k2|⟨_,k2⟩
  ·exact h.off hs hz hHz ((kH k2).2 ((kH k).2 h.on))
  ·refine (hne P h1).2 (h.half hg h2 ?_)
   rcases k with rfl|rfl
   ·exact k2
   ·exact k2.symm
theorem Eye.g0 {g:Pt} (hg:g=a∨g=b):ar a b g=0:=by
 rcases hg with rfl|rfl
 ·exact pk _ _
 ·exact pj _ _
theorem Eye.posOf (h:Eye C S a b m) {c g q r f:Pt} (hH:0<ar a b c) (hg:g=a∨g=b) (hqr:q=c∧r=g∨q=g∧r=c) (hA:0<ar m q r) (hf:f∈C) (hin:InT m q r f) (hk:0<ar q r f):0<ar a b f:=by
 have e:=GF m q r a b f
 rw [h.m0] at e
 have hg0:=Eye.g0 hg
 rcases qlt 0 (ar a b f) with k|k
 ·exact k
 ·exfalso
  have e2:=aj (ai hA) (show 0≤ -ar a b f by grind)
  have key:aJ m g f:=by
   rcases hqr with ⟨rfl,rfl⟩|⟨rfl,rfl⟩
   ·rw [hg0] at e
    have h3:=aj hin.c (ai hH)
    have:ar r m f*ar a b q=0:=by grind
    rcases br.1 this with k|k
    ·exact cH (kM (p:=r) (q:=m) (r:=q) (by rw [iu];exact hA) k hin.a hin.b)
    ·rw [k] at hH;exact absurd hH aL
   ·rw [hg0] at e
    have h3:=aj hin.a (ai hH)
    have:ar m q f*ar a b r=0:=by grind
    rcases br.1 this with k|k
    ·exact kM hA k hin.b hin.c
    ·rw [k] at hH;exact absurd hH aL
  have:=h.half hg key (h.corner hf (h.halfOn hg key))
  rw [this] at hk
  rcases hqr with ⟨rfl,rfl⟩|⟨rfl,rfl⟩
  ·rw [cw] at hk;exact aL hk
  ·rw [cL] at hk;exact aL hk
theorem Eye.lt (h:Eye C S a b m) {c g q r f:Pt} (hH:0<ar a b c) (hg:g=a∨g=b) (hqr:q=c∧r=g∨q=g∧r=c) (hA:0<ar m q r) (hin:InT m q r f) (hne:f≠c):ar a b f<ar a b c:=by
 rcases hqr with ⟨rfl,rfl⟩|⟨rfl,rfl⟩
 ·exact below (p:=r) (q:=m) (by rw [iu];exact hA) hin.rot.rot (Eye.g0 hg) h.m0 hH hne
 ·exact below hA hin h.m0 (Eye.g0 hg) hH hne
theorem Eye.lower (h:Eye C S a b m) {c g q r:Pt} (hH:0<ar a b c) (hfc:nL S m c) (hg:g=a∨g=b) (hqr:q=c∧r=g∨q=g∧r=c) (hA:0<ar m q r) {f:Pt} (hf:f∈C) (hin:InT m q r f) (hHf:0<ar a b f) (hne:f≠c):∃ c'∈C,0<ar a b c'∧ar a b c'<ar a b c∧nL S m c':=by
 have hlt:=h.lt hH hg hqr hA hin hne
 have hmf:=h.ne_of hHf
 rcases tN hmf h.net.ne (fun s hs k=>vY (h.own hs k) hHf) with k|⟨l,l0,l1,hfz,s,hs,hsz⟩
 ·exact ⟨f,hf,hHf,hlt,k⟩
 have hHz:ar a b (pt m f l)=l*ar a b f:=by rw [bm,h.m0];grind
 have hz0:0<ar a b (pt m f l):=by rw [hHz];exact au l0 hHf
 have hz1:ar a b (pt m f l)<ar a b f:=by rw [hHz];have:=au (show 0<1-l by grind) hHf;grind
 by_cases hzC:pt m f l∈C
 ·exact ⟨_,hzC,hz0,by grind,hfz⟩
 have kz:0<ar q r (pt m f l):=by
  rw [bm]
  have:=au (show 0<1-l by grind) (show 0<ar q r m by rw [ld];exact hA)
  have:=aj (ai l0) hin.b
  grind
 have inz:InT m q r (pt m f l):=by
  refine ⟨?_,ai kz,?_⟩
  ·rw [bm,cL];have:=aj (ai l0) hin.a;grind
  ·rw [bm,cw];have:=aj (ai l0) hin.c;grind
 have hkc:ar q r c=0:=by
  rcases hqr with ⟨rfl,rfl⟩|⟨rfl,rfl⟩
  ·exact cL _ _
  ·exact cw _ _
 have hkg:ar q r g=0:=by
  rcases hqr with ⟨rfl,rfl⟩|⟨rfl,rfl⟩
  ·exact cw _ _
  ·exact cL _ _
 have hend:∃ e,(e=s.a∨e=s.b)∧ar q r (pt m f l)≤ar q r e:=by
  obtain ⟨n,n0,n1,e⟩:=hsz
  have k:ar q r (pt m f l)=(1-n)*ar q r s.a+n*ar q r s.b:=by rw [e,bm]
  rcases qlt (ar q r s.a) (ar q r (pt m f l)) with k1|k1
  ·rcases qlt (ar q r s.b) (ar q r (pt m f l)) with k2|k2
   ·exfalso
    have p1:=aj (show 0≤1-n by grind) (show 0≤ar q r (pt m f l)-ar q r s.a by grind)
    have p2:=aj n0 (show 0≤ar q r (pt m f l)-ar q r s.b by grind)
    have z1:(1-n)*(ar q r (pt m f l)-ar q r s.a)=0:=by grind
    have z2:n*(ar q r (pt m f l)-ar q r s.b)=0:=by grind
    rcases br.1 z1 with k|k
    ·rcases br.1 z2 with k|k<;>grind
    ·grind
   ·exact ⟨s.b,.inr rfl,k2⟩
  ·exact ⟨s.a,.inl rfl,k1⟩
 obtain ⟨e,hes,hke⟩:=hend
 have eC:e∈C:=by rcases hes with k|k<;>rw [k];exact h.net.ea s hs;exact h.net.eb s hs
 have nc:=h.noCross hfc hg hs hsz hz0 hes (fun P hP=>by
  have:0<ar q r P:=by
   obtain ⟨n,n0,n1,e2⟩:=hP
   rw [e2,jn]
   have:=aj n0 (show 0≤ar q r e-ar q r (pt m f l) by grind)
   grind
  exact ⟨fun k=>by rw [k,hkc] at this;exact aL this,fun k=>by rw [k,hkg] at this;exact aL this⟩)
 have ine:InT m q r e:=by
  rcases hqr with ⟨rfl,rfl⟩|⟨rfl,rfl⟩
  ·exact stay hA inz kz hke nc.1 (fun k=>nc.2 k.rev2)
  ·exact stay hA inz kz hke nc.2 (fun k=>nc.1 k.rev2)
 have he0:=h.posOf hH hg hqr hA eC ine (by grind)
 have elt:=h.lt hH hg hqr hA ine (fun k=>by rw [k,hkc] at hke;grind)
 have hdeg:=EF h hz0 he0 hzC hfz hs hsz hes
 obtain ⟨c',c1,c2,c3,c4⟩:=see h _ (pt m f l) e s hz0 he0 hfz hs hsz hes (ax _)
 refine ⟨c',c1,c2,?_,c3⟩
 have hM:∃ M,M<ar a b c∧ar a b (pt m f l)≤M∧ar a b e≤M∧0≤M:=by
  rcases qlt (ar a b (pt m f l)) (ar a b e) with k|k
  ·exact ⟨_,elt,ai k,Rat.le_refl,ai he0⟩
  ·exact ⟨_,by grind,Rat.le_refl,k,ai hz0⟩
 obtain ⟨M,M1,M2,M3,M4⟩:=hM
 have m0:=h.m0
 suffices ar a b c'≤M by grind
 have hinv:∀ {p q r:Pt},InT p q r c'→0≤ar p q r:=fun {p q r} hi=>by
  have:=BN p q r c';have:=hi.a;have:=hi.b;have:=hi.c;grind
 rcases c4 with k|k
 ·have:=hinv k
  exact MN (by rcases cf this with g|g;exact g;exact absurd g.symm hdeg) k (by grind) M2 M3
 ·have:=hinv k
  have e3:ar m e (pt m f l)= -ar m (pt m f l) e:=by unfold ar;grind
  exact MN (by rcases cf this with g|g;exact g;rw [e3] at g;grind) k (by grind) M3 M2
end Go.Av
namespace Go.Av
variable {C:List Pt} {S:List Sg} {a b m:Pt}
theorem It {α:Type} (f:α→Rat) (P:α→Prop):∀ (L:List α),(∃ c∈L,P c)→∃ c∈L,P c∧∀ d∈L,P d→f c≤f d
 |[],h=>by obtain ⟨c,hc,_⟩:=h;cases hc
 |x::L,h=>by
  by_cases hL:∃ c∈L,P c
  ·obtain ⟨c,c1,c2,c3⟩:=It f P L hL
   by_cases hx:P x∧f x<f c
   ·refine ⟨x,ah ..,hx.1,fun d hd hp=> ?_⟩
    rcases ay.1 hd with rfl|hd
    ·exact Rat.le_refl
    ·have:=c3 d hd hp;have:=hx.2;grind
   ·refine ⟨c,ag _ c1,c2,fun d hd hp=> ?_⟩
    rcases ay.1 hd with rfl|hd
    ·rcases qlt (f d) (f c) with k|k
     ·exact absurd ⟨hp,k⟩ hx
     ·exact k
    ·exact c3 d hd hp
  ·obtain ⟨c,hc,hp⟩:=h
   rcases ay.1 hc with rfl|hc
   ·refine ⟨c,ah ..,hp,fun d hd hp=> ?_⟩
    rcases ay.1 hd with rfl|hd
    ·exact Rat.le_refl
    ·exact absurd ⟨d,hd,hp⟩ hL
   ·exact absurd ⟨c,hc,hp⟩ hL
theorem Eye.sees (h:Eye C S a b m) (hex:∃ e∈C,0<ar a b e):∃ c∈C,0<ar a b c∧nL S m c:=by
 obtain ⟨f,hf,hHf⟩:=hex
 rcases tN (h.ne_of hHf) h.net.ne (fun s hs k=>vY (h.own hs k) hHf) with k|⟨l,l0,l1,hfz,s,hs,hsz⟩
 ·exact ⟨f,hf,hHf,k⟩
 have hHz:ar a b (pt m f l)=l*ar a b f:=by rw [bm,h.m0];grind
 have hz0:0<ar a b (pt m f l):=by rw [hHz];exact au l0 hHf
 have hend:∃ e,(e=s.a∨e=s.b)∧0<ar a b e:=by
  obtain ⟨n,n0,n1,e⟩:=hsz
  have k:ar a b (pt m f l)=(1-n)*ar a b s.a+n*ar a b s.b:=by rw [e,bm]
  rcases qlt 0 (ar a b s.a) with k1|k1
  ·exact ⟨s.a,.inl rfl,k1⟩
  ·rcases qlt 0 (ar a b s.b) with k2|k2
   ·exact ⟨s.b,.inr rfl,k2⟩
   ·exfalso
    have p1:=aj (show 0≤1-n by grind) (show 0≤ -ar a b s.a by grind)
    have p2:=aj n0 (show 0≤ -ar a b s.b by grind)
    grind
 obtain ⟨e,hes,he0⟩:=hend
 obtain ⟨c,c1,c2,c3,_⟩:=see h _ (pt m f l) e s hz0 he0 hfz hs hsz hes (ax _)
 exact ⟨c,c1,c2,c3⟩
structure Mw (C:List Pt) (S:List Sg) (a b m c:Pt):Prop where
 mem:c∈C
 pos:0<ar a b c
 free:nL S m c
 low:∀ d∈C,0<ar a b d→nL S m d→ar a b c≤ar a b d
theorem Eye.apex (h:Eye C S a b m) (hex:∃ e∈C,0<ar a b e):∃ c,Mw C S a b m c:=by
 obtain ⟨c,c1,⟨c2,c3⟩,c4⟩:=It (fun d=>ar a b d) (fun d=>0<ar a b d∧nL S m d) C (by
  obtain ⟨c,c1,c2,c3⟩:=h.sees hex
  exact ⟨c,c1,c2,c3⟩)
 exact ⟨c,c1,c2,c3,fun d d1 d2 d3=>c4 d d1 ⟨d2,d3⟩⟩
theorem Eye.only (h:Eye C S a b m) {c g q r:Pt} (hc:Mw C S a b m c) (hg:g=a∨g=b) (hqr:q=c∧r=g∨q=g∧r=c) (hA:0<ar m q r) {f:Pt} (hf:f∈C) (hin:InT m q r f) (hHf:0<ar a b f):f=c:=by
 by_cases hne:f=c
 ·exact hne
 ·obtain ⟨c',k1,k2,k3,k4⟩:=h.lower hc.pos hc.free hg hqr hA hf hin hHf hne
  have:=hc.low c' k1 k2 k4
  grind
theorem Eye.ori (h:Eye C S a b m) {c g:Pt} (hH:0<ar a b c) (hg:g=a∨g=b):∃ q r,(q=c∧r=g∨q=g∧r=c)∧0<ar m q r:=by
 obtain ⟨u,u0,u1,rfl⟩:=h.at_
 rcases hg with rfl|rfl
 ·refine ⟨c,g,.inl ⟨rfl,rfl⟩,?_⟩
  have:ar (pt g b u) c g=u*ar g b c:=by unfold ar pt;simp only;grind
  rw [this];exact au u0 hH
 ·refine ⟨g,c,.inr ⟨rfl,rfl⟩,?_⟩
  have:ar (pt a g u) g c=(1-u)*ar a g c:=by unfold ar pt;simp only;grind
  rw [this];exact au (by grind) hH
theorem Eye.leg (h:Eye C S a b m) {c g:Pt} (hc:Mw C S a b m c) (hg:g=a∨g=b):(∃ s∈S,eF s ⟨g,c⟩)∨nL S g c:=by
 by_cases hfree:nL S g c
 ·exact .inr hfree
 left
 have gC:g∈C:=by
  obtain ⟨t,ht,k⟩:=h.side
  have k1:=h.net.ea t ht
  have k2:=h.net.eb t ht
  rcases k with rfl|rfl<;>rcases hg with rfl|rfl<;>assumption
 have hgc:g≠c:=fun e=>by have:=hc.pos;rw [←e,Eye.g0 hg] at this;exact aL this
 have hex:∃ s∈S,∃ P,aJ s.a s.b P∧aJ g c P∧P≠g∧P≠c:=by
  refine Classical.byContradiction fun hn=>hfree fun s hs P k1 k2=> ?_
  refine Classical.byContradiction fun hn2=>hn ⟨s,hs,P,k1,k2,fun e=>hn2 (.inl e),fun e=>hn2 (.inr e)⟩
 obtain ⟨s,hs,P,hPs,⟨n,n0,n1,hP⟩,hPg,hPc⟩:=hex
 refine ⟨s,hs,?_⟩
 have p0:0<n:=by
  rcases cf n0 with k|k
  ·exact k
  ·rw [←k,iH] at hP;exact absurd hP hPg
 have p1:0<1-n:=by
  rcases cf n1 with k|k
  ·grind
  ·rw [k,kD] at hP;exact absurd hP hPc
 obtain ⟨q,r,hqr,hA⟩:=h.ori hc.pos hg
 have inV:∀ x,0<x→0<1-x→0<ar m q (pt g c x)∧ar q r (pt g c x)=0∧0<ar r m (pt g c x):=fun x x0 x1=>by
  rcases hqr with ⟨rfl,rfl⟩|⟨rfl,rfl⟩
  ·refine ⟨?_,?_,?_⟩
   ·rw [bm,cw];have:=au x1 hA;grind
   ·rw [bm,cL,cw];grind
   ·rw [bm,cL];have:=au x0 (show 0<ar r m q by rw [iu];exact hA);grind
  ·refine ⟨?_,?_,?_⟩
   ·rw [bm,cw];have:=au x0 hA;grind
   ·rw [bm,cL,cw];grind
   ·rw [bm,cL];have:=au x1 (show 0<ar r m q by rw [iu];exact hA);grind
 have posV:∀ x,0<x→0<ar a b (pt g c x):=fun x x0=>by
  rw [bm,Eye.g0 hg];have:=au x0 hc.pos;grind
 have noC:∀ x,0<x→0<1-x→pt g c x∉C:=fun x x0 x1 hx=>by
  obtain ⟨i1,i2,i3⟩:=inV x x0 x1
  have:=h.only hc hg hqr hA hx ⟨ai i1,by rw [i2];exact Rat.le_refl,ai i3⟩ (posV x x0)
  have:=jt hgc (this.trans (kD g c).symm)
  grind
 obtain ⟨i1,i2,i3⟩:=inV n p0 p1
 rw [←hP] at i1 i2 i3
 have hHP:0<ar a b P:=by rw [hP];exact posV n p0
 have hPC:P∉C:=by rw [hP];exact noC n p0 p1
 have wa:P≠s.a:=fun e=>hPC (by rw [e];exact h.net.ea s hs)
 have wb:P≠s.b:=fun e=>hPC (by rw [e];exact h.net.eb s hs)
 have hkc:ar q r c=0:=by
  rcases hqr with ⟨rfl,rfl⟩|⟨rfl,rfl⟩
  ·exact cL _ _
  ·exact cw _ _
 have hkg:ar q r g=0:=by
  rcases hqr with ⟨rfl,rfl⟩|⟨rfl,rfl⟩
  ·exact cw _ _
  ·exact cL _ _
 have bad:∀ f,(f=s.a∨f=s.b)→0<ar q r f→False:=fun f hf hk=>by
  have fC:f∈C:=by rcases hf with k|k<;>rw [k];exact h.net.ea s hs;exact h.net.eb s hs
  have nc:=h.noCross hc.free hg hs hPs hHP hf (fun Q hQ=>by
   have key:ar q r Q=0→Q=P:=fun e0=>by
    obtain ⟨v,v0,v1,e⟩:=hQ
    rw [e,bm,i2] at e0
    rcases br.1 (show v*ar q r f=0 by grind) with k|k
    ·rw [e,k,iH]
    ·rw [k] at hk;exact absurd hk aL
   exact ⟨fun k=>hPc ((key (by rw [k];exact hkc)).symm.trans k),fun k=>hPg ((key (by rw [k];exact hkg)).symm.trans k)⟩)
  have hin:InT m q r f:=by
   rcases hqr with ⟨rfl,rfl⟩|⟨rfl,rfl⟩
   ·exact F2 hA i1 i3 (by rw [i2];exact Rat.le_refl) (by rw [i2];exact hk) nc.1 (fun k=>nc.2 k.rev2)
   ·exact F2 hA i1 i3 (by rw [i2];exact Rat.le_refl) (by rw [i2];exact hk) nc.2 (fun k=>nc.1 k.rev2)
  have:=h.only hc hg hqr hA fC hin (h.posOf hc.pos hg hqr hA fC hin hk)
  rw [this,hkc] at hk;exact aL hk
 rcases Bq (m:=q) (e:=r) hPs wa wb i2 with ⟨k1,k2⟩|⟨_,k2⟩|⟨k1,_⟩
 ·
  have hqr':q≠r:=by rcases hqr with ⟨rfl,rfl⟩|⟨rfl,rfl⟩;exact hgc.symm;exact hgc
  have onl:∀ f,ar q r f=0→∃ x,f=pt g c x:=fun f e=>by
   refine iB hgc ?_
   rcases hqr with ⟨rfl,rfl⟩|⟨rfl,rfl⟩
   ·rw [mZ,e];grind
   ·exact e
  obtain ⟨x,hx⟩:=onl _ k1
  obtain ⟨y,hy⟩:=onl _ k2
  obtain ⟨v,v0,v1,hv⟩:=hPs
  have ev:n=x+v*(y-x):=by
   refine jt hgc (hP.symm.trans ?_)
   rw [hv,hx,hy,pn]
  have q0:0<v:=by
   rcases cf v0 with k|k
   ·exact k
   ·rw [←k,iH] at hv;exact absurd hv wa
  have q1:0<1-v:=by
   rcases cf v1 with k|k
   ·grind
   ·rw [k,kD] at hv;exact absurd hv wb
  have xo:x≤0∨1≤x:=by
   rcases qlt 0 x with k|k
   ·rcases qlt x 1 with k2|k2
    ·exact absurd (by rw [←hx];exact h.net.ea s hs) (noC x k (by grind))
    ·exact .inr k2
   ·exact .inl k
  have yo:y≤0∨1≤y:=by
   rcases qlt 0 y with k|k
   ·rcases qlt y 1 with k2|k2
    ·exact absurd (by rw [←hy];exact h.net.eb s hs) (noC y k (by grind))
    ·exact .inr k2
   ·exact .inl k
  have onS:∀ w,(x≤w∧w≤y∧x<y∨y≤w∧w≤x∧y<x)→aJ s.a s.b (pt g c w):=fun w hw=>by
   rcases hw with ⟨w1,w2,w3⟩|⟨w1,w2,w3⟩
   ·have hd:0<y-x:=by grind
    have e:(w-x)/(y-x)*(y-x)=w-x:=Rat.div_mul_cancel (by grind)
    have pr:=part hd (show 0≤w-x by grind) (by grind)
    refine ⟨(w-x)/(y-x),pr.1,pr.2,?_⟩
    rw [hx,hy,pn,e];congr 1;grind
   ·have hd:0<x-y:=by grind
    have e:(x-w)/(x-y)*(x-y)=x-w:=Rat.div_mul_cancel (by grind)
    have pr:=part hd (show 0≤x-w by grind) (by grind)
    refine ⟨(x-w)/(x-y),pr.1,pr.2,?_⟩
    rw [hx,hy,pn];congr 1;grind
  have fin:(x≤0∧1≤y∨y≤0∧1≤x):=by
   rcases xo with k|k
   ·rcases yo with k2|k2
    ·exfalso
     have:=aj (ai q1) (show 0≤ -x by grind)
     have:=aj (ai q0) (show 0≤ -y by grind)
     grind
    ·exact .inl ⟨k,k2⟩
   ·rcases yo with k2|k2
    ·exact .inr ⟨k2,k⟩
    ·exfalso
     have:=aj (ai q1) (show 0≤x-1 by grind)
     have:=aj (ai q0) (show 0≤y-1 by grind)
     grind
  have og:=onS 0 (by rcases fin with ⟨k1,k2⟩|⟨k1,k2⟩;exact .inl ⟨k1,by grind,by grind⟩;exact .inr ⟨k1,by grind,by grind⟩)
  have oc:=onS 1 (by rcases fin with ⟨k1,k2⟩|⟨k1,k2⟩;exact .inl ⟨by grind,k2,by grind⟩;exact .inr ⟨by grind,k2,by grind⟩)
  rw [iH] at og
  rw [kD] at oc
  have eg:=h.net.on s hs g gC og
  have ec:=h.net.on s hs c hc.mem oc
  cases s with|mk sa sb=> ?_
  simp only at eg ec
  rcases eg with rfl|rfl
  ·rcases ec with rfl|rfl
   ·exact absurd rfl hgc
   ·exact .inl rfl
  ·rcases ec with rfl|rfl
   ·exact .inr rfl
   ·exact absurd rfl hgc
 ·exact absurd k2 (fun k=>bad s.b (.inr rfl) k)
 ·exact absurd k1 (fun k=>bad s.a (.inl rfl) k)
theorem Eye.empty (h:Eye C S a b m) {c:Pt} (hc:Mw C S a b m c) {f:Pt} (hf:f∈C) (hin:InT a b c f):f=a∨f=b∨f=c:=by
 obtain ⟨u,u0,u1,hm⟩:=h.at_
 rcases cf hin.a with hH|hH
 ·
  rcases qlt (ar m c f) 0 with k|k
  ·have e1:ar m b c=(1-u)*ar a b c:=by rw [hm];unfold ar pt;simp only;grind
   have hA:0<ar m b c:=by rw [e1];exact au (by grind) hc.pos
   have e2:ar m b f=(1-u)*ar a b f:=by rw [hm];unfold ar pt;simp only;grind
   refine .inr (.inr (h.only hc (.inr rfl) (.inr ⟨rfl,rfl⟩) hA hf ⟨?_,hin.b,?_⟩ hH))
   ·rw [e2];exact aj (by grind) hin.a
   ·rw [mZ];grind
  ·have e1:ar m c a=u*ar a b c:=by rw [hm];unfold ar pt;simp only;grind
   have hA:0<ar m c a:=by rw [e1];exact au u0 hc.pos
   have e2:ar a m f=u*ar a b f:=by rw [hm];unfold ar pt;simp only;grind
   refine .inr (.inr (h.only hc (.inl rfl) (.inl ⟨rfl,rfl⟩) hA hf ⟨k,hin.c,?_⟩ hH))
   rw [e2];exact aj (ai u0) hin.a
 ·rcases h.corner hf (kM hc.pos hH.symm hin.b hin.c) with k|k
  ·exact .inl k
  ·exact .inr (.inl k)
end Go.Av
