/- Helping texts: No, Np, Nq, Nr. -/
import Derived.Test.YtkmlhdfpcjkekaaGreatKNl
set_option linter.unusedSimpArgs false
set_option linter.unusedVariables false
set_option maxRecDepth 100000
set_option maxHeartbeats 16000000
namespace Go.Av
def clear (c P w:Pt):Prop:=(w.y<c.y∧w.y<P.y)∨(c.y<w.y∧P.y<w.y)
theorem Hn (c d:Pt):∀ L:List Pt,(∀ w∈L,w.y≠c.y)→∃ e,0<e∧e≤1∧∀ w∈L,∀ x,0≤x→x≤e→clear c (pt c d x) w
 |[],_=>⟨1,by decide+kernel,Rat.le_refl,fun w hw=>by cases hw⟩
 |w::L,h=>by
  obtain ⟨e,e0,e1,he⟩:=Hn c d L fun v hv=>h v (ag _ hv)
  have one:∃ f,0<f∧f≤1∧∀ x,0≤x→x≤f→clear c (pt c d x) w:=by
   have hne:=h w (ah ..)
   rcases eH w.y c.y with k|k|k
   ·obtain ⟨f,f0,f1,hf⟩:=zk (d.y-w.y) (show 0<c.y-w.y by grind)
    refine ⟨f,f0,f1,fun x x0 x1=> .inl ⟨k,?_⟩⟩
    have:=hf x x0 x1
    unfold pt;simp only;grind
   ·exact absurd k hne
   ·obtain ⟨f,f0,f1,hf⟩:=zk (w.y-d.y) (show 0<w.y-c.y by grind)
    refine ⟨f,f0,f1,fun x x0 x1=> .inr ⟨k,?_⟩⟩
    have:=hf x x0 x1
    unfold pt;simp only;grind
  obtain ⟨f,f0,f1,hf⟩:=one
  have hmin:∃ g,0<g∧g≤e∧g≤f:=by
   rcases qlt e f with k|k
   ·exact ⟨e,e0,Rat.le_refl,ai k⟩
   ·exact ⟨f,f0,k,Rat.le_refl⟩
  obtain ⟨g,g0,ge,gf⟩:=hmin
  refine ⟨g,g0,by grind,fun v hv x x0 x1=> ?_⟩
  rcases ay.1 hv with rfl|hv
  ·exact hf x x0 (by grind)
  ·exact he v hv x x0 (by grind)
def rr (c d w:Pt):Prop:=(c.y<d.y∧c.y<w.y∧0<ar c w d)∨(d.y<c.y∧w.y<c.y∧ar c w d<0)
noncomputable def rAt (c d:Pt) (s:Sg):Bool:=bp (s.a=c∧rr c d s.b∨s.b=c∧rr c d s.a)
theorem Ko {c P w:Pt} (hP:P.y≠c.y) (hw:clear c P w):cr P c w=bp (rr c P w):=by
 rw [Bool.eq_iff_iff,dD]
 unfold rr
 rcases eH c.y P.y with k|k|k
 ·rcases hw with ⟨h1,h2⟩|⟨h1,h2⟩
  ·rw [po (by grind) (by grind)]
   constructor
   ·intro h;cases h
   ·rintro (⟨_,h,_⟩|⟨h,_⟩)<;>grind
  ·rw [qH (by grind) h2,aE]
   constructor
   ·intro h;exact .inl ⟨k,h1,h⟩
   ·rintro (⟨_,_,h⟩|⟨h,_⟩)
    ·exact h
    ·grind
 ·exact absurd k.symm hP
 ·rcases hw with ⟨h1,h2⟩|⟨h1,h2⟩
  ·rw [sM k (by grind),aE]
   constructor
   ·intro h;exact .inr ⟨k,h1,h⟩
   ·rintro (⟨h,_⟩|⟨_,_,h⟩)
    ·grind
    ·exact h
  ·rw [pu k h2]
   constructor
   ·intro h;cases h
   ·rintro (⟨h,_⟩|⟨_,h,_⟩)<;>grind
theorem D3 {c P w:Pt} (hw:clear c P w):mN c P w=false:=by
 unfold mN
 split
 ·refine ak fun k=> ?_
  obtain ⟨k1,k2,_⟩:=k
  rcases hw with ⟨h1,h2⟩|⟨h1,h2⟩<;>grind
 ·refine ak fun k=> ?_
  obtain ⟨k1,k2,_⟩:=k
  rcases hw with ⟨h1,h2⟩|⟨h1,h2⟩<;>grind
theorem N4 {E:List Sg} {c P:Pt} (hP:P.y≠c.y) (hs:∀ s∈E,s.a≠s.b) (h:∀ s∈E,s.a=c∨s.b=c∨¬ez c P s.a s.b) (ha:∀ s∈E,s.a=c∨clear c P s.a) (hb:∀ s∈E,s.b=c∨clear c P s.b):
 bV (fun s=>cr P s.a s.b) E=(bV (fun s=>cr c s.a s.b) E^^bV (rAt c P) E):=by
 rw [←m6]
 refine jl fun s hsE=> ?_
 have hne:=hs s hsE
 by_cases ea:s.a=c
 ·have hb':clear c P s.b:=(hb s hsE).resolve_left fun k=>hne (ea.trans k.symm)
  have e:rAt c P s=bp (rr c P s.b):=by
   unfold rAt
   rw [Bool.eq_iff_iff,dD,dD]
   constructor
   ·rintro (⟨_,k⟩|⟨k,_⟩)
    ·exact k
    ·exact absurd (ea.trans k.symm) hne
   ·intro k;exact .inl ⟨ea,k⟩
  rw [e,ea,Ko hP hb',o9 (pk _ _),Bool.false_xor]
 ·have ha':clear c P s.a:=(ha s hsE).resolve_left ea
  by_cases eb:s.b=c
  ·have e:rAt c P s=bp (rr c P s.a):=by
    unfold rAt
    rw [Bool.eq_iff_iff,dD,dD]
    constructor
    ·rintro (⟨k,_⟩|⟨_,k⟩)
     ·exact absurd k ea
     ·exact k
    ·intro k;exact .inr ⟨eb,k⟩
   rw [e,eb,mL P,mL c,Ko hP ha',o9 (pk _ _),Bool.false_xor]
  ·have hb':clear c P s.b:=(hb s hsE).resolve_left eb
   have hc:¬ez c P s.a s.b:=((h s hsE).resolve_left ea).resolve_left eb
   have e:rAt c P s=false:=jp.2 (by
    rintro (⟨k,_⟩|⟨k,_⟩)
    ·exact ea k
    ·exact eb k)
   have g:=tZ hc
   rw [D3 ha',D3 hb'] at g
   rw [e,Bool.xor_false]
   cases h1:cr c s.a s.b<;>cases h2:cr P s.a s.b<;>rw [h1,h2] at g<;>first|rfl|cases g
theorem C4 (w:Pt→Bool):∀ (a:Pt) (l:List Pt) (z:Pt),bV (fun s=>w s.a^^w s.b) (ko a (l++[z]))=(w a^^w z)
 |a,[],z=>by show ((w a^^w z)^^false)=_;rw [Bool.xor_false]
 |a,b::l,z=>by
  show ((w a^^w b)^^bV _ (ko b (l++[z])))=_
  rw [C4 w b l z]
  cases w a<;>cases w b<;>cases w z<;>rfl
theorem xi (w:Pt→Bool) (v:Pt) (M:List Pt):bV (fun s=>w s.a^^w s.b) (be v M)=false:=by
 unfold be
 rw [C4];cases w v<;>rfl
theorem wY {v:Pt} {M:List Pt} (hn:∀ s∈be v M,s.a≠s.b) {z:Pt} (hz:∀ w∈v::M,w≠z→z.y<w.y):wt (be v M) z=0:=by
 have hA:bV (fun s=>cr z s.a s.b) (be v M)=false:=lZ fun s hs=>by
  obtain ⟨ka,kb⟩:=iA hs
  by_cases ea:s.a=z
  ·exact o9 (by rw [ea];exact pk _ _)
  ·by_cases eb:s.b=z
   ·exact o9 (by rw [eb];exact pj _ _)
   ·exact pu (hz _ ka ea) (hz _ kb eb)
 have hB:bV (lW z) (be v M)=false:=by
  rw [←xi (fun p=>bp (p=z)) v M]
  refine jl fun s hs=> ?_
  obtain ⟨ka,kb⟩:=iA hs
  have hne:=hn s hs
  by_cases ea:s.a=z
  ·have eb:s.b≠z:=fun k=>hne (ea.trans k.symm)
   have:lW z s=true:=dD.2 (.inl ⟨ea,hz _ kb eb⟩)
   rw [this,dD.2 ea,jp.2 eb];rfl
  ·by_cases eb:s.b=z
   ·have:lW z s=true:=dD.2 (.inr ⟨eb,hz _ ka ea⟩)
    rw [this,jp.2 ea,dD.2 eb];rfl
   ·have:lW z s=false:=jp.2 (by
     rintro (⟨k,_⟩|⟨k,_⟩)
     ·exact ea k
     ·exact eb k)
    rw [this,jp.2 ea,jp.2 eb];rfl
 unfold wt
 rw [hA,hB];rfl
end Go.Av
namespace Go.Av
variable {C:List Pt} {E:List Sg} {c d v:Pt} {M:List Pt}
theorem Gb {e:Rat} (he:0<e) (w:Pt):rr c (pt c d e) w↔rr c d w:=by
 have y1:(pt c d e).y-c.y=e*(d.y-c.y):=by unfold pt;simp only;grind
 have a1:ar c w (pt c d e)=e*ar c w d:=by rw [bm,cL];grind
 have up:c.y<(pt c d e).y↔c.y<d.y:=by
  constructor
  ·intro h
   rcases qlt c.y d.y with k|k
   ·exact k
   ·have:=aj (ai he) (show 0≤c.y-d.y by grind);grind
  ·intro h;have:=au he (show 0<d.y-c.y by grind);grind
 have dn:(pt c d e).y<c.y↔d.y<c.y:=by
  constructor
  ·intro h
   rcases qlt d.y c.y with k|k
   ·exact k
   ·have:=aj (ai he) (show 0≤d.y-c.y by grind);grind
  ·intro h;have:=au he (show 0<c.y-d.y by grind);grind
 have pos:0<ar c w (pt c d e)↔0<ar c w d:=by rw [a1];exact ju he
 have neg:ar c w (pt c d e)<0↔ar c w d<0:=by rw [a1];exact wm he
 unfold rr
 rw [up,dn,pos,neg]
theorem Lt {e:Rat} (he:0<e) (s:Sg):rAt c (pt c d e) s=rAt c d s:=by
 unfold rAt
 rw [Bool.eq_iff_iff,dD,dD,Gb he,Gb he]
def half (E:List Sg) (c d:Pt):Bool:=bV (fun s=>cr (pt c d (1/2)) s.a s.b) E
theorem xI (E:List Sg) (c d:Pt):half E c d=half E d c:=by
 have:pt c d (1/2)=pt d c (1/2):=by refine Pt.ext ?_ ?_<;>(unfold pt;simp only;grind)
 unfold half;rw [this]
theorem Lx (h:Leg (be v M) c d) (hne:c≠d) {e f:Rat} (e0:0<e) (e1:e<1) (f0:0<f) (f1:f<1):
 bV (fun s=>cr (pt c d e) s.a s.b) (be v M)=bV (fun s=>cr (pt c d f) s.a s.b) (be v M):=by
 have key:bV (fun s=>cr (pt c d e) s.a s.b^^cr (pt c d f) s.a s.b) (be v M)=false:=by
  rw [←xi (mN (pt c d e) (pt c d f)) v M]
  refine jl fun s hs=> ?_
  by_cases hS:eF s ⟨c,d⟩
  ·have on:∀ x:Rat,ar s.a s.b (pt c d x)=0:=fun x=>by
    rcases hS with rfl|rfl
    ·show ar c d (pt c d x)=0;rw [bm,cL,cw];grind
    ·show ar d c (pt c d x)=0;rw [bm,cL,cw];grind
   have ends:∀ w,(w=c∨w=d)→ar (pt c d e) (pt c d f) w=0:=fun w hw=>by
    rcases hw with rfl|rfl<;>(unfold ar pt;simp only;grind)
   have ea:s.a=c∨s.a=d:=by rcases hS with rfl|rfl;exact .inl rfl;exact .inr rfl
   have eb:s.b=c∨s.b=d:=by rcases hS with rfl|rfl;exact .inr rfl;exact .inl rfl
   rw [o9 (on e),o9 (on f),xV (ends _ ea),xV (ends _ eb)]
  ·refine tZ fun ⟨P,⟨n,n0,n1,eP⟩,k2⟩=> ?_
   have eP2:P=pt c d (e+n*(f-e)):=by rw [eP,pn]
   have lo:0<e+n*(f-e):=by
    rcases qlt n 1 with g|g
    ·have:=au (show 0<1-n by grind) e0;have:=aj n0 (ai f0);grind
    ·have:n=1:=by grind
     subst this;grind
   have hi:e+n*(f-e)<1:=by
    rcases qlt n 1 with g|g
    ·have:=au (show 0<1-n by grind) (show 0<1-e by grind);have:=aj n0 (show 0≤1-f by grind);grind
    ·have:n=1:=by grind
     subst this;grind
   rcases h s hs P k2 ⟨_,ai lo,ai hi,eP2⟩ with k|⟨_,k⟩
   ·exact hS k
   ·rcases k with k|k
    ·have:=jt hne (eP2.symm.trans (k.trans (iH c d).symm));grind
    ·have:=jt hne (eP2.symm.trans (k.trans (kD c d).symm));grind
 rw [m6] at key
 cases h1:bV (fun s=>cr (pt c d e) s.a s.b) (be v M)<;>cases h2:bV (fun s=>cr (pt c d f) s.a s.b) (be v M)<;>rw [h1,h2] at key<;>first|rfl|cases key
theorem lS (hn:∀ s∈be v M,s.a≠s.b) (h:Leg (be v M) c d) (hd:d.y≠c.y) (hy:∀ w∈v::M,w≠c→w.y≠c.y):
 half (be v M) c d=(bV (fun s=>cr c s.a s.b) (be v M)^^bV (rAt c d) (be v M)):=by
 have hne:c≠d:=fun e=>hd (by rw [e])
 classical
 obtain ⟨e,e0,e1,he⟩:=Hn c d ((v::M).filter fun w=>decide (w≠c)) (fun w hw=>by
  have:=iD.1 hw
  exact hy w this.1 (by simpa using this.2))
 have hcl:∀ w∈v::M,w=c∨clear c (pt c d (e/2)) w:=fun w hw=>by
  by_cases k:w=c
  ·exact .inl k
  ·exact .inr (he w (iD.2 ⟨hw,by simpa using k⟩) _ (by grind) (by grind))
 have h2:0<e/2:=by grind
 unfold half
 rw [Lx h hne (by decide+kernel) (by decide+kernel) h2 (f:=e/2) (by grind)]
 have hP:(pt c d (e/2)).y≠c.y:=fun k=>by
  have:e/2*(d.y-c.y)=0:=by unfold pt at k;simp only at k;grind
  rcases br.1 this with g|g
  ·grind
  ·exact hd (by grind)
 rw [N4 hP hn (fun s hs=> ?_) (fun s hs=>hcl _ (iA hs).1) (fun s hs=>hcl _ (iA hs).2)]
 ·rw [jl fun s _=>Lt h2 s]
 ·by_cases ea:s.a=c
  ·exact .inl ea
  ·by_cases eb:s.b=c
   ·exact .inr (.inl eb)
   ·refine .inr (.inr fun ⟨P,⟨n,n0,n1,eP⟩,k2⟩=> ?_)
    have eP2:P=pt c d (n*(e/2)):=by
     rw [eP];refine Pt.ext ?_ ?_<;>(unfold pt;simp only;grind)
    have lo:=aj n0 (ai h2)
    have hi:n*(e/2)<1:=by
     have:=aj (show 0≤1-n by grind) (ai h2);grind
    rcases h s hs P k2 ⟨_,lo,ai hi,eP2⟩ with k|⟨k1,k⟩
    ·rcases k with rfl|rfl
     ·exact ea rfl
     ·exact eb rfl
    ·rcases k with k|k
     ·rcases k1 with g|g
      ·exact ea (g.symm.trans k)
      ·exact eb (g.symm.trans k)
     ·have:=jt hne (eP2.symm.trans (k.trans (kD c d).symm));grind
end Go.Av
namespace Go.Av
variable {C:List Pt} {E:List Sg} {c d v:Pt} {M:List Pt}
theorem Gk (hd:d∉v::M) (p:Pt):bV (rAt d p) (be v M)=false:=lZ fun s hs=>jp.2 (by
 obtain ⟨ka,kb⟩:=iA hs
 rintro (⟨k,_⟩|⟨k,_⟩)
 ·exact hd (by rw [←k];exact ka)
 ·exact hd (by rw [←k];exact kb))
theorem w6 (hd:d∉v::M):bV (lW d) (be v M)=false:=lZ fun s hs=>jp.2 (by
 obtain ⟨ka,kb⟩:=iA hs
 rintro (⟨k,_⟩|⟨k,_⟩)
 ·exact hd (by rw [←k];exact ka)
 ·exact hd (by rw [←k];exact kb))
theorem qx (hn:∀ s∈be v M,s.a≠s.b) (h:Leg (be v M) c d) (hd:c.y≠d.y) (hy:∀ w∈v::M,w≠d→w.y≠d.y) (ho:d∉v::M):
 half (be v M) c d=bV (fun s=>cr d s.a s.b) (be v M):=by
 rw [xI,lS hn h.symm hd hy,Gk ho,Bool.xor_false]
theorem xW (hn:∀ s∈be v M,s.a≠s.b):∀ (l:List Pt) (a b z:Pt),(∀ s∈ko a (b::l++[z]),Leg (be v M) s.a s.b)→(∀ s∈ko a (b::l++[z]),s.a.y≠s.b.y)→
 (∀ p∈b::l,p∉v::M∧∀ w∈v::M,w≠p→w.y≠p.y)→∀ p∈b::l,bV (fun s=>cr p s.a s.b) (be v M)=half (be v M) a b
 |[],a,b,z,h,hy,ho,p,hp=>by
  have e:p=b:=by simpa using hp
  have:=ho b (ah ..)
  rw [e,qx hn (h ⟨a,b⟩ (ah ..)) (hy ⟨a,b⟩ (ah ..)) this.2 this.1]
 |b'::l,a,b,z,h,hy,ho,p,hp=>by
  have hb:=ho b (ah ..)
  have e1:=qx hn (h ⟨a,b⟩ (ah ..)) (hy ⟨a,b⟩ (ah ..)) hb.2 hb.1
  rcases ay.1 hp with rfl|hp
  ·exact e1.symm
  ·have ih:=xW hn l b b' z (fun s hs=>h s (ag _ hs)) (fun s hs=>hy s (ag _ hs)) (fun q hq=>ho q (ag _ hq)) p hp
   rw [ih,e1]
   have m:(⟨b,b'⟩:Sg)∈ko a (b::b'::l++[z]):=ag _ (ah ..)
   have:=lS hn (h _ m) (hy _ m).symm hb.2
   simp only at this
   rw [this,Gk hb.1,Bool.xor_false]
theorem zZ {f:Sg→Bool}:∀ (a:Pt) (l:List Pt) (x:Pt),(∀ s,s.a≠c→s.b≠c→f s=false)→c∉a::l→c≠x→bV f (ko a (l++[x,c]))=f ⟨x,c⟩
 |a,[],x,hf,hc,hx=>by
  show (f ⟨a,x⟩^^(f ⟨x,c⟩^^false))=_
  rw [hf ⟨a,x⟩ (fun k=>hc (by rw [←k];exact ah ..)) hx.symm,Bool.false_xor,Bool.xor_false]
 |a,b::l,x,hf,hc,hx=>by
  show (f ⟨a,b⟩^^bV f (ko b (l++[x,c])))=_
  rw [hf ⟨a,b⟩ (fun k=>hc (by rw [←k];exact ah ..)) (fun k=>hc (by rw [←k];exact ag _ (ah ..))),Bool.false_xor]
  exact zZ b l x hf (fun k=>hc (ag _ k)) hx
theorem FZ {f:Sg→Bool}:∀ (a:Pt) (l:List Pt),(∀ s,s.a≠c→s.b≠c→f s=false)→c∉a::l→bV f (ko a l)=false
 |a,[],_,_=>rfl
 |a,b::l,hf,hc=>by
  show (f ⟨a,b⟩^^bV f (ko b l))=_
  rw [hf ⟨a,b⟩ (fun k=>hc (by rw [←k];exact ah ..)) (fun k=>hc (by rw [←k];exact ag _ (ah ..))),Bool.false_xor]
  exact FZ b l hf (fun k=>hc (ag _ k))
theorem z5 {f:Sg→Bool} (y:Pt) (l:List Pt) (hf:∀ s,s.a≠c→s.b≠c→f s=false) (hc:c∉y::l):bV f (ko c (y::l))=f ⟨c,y⟩:=by
 show (f ⟨c,y⟩^^bV f (ko y l))=_
 rw [FZ y l hf hc,Bool.xor_false]
theorem z4 {f:Sg→Bool} {A B:List Pt} {x y:Pt} (hf:∀ s,s.a≠c→s.b≠c→f s=false) (hc:c∉v::(A++[x])) (hB:c∉y::B):
 bV f (ko v (A++[x,c])++ko c (y::B))=(f ⟨x,c⟩^^f ⟨c,y⟩):=by
 have h1:c∉v::A:=fun k=>hc (by
  rcases ay.1 k with k|k
  ·exact ay.2 (.inl k)
  ·exact ay.2 (.inr (bg _ k)))
 have h2:c≠x:=fun k=>hc (by rw [k];simp)
 rw [kn,zZ v A x hf h1 h2,z5 y B hf hB]
theorem md (s:Sg) (ha:s.a≠c) (hb:s.b≠c):lW c s=false:=jp.2 (by
 rintro (⟨k,_⟩|⟨k,_⟩)
 ·exact ha k
 ·exact hb k)
theorem rz (p:Pt) (s:Sg) (ha:s.a≠c) (hb:s.b≠c):rAt c p s=false:=jp.2 (by
 rintro (⟨k,_⟩|⟨k,_⟩)
 ·exact ha k
 ·exact hb k)
theorem SJ {A B:List Pt} (nd:(v::(A++c::B)).Nodup) (hn:∀ s∈be v (A++c::B),s.a≠s.b) (hn1:∀ s∈be v (A++[c]),s.a≠s.b) (hn2:∀ s∈be v (c::B),s.a≠s.b)
 (hv:∀ w∈v::(A++c::B),w≠v→v.y<w.y)
 (hA:∀ w∈A,bV (fun s=>cr w s.a s.b) (be v (c::B))=false) (hB:∀ w∈B,bV (fun s=>cr w s.a s.b) (be v (A++[c]))=false)
 (hc:wt (be v (A++c::B)) c=wt (be v (A++[c])) c+wt (be v (c::B)) c):
 ((v::(A++c::B)).map (wt (be v (A++c::B)))).sum=((v::(A++[c])).map (wt (be v (A++[c])))).sum+((v::c::B).map (wt (be v (c::B)))).sum:=by
 have crs:∀ w,(fun s:Sg=>cr w s.a s.b) ⟨c,v⟩=(fun s:Sg=>cr w s.a s.b) ⟨v,c⟩:=fun w=>mL w c v
 have ups:∀ w,w≠c→w≠v→lW w ⟨c,v⟩=lW w ⟨v,c⟩:=fun w h1 h2=>by
  rw [md ⟨c,v⟩ h1.symm h2.symm,md ⟨v,c⟩ h2.symm h1.symm]
 have n0:=cV.1 nd
 have n1:=mH.1 n0.2
 have n2:=cV.1 n1.2.1
 have eA:A.map (wt (be v (A++c::B)))=A.map (wt (be v (A++[c]))):=List.map_congr_left fun w hw=>by
  have wc:w≠c:=fun k=>n1.2.2 w hw c (ah ..) k
  have wv:w≠v:=fun k=>n0.1 (by rw [←k];exact bg _ hw)
  have wB:w∉v::c::B:=by
   simp only [ay,not_or]
   exact ⟨wv,wc,fun k=>n1.2.2 w hw w (ag _ k) rfl⟩
  unfold wt
  rw [ol (crs w),ol (ups w wc wv),hA w hw,w6 wB,Bool.xor_false,Bool.xor_false]
 have eB:B.map (wt (be v (A++c::B)))=B.map (wt (be v (c::B))):=List.map_congr_left fun w hw=>by
  have wc:w≠c:=fun k=>n2.1 (by rw [←k];exact hw)
  have wv:w≠v:=fun k=>n0.1 (by rw [←k];exact bC _ (ag _ hw))
  have wA:w∉v::(A++[c]):=by
   simp only [ay,aF,List.not_mem_nil,or_false,not_or]
   exact ⟨wv,fun k=>n1.2.2 w k w (ag _ hw) rfl,wc⟩
  unfold wt
  rw [ol (crs w),ol (ups w wc wv),hB w hw,w6 wA,Bool.false_xor,Bool.false_xor]
 have z0:=wY hn hv
 have z1:=wY hn1 (z:=v) fun w hw=>hv w (by
  simp only [ay,aF,List.not_mem_nil,or_false] at hw ⊢
  rcases hw with k|k|k
  ·exact .inl k
  ·exact .inr (.inl k)
  ·exact .inr (.inr (.inl k)))
 have z2:=wY hn2 (z:=v) fun w hw=>hv w (by
  simp only [ay,aF] at hw ⊢
  rcases hw with k|k|k
  ·exact .inl k
  ·exact .inr (.inr (.inl k))
  ·exact .inr (.inr (.inr k)))
 simp only [aY,bz,List.sum_cons,List.sum_append,List.map_nil,List.sum_nil]
 rw [eA,eB,z0,z1,z2,hc]
 omega
end Go.Av
namespace Go.Av
variable {c v x y:Pt}
theorem pP {p:Prop} (h:p):bp p=true:=dD.2 h
theorem kw {p:Prop} (h:¬p):bp p=false:=jp.2 h
theorem ST (hx:x.y<c.y) (hy:y.y<c.y) (hv:v.y<c.y) (g1:(bp (rr c y x)^^bp (rr c y v))=true) (g2:(bp (rr c x v)^^bp (rr c x y))=true) (g3:(bp (rr c v x)^^bp (rr c v y))=true):False:=by
 have low:∀ {d w:Pt},d.y<c.y→w.y<c.y→(rr c d w↔ar c w d<0):=fun {d w} hd hw=>by
  unfold rr
  constructor
  ·rintro (⟨h,_⟩|⟨_,_,h⟩)
   ·grind
   ·exact h
  ·intro h;exact .inr ⟨hd,hw,h⟩
 have id:ar c x y*(c.y-v.y)+ar c y v*(c.y-x.y)+ar c v x*(c.y-y.y)=0:=by unfold ar;grind
 have s1:ar c y x= -ar c x y:=by unfold ar;grind
 have s2:ar c v y= -ar c y v:=by unfold ar;grind
 have s3:ar c x v= -ar c v x:=by unfold ar;grind
 have eqv:∀ {d w:Pt},d.y<c.y→w.y<c.y→bp (rr c d w)=decide (ar c w d<0):=fun {d w} hd hw=>by
  rw [Bool.eq_iff_iff,dD,low hd hw,aE]
 rw [eqv hy hx,eqv hy hv,s2] at g1
 rw [eqv hx hv,eqv hx hy,s1] at g2
 rw [eqv hv hx,eqv hv hy,s3] at g3
 generalize ar c x y=X at*
 generalize ar c y v=Y at*
 generalize ar c v x=V at*
 have px:0<c.y-x.y:=by grind
 have py:0<c.y-y.y:=by grind
 have pv:0<c.y-v.y:=by grind
 rcases eH X 0 with kx|kx|kx<;>rcases eH Y 0 with ky|ky|ky<;>rcases eH V 0 with kv|kv|kv
 case inl.inl.inl=>
  have:=au (show 0< -X by grind) pv
  have:=au (show 0< -Y by grind) px
  have:=au (show 0< -V by grind) py
  grind
 case inr.inr.inr.inr.inr.inr=>
  have:=au kx pv
  have:=au ky px
  have:=au kv py
  grind
 all_goals
  exfalso
  have dx:decide (X<0)=decide (X<0):=rfl
  revert g1 g2 g3
  simp only [kx,ky,kv,aE]
  intros
  simp_all
  try grind
theorem R7 (hv:v.y<c.y) (hx:x.y≠c.y) (hy:y.y≠c.y) {a1 a2 aR bR b1 b2:Bool} (haR:aR=(a1^^a2))
 (eR:bR=(bp (c.y<x.y)^^bp (c.y<y.y))) (e1:b1=bp (c.y<x.y)) (e2:b2=bp (c.y<y.y))
 (G1:(a1^^(bp (rr c y x)^^bp (rr c y v)))=false) (G2:(a2^^(bp (rr c x v)^^bp (rr c x y)))=false) (G3:(aR^^(bp (rr c v x)^^bp (rr c v y)))=true):
 aR.toNat+(aR^^bR).toNat=(a1.toNat+(a1^^b1).toNat)+(a2.toNat+(a2^^b2).toNat):=by
 have off:∀ {d w:Pt},(c.y<d.y→¬c.y<w.y)→(d.y<c.y→¬w.y<c.y)→bp (rr c d w)=false:=fun {d w} h1 h2=>kw (by
  rintro (⟨k1,k2,_⟩|⟨k1,k2,_⟩)
  ·exact h1 k1 k2
  ·exact h2 k1 k2)
 rcases eH x.y c.y with kx|kx|kx
 ·have nx:bp (c.y<x.y)=false:=kw (by grind)
  rcases eH y.y c.y with ky|ky|ky
  ·have ny:bp (c.y<y.y)=false:=kw (by grind)
   rw [nx,ny] at eR
   rw [nx] at e1
   rw [ny] at e2
   have no:¬(a1=true∧a2=true):=fun ⟨k1,k2⟩=>by
    rw [k1] at G1;rw [k2] at G2;rw [haR,k1,k2] at G3
    refine ST kx ky hv ?_ ?_ ?_
    ·cases h:(bp (rr c y x)^^bp (rr c y v))<;>rw [h] at G1<;>first|rfl|cases G1
    ·cases h:(bp (rr c x v)^^bp (rr c x y))<;>rw [h] at G2<;>first|rfl|cases G2
    ·cases h:(bp (rr c v x)^^bp (rr c v y))<;>rw [h] at G3<;>first|rfl|cases G3
   subst eR;subst e1;subst e2;subst haR
   cases a1<;>cases a2<;>first|rfl|exact absurd ⟨rfl,rfl⟩ no
  ·exact absurd ky hy
  ·have ny:bp (c.y<y.y)=true:=pP ky
   rw [nx,ny] at eR
   rw [nx] at e1
   rw [ny] at e2
   rw [off (d:=y) (w:=x) (by grind) (by grind),off (d:=y) (w:=v) (by grind) (by grind)] at G1
   subst eR;subst e1;subst e2;subst haR
   cases a1<;>cases a2<;>first|rfl|cases G1
 ·exact absurd kx hx
 ·have nx:bp (c.y<x.y)=true:=pP kx
  rcases eH y.y c.y with ky|ky|ky
  ·have ny:bp (c.y<y.y)=false:=kw (by grind)
   rw [nx,ny] at eR
   rw [nx] at e1
   rw [ny] at e2
   rw [off (d:=x) (w:=v) (by grind) (by grind),off (d:=x) (w:=y) (by grind) (by grind)] at G2
   subst eR;subst e1;subst e2;subst haR
   cases a1<;>cases a2<;>first|rfl|cases G2
  ·exact absurd ky hy
  ·have ny:bp (c.y<y.y)=true:=pP ky
   rw [nx,ny] at eR
   rw [nx] at e1
   rw [ny] at e2
   rw [off (d:=v) (w:=x) (by grind) (by grind),off (d:=v) (w:=y) (by grind) (by grind)] at G3
   subst eR;subst e1;subst e2;subst haR
   cases a1<;>cases a2<;>first|rfl|cases G3
end Go.Av
