/- Helping texts: Oe, Of. -/
import Derived.Test.YtkmlhdfpcjkekaaGreatKOd
set_option linter.unusedSimpArgs false
set_option linter.unusedVariables false
set_option maxRecDepth 100000
set_option maxHeartbeats 16000000
namespace Go.Av
theorem NY {a b M:Pt} (h:¬aJ a b M):∃ f:Pt→Rat,(∀ u v m,f (pt u v m)=(1-m)*f u+m*f v)∧f M<0∧0≤f a∧0≤f b:=by
 by_cases hab:a=b
 ·subst hab
  have hne:M≠a:=fun e=>h (by subst e;exact j8 _ _)
  refine ⟨fun P=>(P.x-a.x)*(a.x-M.x)+(P.y-a.y)*(a.y-M.y),fun u v m=>by unfold pt;simp only;grind,?_,by simp only;grind,by simp only;grind⟩
  have:=EW (a:=M) (b:=a) hne
  try simp only
  grind
 by_cases h0:ar a b M=0
 ·obtain ⟨m,rfl⟩:=JT hab h0
  have hl:=EW hab
  by_cases m0:0≤m
  ·have m1:1<m:=by
    rcases qlt 1 m with k|k
    ·exact k
    ·exact absurd ⟨m,m0,k,rfl⟩ h
   refine ⟨fun P=>(b.x-P.x)*(b.x-a.x)+(b.y-P.y)*(b.y-a.y),fun u v m=>by unfold pt;simp only;grind,?_,by simp only;grind,by simp only;grind⟩
   have:=au (show 0<m-1 by grind) hl
   unfold pt;simp only;grind
  ·refine ⟨fun P=>(P.x-a.x)*(b.x-a.x)+(P.y-a.y)*(b.y-a.y),fun u v m=>by unfold pt;simp only;grind,?_,by simp only;grind,by simp only;grind⟩
   have:=au (show 0< -m by grind) hl
   unfold pt;simp only;grind
 ·rcases eH (ar a b M) 0 with k|k|k
  ·exact ⟨fun P=>ar a b P,fun u v m=>by simp only [jn];grind,k,by simp only [pk];exact Rat.le_refl,by simp only [pj];exact Rat.le_refl⟩
  ·exact absurd k h0
  ·exact ⟨fun P=> -ar a b P,fun u v m=>by simp only [jn];grind,by simp only;grind,by simp only [pk];grind,by simp only [pj];grind⟩
theorem NX {a b M:Pt} (h:¬aJ a b M) (w:Pt):∃ e:Rat,0<e∧e≤1∧∀ x,0≤x→x≤e→¬aJ a b (pt M w x):=by
 obtain ⟨f,hf,fM,fa,fb⟩:=NY h
 obtain ⟨e,e0,e1,he⟩:=zk (-f w) (show 0< -f M by grind)
 refine ⟨e,e0,e1,fun x x0 x1 ⟨m,m0,m1,hm⟩=> ?_⟩
 have h1:=he x x0 x1
 have h2:=hf M w x
 rw [hm,hf] at h2
 have:=aj (show 0≤1-m by grind) fa
 have:=aj m0 fb
 grind
theorem uC {M:Pt} (w:Pt):∀ (S:List Sg),(∀ s∈S,¬aJ s.a s.b M)→∃ e:Rat,0<e∧e≤1∧∀ s∈S,∀ x,0≤x→x≤e→¬aJ s.a s.b (pt M w x)
 |[],_=>⟨1,by decide+kernel,by decide+kernel,fun s hs=>by cases hs⟩
 |s::S,h=>by
  obtain ⟨e,e0,e1,he⟩:=uC w S fun t ht=>h t (ag _ ht)
  obtain ⟨d,d0,d1,hd⟩:=NX (h s (ah ..)) w
  rcases qlt e d with k|k
  ·exact ⟨e,e0,e1,fun t ht x x0 x1=>by
    rcases ay.1 ht with rfl|ht
    ·exact hd x x0 (by grind)
    ·exact he t ht x x0 x1⟩
  ·exact ⟨d,d0,d1,fun t ht x x0 x1=>by
    rcases ay.1 ht with rfl|ht
    ·exact hd x x0 x1
    ·exact he t ht x x0 (by grind)⟩
theorem zM {f g:Sg→Bool} {e:Sg}:∀ {E:List Sg},E.Nodup→e∈E→(∀ s∈E,s≠e→f s=g s)→f e= !g e→bV f E= !bV g E
 |s::E,hn,he,hs,hf=>by
  rw [cV] at hn
  rw [bV,bV]
  rcases ay.1 he with rfl|he
  ·rw [hf,jl (f:=f) (g:=g) fun t ht=>hs t (ag _ ht) (fun k=>hn.1 (by rw [←k];exact ht))]
   cases g e<;>cases bV g E<;>rfl
  ·have hse:s≠e:=fun k=>hn.1 (by rw [k];exact he)
   rw [hs s (ah ..) hse,zM hn.2 he (fun t ht=>hs t (ag _ ht)) hf]
   cases g s<;>cases bV g E<;>rfl
theorem yP {l:List Pt} (h:jo l):(aU l).Nodup:=by
 have:=h.nodup
 rw [←qk l] at this
 exact (List.pairwise_map.1 this).imp fun h e=>h (by rw [e])
theorem Ks {a b u:Pt} (h:a.y=b.y):decide (chi a b u)=false:=ak fun k=>by obtain ⟨k1,k2,_⟩:=k;grind
theorem O2 {l:List Pt} (h:jo l) {e:Sg} (he:e∈aU l) {M:Pt} (hM:∃ m,0<m∧m<1∧M=pt e.a e.b m) (hy:e.a.y≠e.b.y) {d:Rat} (hd:0<d)
 (hc:∀ s∈aU l,s≠e→¬ez ⟨M.x-d,M.y⟩ ⟨M.x+d,M.y⟩ s.a s.b):bW l ⟨M.x-d,M.y⟩ l.length= !bW l ⟨M.x+d,M.y⟩ l.length:=by
 rw [iw,iw]
 refine zM (yP h) he (fun s hs hne=> ?_) ?_
 ·have:=wP (a:=⟨M.x-d,M.y⟩) (b:=⟨M.x+d,M.y⟩) (u:=s.a) (v:=s.b) (by simp) (hc s hs hne)
  rw [Ks (a:=⟨M.x-d,M.y⟩) (b:=⟨M.x+d,M.y⟩) rfl,Ks (a:=⟨M.x-d,M.y⟩) (b:=⟨M.x+d,M.y⟩) rfl] at this
  cases h1:cr ⟨M.x-d,M.y⟩ s.a s.b<;>cases h2:cr ⟨M.x+d,M.y⟩ s.a s.b<;>simp_all
 ·obtain ⟨m,m0,m1,rfl⟩:=hM
  have key:∀ {u v:Pt} {t:Rat},u.y<v.y→0<t→t<1→(pt e.a e.b m)=pt u v t→crU ⟨(pt e.a e.b m).x-d,(pt e.a e.b m).y⟩ u v∧¬crU ⟨(pt e.a e.b m).x+d,(pt e.a e.b m).y⟩ u v:=by
   intro u v t huv t0 t1 ht
   rw [ht]
   have p1:=au t0 (show 0<v.y-u.y by grind)
   have p2:=au (show 0<1-t by grind) (show 0<v.y-u.y by grind)
   have p3:=au hd (show 0<v.y-u.y by grind)
   unfold crU ar pt
   try simp only
   refine ⟨⟨by grind,by grind,by grind⟩,fun k=>by have:=k.2.2;grind⟩
  unfold cr
  by_cases k:e.a.y≤e.b.y
  ·rw [if_pos k,if_pos k]
   obtain ⟨q1,q2⟩:=key (u:=e.a) (v:=e.b) (t:=m) (by grind) m0 m1 rfl
   rw [an q1,ak q2];rfl
  ·rw [if_neg k,if_neg k]
   obtain ⟨q1,q2⟩:=key (u:=e.b) (v:=e.a) (t:=1-m) (by grind) (by grind) (by grind) (Pt.ext (by unfold pt;simp only;grind) (by unfold pt;simp only;grind))
   rw [an q1,ak q2];rfl
theorem O1 {l:List Pt} (h:jo l) {e:Sg} (he:e∈aU l) {M:Pt} (hM:∃ m,0<m∧m<1∧M=pt e.a e.b m) (hy:e.a.y=e.b.y) {d:Rat} (hd:0<d)
 (hc:∀ s∈aU l,s≠e→¬ez ⟨M.x,M.y-d⟩ ⟨M.x,M.y+d⟩ s.a s.b):bW l ⟨M.x,M.y-d⟩ l.length= !bW l ⟨M.x,M.y+d⟩ l.length:=by
 rw [iw,iw]
 have hz:=wX (fun p=>decide (chi ⟨M.x,M.y-d⟩ ⟨M.x,M.y+d⟩ p)) l
 have h1:bV (fun s=>cr ⟨M.x,M.y-d⟩ s.a s.b^^cr ⟨M.x,M.y+d⟩ s.a s.b) (aU l)= !bV (fun s=>decide (chi ⟨M.x,M.y-d⟩ ⟨M.x,M.y+d⟩ s.a)^^decide (chi ⟨M.x,M.y-d⟩ ⟨M.x,M.y+d⟩ s.b)) (aU l):=by
  refine zM (yP h) he (fun s hs hne=>wP (by simp only;grind) (hc s hs hne)) ?_
  obtain ⟨m,m0,m1,rfl⟩:=hM
  have n1:∀ p:Pt,cr p e.a e.b=false:=fun p=>by
   unfold cr crU
   rw [if_pos (by rw [hy];exact Rat.le_refl)]
   exact ak fun k=>by obtain ⟨k1,k2,_⟩:=k;grind
  rw [n1,n1]
  have hx:e.a.x≠e.b.x:=fun k=>(vne h he) (Pt.ext k hy)
  have c1:∀ p:Pt,p.y=(pt e.a e.b m).y→(chi ⟨(pt e.a e.b m).x,(pt e.a e.b m).y-d⟩ ⟨(pt e.a e.b m).x,(pt e.a e.b m).y+d⟩ p↔(pt e.a e.b m).x<p.x):=by
   intro p hp
   unfold chi ar
   try simp only
   rw [hp]
   constructor
   ·rintro ⟨_,_,k⟩
    rcases qlt (pt e.a e.b m).x p.x with j|j
    ·exact j
    ·have:=aj (show 0≤d by grind) (show 0≤(pt e.a e.b m).x-p.x by grind);grind
   ·intro k
    have:=au hd (show 0<p.x-(pt e.a e.b m).x by grind)
    exact ⟨by grind,by grind,by grind⟩
  have ya:e.a.y=(pt e.a e.b m).y:=by unfold pt;simp only;grind
  have yb:e.b.y=(pt e.a e.b m).y:=by unfold pt;simp only;grind
  have ca:=c1 e.a ya
  have cb:=c1 e.b yb
  have hxm:(pt e.a e.b m).x=e.a.x+m*(e.b.x-e.a.x):=rfl
  rcases eH e.a.x e.b.x with k|k|k
  ·have p1:=au m0 (show 0<e.b.x-e.a.x by grind)
   have p2:=au (show 0<1-m by grind) (show 0<e.b.x-e.a.x by grind)
   rw [ak (fun h=>by have:=ca.1 h;grind),an (cb.2 (by grind))];rfl
  ·exact absurd k hx
  ·have p1:=au m0 (show 0<e.a.x-e.b.x by grind)
   have p2:=au (show 0<1-m by grind) (show 0<e.a.x-e.b.x by grind)
   rw [an (ca.2 (by grind)),ak (fun h=>by have:=cb.1 h;grind)];rfl
 rw [hz,m6] at h1
 cases k1:bV (fun s=>cr ⟨M.x,M.y-d⟩ s.a s.b) (aU l)<;>cases k2:bV (fun s=>cr ⟨M.x,M.y+d⟩ s.a s.b) (aU l)<;>simp_all
where vne {l:List Pt} (h:jo l) {e:Sg} (he:e∈aU l):e.a≠e.b:=h.good.seg_ne e he
end Go.Av
namespace Go.Av
variable {L:List Pt} {Hs:List (List Pt)}
theorem tS (h:da L Hs) {l m:List Pt} (hl:l∈L::Hs) (hm:m∈L::Hs) (hne:l≠m) {e:Sg} (he:e∈aU l):e∉aU m:=fun k=>by
 rcases CO h hl hm with q|q
 ·exact hne q
 ·exact q e he e k ⟨e.a,j8 _ _,j8 _ _⟩
theorem JF (h:da L Hs) {x:List Pt} (hx:x∈Hs):x≠L:=fun e=>by
 have hn:=h.mo x hx
 rw [e] at hn
 have:=h.out.lo
 have hm:=kC (A:=L) (i:=0) (by omega)
 exact hn _ hm _ hm ⟨_,j8 _ _,j8 _ _⟩
theorem LR (h:da L Hs) {e:Sg} (he:e∈aU L) {M w:Pt} (hM:aJ e.a e.b M) (hc:∀ s∈kr L Hs,s≠e→¬ez M w s.a s.b) (hw:¬aJ e.a e.b w) (ho:bW L w L.length=true):inP L Hs w:=by
 rw [pL h]
 refine ⟨fun s hs k=> ?_,ho,fun x hx=> ?_⟩
 ·by_cases hse:s=e
  ·rw [hse] at k;exact hw k
  ·exact hc s hs hse ⟨w,mI _ _,k⟩
 ·have hx':=ag L hx
  rw [←sd (p:=M) fun s hs=>hc s (kY hx' hs) fun k=>tS h (ah ..) hx' (JF h hx).symm he (by rw [←k];exact hs)]
  rw [nX (h.mo x hx).symm he hM]
  exact Av.around (h.mo x hx) (fun k=>by have:=(h.holes x hx).lo;rw [k] at this;simp at this) h.out.ne (h.wo x hx) _ (j6 he).1
theorem OM (h:da L Hs) {y:List Pt} (hy:y∈Hs) {e:Sg} (he:e∈aU y) {M w:Pt} (hM:aJ e.a e.b M) (hc:∀ s∈kr L Hs,s≠e→¬ez M w s.a s.b) (hw:¬aJ e.a e.b w) (ho:bW y w y.length=false):inP L Hs w:=by
 have hy':=ag L hy
 rw [pL h]
 refine ⟨fun s hs k=> ?_,?_,fun x hx=> ?_⟩
 ·by_cases hse:s=e
  ·rw [hse] at k;exact hw k
  ·exact hc s hs hse ⟨w,mI _ _,k⟩
 ·rw [←sd (p:=M) fun s hs=>hc s (kY (ah ..) hs) fun k=>tS h hy' (ah ..) (JF h hy) he (by rw [←k];exact hs)]
  rw [nX (h.mo y hy) he hM]
  exact h.wo y hy _ (j6 he).1
 ·by_cases hxy:x=y
  ·rw [hxy];exact ho
  ·have hx':=ag L hx
   have sep:Sep y x:=by
    obtain ⟨i,hi,rfl⟩:=bK.1 hx
    obtain ⟨j,hj,rfl⟩:=bK.1 hy
    rcases Nat.lt_trichotomy i j with k|k|k
    ·exact (bN.1 h.pw i j hi hj k).symm
    ·subst k;exact absurd rfl hxy
    ·exact bN.1 h.pw j i hj hi k
   rw [←sd (p:=M) fun s hs=>hc s (kY hx' hs) fun k=>tS h hy' hx' (fun q=>hxy q.symm) he (by rw [←k];exact hs)]
   rw [nX sep.nm he hM]
   exact sep.ba _ (j6 he).1
theorem tx (a b:Pt):aJ a b (pt a b (1/2)):=⟨1/2,by decide+kernel,by decide+kernel,rfl⟩
theorem ES {a b:Pt} (h:a≠b):pt a b (1/2)≠a∧pt a b (1/2)≠b:=by
 refine ⟨fun e=>h ?_,fun e=>h ?_⟩<;>
 ·have h1:=congrArg Pt.x e;have h2:=congrArg Pt.y e
  unfold pt at h1 h2;simp only at h1 h2
  exact Pt.ext (by grind) (by grind)
theorem Ow {S:List Sg} {C:List Pt} (n:Net C S) {s t:Sg} (hs:s∈S) (ht:t∈S) (k:aJ t.a t.b (pt s.a s.b (1/2))):eF t s:=by
 rcases n.cross t ht s hs _ k (tx _ _) with q|q
 ·exact q
 ·have m:=ES (n.ne s hs)
  rcases q.2 with j|j
  ·exact absurd j m.1
  ·exact absurd j m.2
theorem JR {S:List Sg} {C:List Pt} (n:Net C S) {s:Sg} (hs:s∈S) {v:Pt} {d:Rat} (d0:0<d) (hv:ar s.a s.b v≠0)
 (hd:∀ t∈S,¬aJ t.a t.b (pt s.a s.b (1/2))→∀ x,0≤x→x≤d→¬aJ t.a t.b (pt (pt s.a s.b (1/2)) v x)):zn S (pt s.a s.b (1/2)) (pt (pt s.a s.b (1/2)) v d):=by
 rintro t ht P p1 ⟨x,x0,x1,hP⟩
 have e0:pt (pt s.a s.b (1/2)) v 0=pt s.a s.b (1/2):=Gl _ _
 have hxd:P=pt (pt s.a s.b (1/2)) v (x*d):=by
  rw [hP]
  have:=pn (pt s.a s.b (1/2)) v 0 d x
  rw [e0] at this
  rw [this,show (0:Rat)+x*(d-0)=x*d by grind]
 have y0:0≤x*d:=aj x0 (ai d0)
 have y1:x*d≤d:=by have:=aj (show 0≤1-x by grind) (ai d0);grind
 by_cases k:aJ t.a t.b (pt s.a s.b (1/2))
 ·have hsame:=Ow n hs ht k
  have hz:ar s.a s.b P=0:=by
   rcases hsame with q|q
   ·rw [q] at p1;exact iv p1
   ·rw [q] at p1;have:=iv (cH p1);exact this
  rw [hxd,jn,jn,pk,pj] at hz
  have:x*d*ar s.a s.b v=0:=by grind
  rcases br.1 this with j|j
  ·rw [hxd,j,e0]
  ·exact absurd j hv
 ·exact absurd (by rw [←hxd];exact p1) (hd t ht k (x*d) y0 y1)
theorem Jc (a b w:Pt) (x:Rat):ar a b (pt (pt a b (1/2)) w x)=x*ar a b w:=by rw [jn,jn,pk,pj];grind
theorem Ky (a b w:Pt):ar b a w= -ar a b w:=by unfold ar;grind
theorem GE (a b:Pt):pt b a (1/2)=pt a b (1/2):=Pt.ext (by unfold pt;simp only;grind) (by unfold pt;simp only;grind)
theorem Pg {S:List Sg} {I:Pt→Prop} {s:Sg} (hs:s∈S) {w:Pt} (hw:ar s.a s.b w≠0) (hI:I w) (ho:zn S (pt s.a s.b (1/2)) w):
 (0<ar s.a s.b w→Dir S I s.a s.b)∧(ar s.a s.b w<0→Dir S I s.b s.a):=by
 refine ⟨fun k=>⟨⟨s,hs,.inl rfl⟩,1/2,w,by decide+kernel,by decide+kernel,k,hI,ho⟩,fun k=>⟨⟨s,hs,.inr rfl⟩,1/2,w,by decide+kernel,by decide+kernel,by rw [Ky];grind,hI,by rw [GE];exact ho⟩⟩
theorem Hb (h:da L Hs) {s:Sg} (hs:s∈gX L Hs):inP L Hs (pt s.a s.b (1/2)):=by
 have:=Kn h.rgs (jA hs) (t:=1/2) (by decide+kernel) (by decide+kernel)
 rw [yZ] at this
 exact this
theorem Bt (h:da L Hs) {s:Sg} (hs:s∈gX L Hs):Dir (fU L Hs) (inP L Hs) s.a s.b∧Dir (fU L Hs) (inP L Hs) s.b s.a:=by
 have n:=pT h
 have hS:s∈fU L Hs:=bC _ hs
 have hI:=Hb h hs
 have go:∀ v:Pt,ar s.a s.b v≠0→(0<ar s.a s.b v→Dir (fU L Hs) (inP L Hs) s.a s.b)∧(ar s.a s.b v<0→Dir (fU L Hs) (inP L Hs) s.b s.a):=by
  intro v hv
  obtain ⟨d,d0,d1,hd⟩:=uC (M:=pt s.a s.b (1/2)) v ((fU L Hs).filter fun t=>¬ @decide (aJ t.a t.b (pt s.a s.b (1/2))) (Classical.propDecidable _)) (fun t ht=>by
   have:=(iD.1 ht).2
   simpa using this)
  have hd':∀ t∈fU L Hs,¬aJ t.a t.b (pt s.a s.b (1/2))→∀ x,0≤x→x≤d→¬aJ t.a t.b (pt (pt s.a s.b (1/2)) v x):=fun t ht k=>hd t (iD.2 ⟨ht,by simpa using k⟩)
  have ho:=JR n hS d0 hv hd'
  have hw:inP L Hs (pt (pt s.a s.b (1/2)) v d):=GP h (fun e he=>by
   rintro ⟨P,p1,p2⟩
   have heS:e∈fU L Hs:=bg _ he
   have:=ho e heS P p2 p1
   rw [this] at p2
   exact ((pL h).1 hI).1 e he p2) hI
  have har:=Jc s.a s.b v d
  have hne:ar s.a s.b (pt (pt s.a s.b (1/2)) v d)≠0:=by
   rw [har];intro e
   rcases br.1 e with j|j
   ·grind
   ·exact hv j
  have:=Pg hS hne hw ho
  rw [har] at this
  exact ⟨fun k=>this.1 (au d0 k),fun k=>this.2 (by have:=au d0 (show 0< -ar s.a s.b v by grind);grind)⟩
 have hne:=n.ne s hS
 have hl:=EW hne
 have e1:ar s.a s.b ⟨s.a.x-(s.b.y-s.a.y),s.a.y+(s.b.x-s.a.x)⟩=(s.b.x-s.a.x)*(s.b.x-s.a.x)+(s.b.y-s.a.y)*(s.b.y-s.a.y):=by unfold ar;simp only;grind
 have e2:ar s.a s.b ⟨s.a.x+(s.b.y-s.a.y),s.a.y-(s.b.x-s.a.x)⟩= -((s.b.x-s.a.x)*(s.b.x-s.a.x)+(s.b.y-s.a.y)*(s.b.y-s.a.y)):=by unfold ar;simp only;grind
 exact ⟨(go _ (by rw [e1];grind)).1 (by rw [e1];exact hl),(go _ (by rw [e2];grind)).2 (by rw [e2];grind)⟩
theorem G6 (h:da L Hs) {e:Sg} (he:e∈kr L Hs):Dir (fU L Hs) (inP L Hs) e.a e.b∨Dir (fU L Hs) (inP L Hs) e.b e.a:=by
 have n:=pT h
 have hS:e∈fU L Hs:=bg _ he
 have hne:=uG h he
 obtain ⟨l,hl,hel⟩:=nI he
 have hR:=oT h hl
 generalize hMd:pt e.a e.b (1/2)=M
 have hM:aJ e.a e.b M:=by rw [←hMd];exact tx _ _
 have two:∃ v1 v2:Pt,ar e.a e.b v1≠0∧ar e.a e.b v2≠0∧∀ d:Rat,0<d→(∀ s∈aU l,s≠e→∀ x,0≤x→x≤d→¬aJ s.a s.b (pt M v1 x)∧¬aJ s.a s.b (pt M v2 x))→bW l (pt M v1 d) l.length= !bW l (pt M v2 d) l.length:=by
  have mm:∃ m:Rat,0<m∧m<1∧M=pt e.a e.b m:=⟨1/2,by decide+kernel,by decide+kernel,hMd.symm⟩
  have split:∀ (v1 v2 P:Pt) (d:Rat),0<d→v1.x-M.x= -(v2.x-M.x)→v1.y-M.y= -(v2.y-M.y)→aJ (pt M v1 d) (pt M v2 d) P→∃ x,0≤x∧x≤d∧(P=pt M v1 x∨P=pt M v2 x):=by
   rintro v1 v2 P d d0 ex ey ⟨m,m0,m1,rfl⟩
   rcases qlt (1/2) m with k|k
   ·have q0:=aj (show 0≤2*m-1 by grind) (ai d0)
    have q1:=aj (show 0≤2-2*m by grind) (ai d0)
    refine ⟨(2*m-1)*d,q0,by grind,.inr (Pt.ext ?_ ?_)⟩<;>(unfold pt;simp only;grind)
   ·have q0:=aj (show 0≤1-2*m by grind) (ai d0)
    have q1:=aj (show 0≤2*m by grind) (ai d0)
    refine ⟨(1-2*m)*d,q0,by grind,.inl (Pt.ext ?_ ?_)⟩<;>(unfold pt;simp only;grind)
  have arM:ar e.a e.b M=0:=iv hM
  by_cases hy:e.a.y=e.b.y
  ·have hx:e.a.x≠e.b.x:=fun k=>hne (Pt.ext k hy)
   refine ⟨⟨M.x,M.y-1⟩,⟨M.x,M.y+1⟩,?_,?_,fun d d0 hc=> ?_⟩
   ·unfold ar at arM ⊢;simp only;grind
   ·unfold ar at arM ⊢;simp only;grind
   ·have e1:pt M ⟨M.x,M.y-1⟩ d=⟨M.x,M.y-d⟩:=Pt.ext (by unfold pt;simp only;grind) (by unfold pt;simp only;grind)
    have e2:pt M ⟨M.x,M.y+1⟩ d=⟨M.x,M.y+d⟩:=Pt.ext (by unfold pt;simp only;grind) (by unfold pt;simp only;grind)
    rw [e1,e2]
    refine O1 hR hel mm hy d0 fun s hs hse=> ?_
    rintro ⟨P,p1,p2⟩
    rw [←e1,←e2] at p1
    obtain ⟨x,x0,x1,k⟩:=split _ _ P d d0 (by simp only;grind) (by simp only;grind) p1
    have:=hc s hs hse x x0 x1
    rcases k with k|k
    ·rw [k] at p2;exact this.1 p2
    ·rw [k] at p2;exact this.2 p2
  ·refine ⟨⟨M.x-1,M.y⟩,⟨M.x+1,M.y⟩,?_,?_,fun d d0 hc=> ?_⟩
   ·unfold ar at arM ⊢;simp only;grind
   ·unfold ar at arM ⊢;simp only;grind
   ·have e1:pt M ⟨M.x-1,M.y⟩ d=⟨M.x-d,M.y⟩:=Pt.ext (by unfold pt;simp only;grind) (by unfold pt;simp only;grind)
    have e2:pt M ⟨M.x+1,M.y⟩ d=⟨M.x+d,M.y⟩:=Pt.ext (by unfold pt;simp only;grind) (by unfold pt;simp only;grind)
    rw [e1,e2]
    refine O2 hR hel mm hy d0 fun s hs hse=> ?_
    rintro ⟨P,p1,p2⟩
    rw [←e1,←e2] at p1
    obtain ⟨x,x0,x1,k⟩:=split _ _ P d d0 (by simp only;grind) (by simp only;grind) p1
    have:=hc s hs hse x x0 x1
    rcases k with k|k
    ·rw [k] at p2;exact this.1 p2
    ·rw [k] at p2;exact this.2 p2
 obtain ⟨v1,v2,a1,a2,hflip⟩:=two
 have off:∀ v:Pt,∃ d:Rat,0<d∧d≤1∧∀ t∈fU L Hs,¬aJ t.a t.b M→∀ x,0≤x→x≤d→¬aJ t.a t.b (pt M v x):=fun v=>by
  obtain ⟨d,d0,d1,hd⟩:=uC (M:=M) v ((fU L Hs).filter fun t=>¬ @decide (aJ t.a t.b M) (Classical.propDecidable _)) (fun t ht=>by
   have:=(iD.1 ht).2
   simpa using this)
  exact ⟨d,d0,d1,fun t ht k=>hd t (iD.2 ⟨ht,by simpa using k⟩)⟩
 obtain ⟨d1,d10,_,hd1⟩:=off v1
 obtain ⟨d2,d20,_,hd2⟩:=off v2
 have hmin:∃ d:Rat,0<d∧d≤d1∧d≤d2:=by
  rcases qlt d1 d2 with k|k
  ·exact ⟨d1,d10,Rat.le_refl,by grind⟩
  ·exact ⟨d2,d20,k,Rat.le_refl⟩
 obtain ⟨d,d0,k1,k2⟩:=hmin
 have offE:∀ s∈kr L Hs,s≠e→¬aJ s.a s.b M:=fun s hs hse k=>by
  rcases o8 h hs he k hM with j|j
  ·exact hse j
  ·have m:=ES hne
   rw [hMd] at m
   rcases j.2 with q|q
   ·exact m.1 q
   ·exact m.2 q
 have fl:=hflip d d0 fun s hs hse x x0 x1=>⟨hd1 s (bg _ (kY hl hs)) (offE s (kY hl hs) hse) x x0 (by grind),hd2 s (bg _ (kY hl hs)) (offE s (kY hl hs) hse) x x0 (by grind)⟩
 have pick:∀ b:Bool,∃ v,ar e.a e.b v≠0∧(∀ t∈fU L Hs,¬aJ t.a t.b M→∀ x,0≤x→x≤d→¬aJ t.a t.b (pt M v x))∧bW l (pt M v d) l.length=b:=fun b=>by
  cases hb:bW l (pt M v2 d) l.length with
  |true=>
   rw [hb] at fl
   cases b with
   |true=>exact ⟨v2,a2,fun t ht k x x0 x1=>hd2 t ht k x x0 (by grind),hb⟩
   |false=>exact ⟨v1,a1,fun t ht k x x0 x1=>hd1 t ht k x x0 (by grind),fl⟩
  |false=>
   rw [hb] at fl
   cases b with
   |true=>exact ⟨v1,a1,fun t ht k x x0 x1=>hd1 t ht k x x0 (by grind),fl⟩
   |false=>exact ⟨v2,a2,fun t ht k x x0 x1=>hd2 t ht k x x0 (by grind),hb⟩
 have fin:∀ v,ar e.a e.b v≠0→(∀ t∈fU L Hs,¬aJ t.a t.b M→∀ x,0≤x→x≤d→¬aJ t.a t.b (pt M v x))→((∀ s∈kr L Hs,s≠e→¬ez M (pt M v d) s.a s.b)→¬aJ e.a e.b (pt M v d)→inP L Hs (pt M v d))→
  Dir (fU L Hs) (inP L Hs) e.a e.b∨Dir (fU L Hs) (inP L Hs) e.b e.a:=by
  intro v hv hd hI
  have ho:zn (fU L Hs) M (pt M v d):=by
   have:=JR n hS d0 hv (by rw [hMd];exact hd)
   rwa [hMd] at this
  have har:ar e.a e.b (pt M v d)=d*ar e.a e.b v:=by rw [←hMd];exact Jc ..
  have hne2:ar e.a e.b (pt M v d)≠0:=by
   rw [har];intro q
   rcases br.1 q with j|j
   ·grind
   ·exact hv j
  have hin:=hI (fun s hs hse=>by
   rintro ⟨P,p1,p2⟩
   have:=ho s (bg _ hs) P p2 p1
   rw [this] at p2
   exact offE s hs hse p2) (fun k=>hne2 (iv k))
  have:=Pg hS hne2 hin (by rw [hMd];exact ho)
  rcases eH (ar e.a e.b (pt M v d)) 0 with k|k|k
  ·exact .inr (this.2 k)
  ·exact absurd k hne2
  ·exact .inl (this.1 k)
 rcases ay.1 hl with e1|e1
 ·obtain ⟨v,hv,hd,hb⟩:=pick true
  rw [e1] at hel hb
  exact fin v hv hd fun c1 c2=>LR h hel hM c1 c2 hb
 ·obtain ⟨v,hv,hd,hb⟩:=pick false
  exact fin v hv hd fun c1 c2=>OM h e1 hel hM c1 c2 hb
theorem M9 (h:da L Hs) {s:Sg} (hs:s∈fU L Hs):∃ a b c,eF s ⟨a,b⟩∧TrS (dE L Hs) (fU L Hs) a b c∧∀ x,InO a b c x→inP L Hs x:=by
 have R:=region h
 have hd:Dir (fU L Hs) (inP L Hs) s.a s.b∨Dir (fU L Hs) (inP L Hs) s.b s.a:=by
  rcases aF.1 hs with k|k
  ·exact G6 h k
  ·exact .inl (Bt h k).1
 rcases hd with k|k
 ·obtain ⟨c,h1,_,_,h2⟩:=R.tri k
  exact ⟨s.a,s.b,c,.inl rfl,h1,h2⟩
 ·obtain ⟨c,h1,_,_,h2⟩:=R.tri k
  exact ⟨s.b,s.a,c,.inr rfl,h1,h2⟩
end Go.Av
