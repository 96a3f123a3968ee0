/- Helping texts: Na, Nb, Lb, Lc, Ld. -/
import Derived.Test.YtkmlhdfpcjkekaaGreatKMm
import Derived.Test.YtkmlhdfpcjkekaaGreatKDf
import Derived.Test.YtkmlhdfpcjkekaaGreatKDv
import Derived.Test.YtkmlhdfpcjkekaaGreatKFa
set_option linter.unusedSimpArgs false
set_option linter.unusedVariables false
set_option maxRecDepth 100000
set_option maxHeartbeats 16000000
namespace Go.Av
theorem BN (p q r w:Pt):ar p q w+ar q r w+ar r p w=ar p q r:=by unfold ar;grind
theorem PA (p q r w:Pt):ar p q r*w.x=ar q r w*p.x+ar r p w*q.x+ar p q w*r.x:=by unfold ar;grind
theorem Ja (p q r w:Pt):ar p q r*w.y=ar q r w*p.y+ar r p w*q.y+ar p q w*r.y:=by unfold ar;grind
theorem ld (p q r:Pt):ar q r p=ar p q r:=by unfold ar;grind
theorem iu (p q r:Pt):ar r p q=ar p q r:=by unfold ar;grind
theorem uM (p q r:Pt):ar q p r= -ar p q r:=by unfold ar;grind
theorem cL (p q:Pt):ar p q p=0:=by unfold ar;grind
theorem cw (p q:Pt):ar p q q=0:=by unfold ar;grind
structure InT (p q r w:Pt):Prop where
 a:0≤ar p q w
 b:0≤ar q r w
 c:0≤ar r p w
theorem InT.rot {p q r w:Pt} (h:InT p q r w):InT q r p w:=⟨h.b,h.c,h.a⟩
theorem InT.v1 {p q r:Pt} (h:0<ar p q r):InT p q r p:=⟨by rw [cL];exact Rat.le_refl,by rw [ld];exact ai h,by rw [cw];exact Rat.le_refl⟩
theorem InT.v2 {p q r:Pt} (h:0<ar p q r):InT p q r q:=⟨by rw [cw];exact Rat.le_refl,by rw [cL];exact Rat.le_refl,by rw [iu];exact ai h⟩
theorem InT.v3 {p q r:Pt} (h:0<ar p q r):InT p q r r:=⟨ai h,by rw [cw];exact Rat.le_refl,by rw [cL];exact Rat.le_refl⟩
theorem sh {a x y:Rat} (h:0<a) (e:a*x=a*y):x=y:=by
 have h0:a*(x-y)=0:=by grind
 rcases br.1 h0 with h1|h1
 ·rw [h1] at h;exact absurd h aL
 ·grind
theorem part {x a:Rat} (h:0<a) (h0:0≤x) (h1:x≤a):0≤x/a∧x/a≤1:=by
 have:=OX (p:=x) (q:=a-x) h0 (by grind) (by grind)
 rwa [show x+(a-x)=a by grind] at this
theorem qlt (a b:Rat):a<b∨b≤a:=by
 by_cases h:a<b
 ·exact .inl h
 ·exact .inr (Rat.not_lt.1 h)
theorem kM {p q r w:Pt} (h:0<ar p q r) (h0:ar p q w=0) (h1:0≤ar q r w) (h2:0≤ar r p w):aJ p q w:=by
 have b:=BN p q r w
 have e:ar p q r*(ar r p w/ar p q r)=ar r p w:=by rw [Rat.mul_comm];exact Rat.div_mul_cancel (by grind)
 have pr:=part h h2 (by grind)
 refine ⟨ar r p w/ar p q r,pr.1,pr.2,Pt.ext ?_ ?_⟩
 ·have:=PA p q r w
  refine sh h ?_
  unfold pt;simp only
  generalize ar r p w/ar p q r=m at*
  grind
 ·have:=Ja p q r w
  refine sh h ?_
  unfold pt;simp only
  generalize ar r p w/ar p q r=m at*
  grind
theorem iH (u v:Pt):pt u v 0=u:=by refine Pt.ext ?_ ?_<;>(unfold pt;simp only;grind)
theorem kD (u v:Pt):pt u v 1=v:=by refine Pt.ext ?_ ?_<;>(unfold pt;simp only;grind)
theorem tl {u v:Pt} {m:Rat} (h0:0≤m) (h1:m≤1):aJ u v (pt u v m):=⟨m,h0,h1,rfl⟩
theorem oM {f g:Rat} (h:0≤f) (k:g<0):∃ m,0≤m∧m<1∧f+m*(g-f)=0∧∀ x,x<m→0<f+x*(g-f):=by
 have hd:0<f-g:=by grind
 have e:f/(f-g)*(f-g)=f:=Rat.div_mul_cancel (by grind)
 have pr:=part hd h (by grind)
 refine ⟨f/(f-g),pr.1,?_,by grind,fun x hx=> ?_⟩
 ·rcases cf pr.2 with h1|h1
  ·exact h1
  ·rw [h1] at e;grind
 ·have:=au (show 0<f/(f-g)-x by grind) hd
  grind
theorem stay {p q r z f:Pt} (h:0<ar p q r) (hz:InT p q r z) (hk:0<ar q r z) (hf:ar q r z≤ar q r f) (n1:¬ez z f p q) (n2:¬ez z f r p):InT p q r f:=by
 have hkm:∀ m:Rat,0≤m→0<ar q r (pt z f m):=fun m hm=>by
  rw [jn]
  have:=aj hm (show 0≤ar q r f-ar q r z by grind)
  grind
 have hit1:∀ m:Rat,0≤m→m≤1→ar p q (pt z f m)=0→0≤ar r p (pt z f m)→False:=fun m h0 h1 e k=>
  n1 ⟨_,tl h0 h1,kM h e (ai (hkm m h0)) k⟩
 have hit2:∀ m:Rat,0≤m→m≤1→ar r p (pt z f m)=0→0≤ar p q (pt z f m)→False:=fun m h0 h1 e k=>
  n2 ⟨_,tl h0 h1,kM (p:=r) (q:=p) (r:=q) (by rw [iu];exact h) e k (ai (hkm m h0))⟩
 refine ⟨?_,by grind,?_⟩
 ·rcases qlt (ar p q f) 0 with k|k
  ·exfalso
   obtain ⟨m,m0,m1,me,mx⟩:=oM hz.a k
   rw [←jn] at me
   rcases qlt (ar r p (pt z f m)) 0 with k2|k2
   ·obtain ⟨n,n0,n1',ne,_⟩:=oM hz.c k2
    rw [jn] at ne
    have e2:ar r p (pt z f (n*m))=0:=by rw [jn];grind
    have hnm:0≤n*m:=aj n0 m0
    have hle:n*m≤m:=by
     have:=aj (show 0≤1-n by grind) m0
     grind
    refine hit2 (n*m) hnm (by grind) e2 ?_
    rcases cf hle with hlt|heq
    ·have:=mx _ hlt;rw [jn];exact ai this
    ·rw [heq,me];exact Rat.le_refl
   ·exact hit1 m m0 (ai m1) me k2
  ·exact k
 ·rcases qlt (ar r p f) 0 with k|k
  ·exfalso
   obtain ⟨m,m0,m1,me,mx⟩:=oM hz.c k
   rw [←jn] at me
   rcases qlt (ar p q (pt z f m)) 0 with k2|k2
   ·obtain ⟨n,n0,n1',ne,_⟩:=oM hz.a k2
    rw [jn] at ne
    have e2:ar p q (pt z f (n*m))=0:=by rw [jn];grind
    have hnm:0≤n*m:=aj n0 m0
    have hle:n*m≤m:=by
     have:=aj (show 0≤1-n by grind) m0
     grind
    refine hit1 (n*m) hnm (by grind) e2 ?_
    rcases cf hle with hlt|heq
    ·have:=mx _ hlt;rw [jn];exact ai this
    ·rw [heq,me];exact Rat.le_refl
   ·exact hit2 m m0 (ai m1) me k2
  ·exact k
end Go.Av
namespace Go.Av
theorem F2 {p q r z f:Pt} (h:0<ar p q r) (ha:0<ar p q z) (hc:0<ar r p z) (hk:0≤ar q r z) (hf:ar q r z<ar q r f) (n1:¬ez z f p q) (n2:¬ez z f r p):InT p q r f:=by
 have hkm:∀ m:Rat,0≤m→0≤ar q r (pt z f m):=fun m hm=>by
  rw [jn]
  have:=aj hm (show 0≤ar q r f-ar q r z by grind)
  grind
 have hit1:∀ m:Rat,0≤m→m≤1→ar p q (pt z f m)=0→0≤ar r p (pt z f m)→False:=fun m h0 h1 e k=>
  n1 ⟨_,tl h0 h1,kM h e (hkm m h0) k⟩
 have hit2:∀ m:Rat,0≤m→m≤1→ar r p (pt z f m)=0→0≤ar p q (pt z f m)→False:=fun m h0 h1 e k=>
  n2 ⟨_,tl h0 h1,kM (p:=r) (q:=p) (r:=q) (by rw [iu];exact h) e k (hkm m h0)⟩
 have sub:∀ {m n:Rat},0≤n→n<1→0≤m→n*m≤m:=fun {m n} n0 n1 m0=>by
  have:=aj (show 0≤1-n by grind) m0
  grind
 refine ⟨?_,by grind,?_⟩
 ·rcases qlt (ar p q f) 0 with k|k
  ·exfalso
   obtain ⟨m,m0,m1,me,mx⟩:=oM (ai ha) k
   rw [←jn] at me
   rcases qlt (ar r p (pt z f m)) 0 with k2|k2
   ·obtain ⟨n,n0,n1',ne,_⟩:=oM (ai hc) k2
    rw [jn] at ne
    have e2:ar r p (pt z f (n*m))=0:=by rw [jn];grind
    have hle:=sub n0 n1' m0
    refine hit2 (n*m) (aj n0 m0) (by grind) e2 ?_
    rcases cf hle with hlt|heq
    ·have:=mx _ hlt;rw [jn];exact ai this
    ·rw [heq,me];exact Rat.le_refl
   ·exact hit1 m m0 (ai m1) me k2
  ·exact k
 ·rcases qlt (ar r p f) 0 with k|k
  ·exfalso
   obtain ⟨m,m0,m1,me,mx⟩:=oM (ai hc) k
   rw [←jn] at me
   rcases qlt (ar p q (pt z f m)) 0 with k2|k2
   ·obtain ⟨n,n0,n1',ne,_⟩:=oM (ai ha) k2
    rw [jn] at ne
    have e2:ar p q (pt z f (n*m))=0:=by rw [jn];grind
    have hle:=sub n0 n1' m0
    refine hit1 (n*m) (aj n0 m0) (by grind) e2 ?_
    rcases cf hle with hlt|heq
    ·have:=mx _ hlt;rw [jn];exact ai this
    ·rw [heq,me];exact Rat.le_refl
   ·exact hit2 m m0 (ai m1) me k2
  ·exact k
def eF (s t:Sg):Prop:=s=t∨s=t.rev
structure Net (C:List Pt) (S:List Sg):Prop where
 ne:∀ s∈S,s.a≠s.b
 ea:∀ s∈S,s.a∈C
 eb:∀ s∈S,s.b∈C
 cross:∀ s∈S,∀ t∈S,∀ P,aJ s.a s.b P→aJ t.a t.b P→eF s t∨(P=s.a∨P=s.b)∧(P=t.a∨P=t.b)
 on:∀ s∈S,∀ c∈C,aJ s.a s.b c→c=s.a∨c=s.b
def nL (S:List Sg) (p q:Pt):Prop:=∀ s∈S,∀ P,aJ s.a s.b P→aJ p q P→P=p∨P=q
theorem iv {u v P:Pt} (h:aJ u v P):ar u v P=0:=by
 obtain ⟨m,_,_,rfl⟩:=h
 rw [jn,pk,pj];grind
theorem iB {u v P:Pt} (hne:u≠v) (h:ar u v P=0):∃ m,P=pt u v m:=JT hne h
theorem jt {u v:Pt} (hne:u≠v) {m n:Rat} (h:pt u v m=pt u v n):m=n:=by
 have hx:(m-n)*(v.x-u.x)=0:=by have:=congrArg Pt.x h;unfold pt at this;simp only at this;grind
 have hy:(m-n)*(v.y-u.y)=0:=by have:=congrArg Pt.y h;unfold pt at this;simp only at this;grind
 rcases br.1 hx with k|k
 ·grind
 ·rcases br.1 hy with k2|k2
  ·grind
  ·exact absurd (Pt.ext (by grind) (by grind)) hne
theorem EK {m d P:Pt} {l:Rat} (h0:0≤l) (h1:l≤1) (h:aJ m (pt m d l) P):∃ k,0≤k∧k≤l∧P=pt m d k:=by
 obtain ⟨n,n0,n1,rfl⟩:=h
 refine ⟨n*l,aj n0 h0,?_,?_⟩
 ·have:=aj (show 0≤1-n by grind) h0
  grind
 ·refine Pt.ext ?_ ?_<;>(unfold pt;simp only;grind)
theorem Sm {m d:Pt} {k l:Rat} (h0:0≤k) (h1:k≤l) (hl:0<l):aJ m (pt m d l) (pt m d k):=by
 have pr:=part hl h0 h1
 have e:k/l*l=k:=Rat.div_mul_cancel (by grind)
 refine ⟨k/l,pr.1,pr.2,?_⟩
 generalize k/l=n at*
 subst e
 refine Pt.ext ?_ ?_<;>(unfold pt;simp only;grind)
theorem QF {m d:Pt} (hne:m≠d) {s:Sg} (hs:s.a≠s.b) (hm:aJ s.a s.b m→ar s.a s.b d≠0) {l:Rat} (l0:0<l) (l1:l≤1):
 (∀ k,0<k→k<l→¬aJ s.a s.b (pt m d k))∨∃ k,0<k∧k<l∧aJ s.a s.b (pt m d k)∧∀ n,0<n→n<k→¬aJ s.a s.b (pt m d n):=by
 by_cases hex:∃ k,0<k∧k<l∧aJ s.a s.b (pt m d k)
 ·right
  obtain ⟨k,k0,kl,hk⟩:=hex
  have e1:=iv hk
  rw [jn] at e1
  by_cases hc:ar s.a s.b d=ar s.a s.b m
  ·have z1:ar s.a s.b m=0:=by grind
   have z2:ar s.a s.b d=0:=by grind
   have hmo:¬aJ s.a s.b m:=fun h=>hm h z2
   obtain ⟨x,hx⟩:=iB hs z1
   obtain ⟨y,hy⟩:=iB hs z2
   obtain ⟨w,w0,w1,hw⟩:=hk
   have hxy:x≠y:=fun e=>hne (by rw [hx,hy,e])
   have hk2:pt m d k=pt s.a s.b (x+k*(y-x)):=by rw [hx,hy,pn]
   have ew:w=x+k*(y-x):=jt hs (hw.symm.trans hk2)
   have par:∀ n,aJ s.a s.b (pt m d n)↔0≤x+n*(y-x)∧x+n*(y-x)≤1:=fun n=>by
    have e:pt m d n=pt s.a s.b (x+n*(y-x)):=by rw [hx,hy,pn]
    constructor
    ·rintro ⟨v,v0,v1,hv⟩
     rw [e] at hv
     have:=jt hs hv
     rw [this];exact ⟨v0,v1⟩
    ·rintro ⟨v0,v1⟩;exact ⟨_,v0,v1,e⟩
   have hx01:¬(0≤x∧x≤1):=fun h=>hmo (by rw [hx];exact ⟨x,h.1,h.2,rfl⟩)
   rcases qlt x 0 with hx0|hx0
   ·have hd:0<y-x:=by
     rcases qlt 0 (y-x) with h|h
     ·exact h
     ·have:=aj (ai k0) (show 0≤ -(y-x) by grind)
      grind
    have e: -x/(y-x)*(y-x)= -x:=Rat.div_mul_cancel (by grind)
    have le: -x/(y-x)≤k:=by
     rcases qlt k (-x/(y-x)) with h|h
     ·have:=au (show 0< -x/(y-x)-k by grind) hd;grind
     ·exact h
    have pos:0< -x/(y-x):=by
     rcases qlt 0 (-x/(y-x)) with h|h
     ·exact h
     ·have:=aj (show 0≤ -(-x/(y-x)) by grind) (ai hd);grind
    generalize-x/(y-x)=n at*
    refine ⟨n,pos,by grind,(par n).2 ⟨by grind,by grind⟩,fun n' n0 n1 h=> ?_⟩
    have:=((par n').1 h).1
    have:=au (show 0<n-n' by grind) hd
    grind
   ·have hx1:1<x:=by grind
    have hd:0<x-y:=by
     rcases qlt 0 (x-y) with h|h
     ·exact h
     ·have:=aj (ai k0) (show 0≤ -(x-y) by grind)
      grind
    have e:(x-1)/(x-y)*(x-y)=x-1:=Rat.div_mul_cancel (by grind)
    have le:(x-1)/(x-y)≤k:=by
     rcases qlt k ((x-1)/(x-y)) with h|h
     ·have:=au (show 0<(x-1)/(x-y)-k by grind) hd;grind
     ·exact h
    have pos:0<(x-1)/(x-y):=by
     rcases qlt 0 ((x-1)/(x-y)) with h|h
     ·exact h
     ·have:=aj (show 0≤ -((x-1)/(x-y)) by grind) (ai hd);grind
    generalize (x-1)/(x-y)=n at*
    refine ⟨n,pos,by grind,(par n).2 ⟨by grind,by grind⟩,fun n' n0 n1 h=> ?_⟩
    have:=((par n').1 h).2
    have:=au (show 0<n-n' by grind) hd
    grind
  ·refine ⟨k,k0,kl,hk,fun n n0 n1 h=> ?_⟩
   have e2:=iv h
   rw [jn] at e2
   have:(k-n)*(ar s.a s.b d-ar s.a s.b m)=0:=by grind
   rcases br.1 this with h|h
   ·grind
   ·exact hc (by grind)
 ·left
  exact fun k k0 kl h=>hex ⟨k,k0,kl,h⟩
theorem rJ {m d:Pt} (hne:m≠d):∀ (S:List Sg),(∀ s∈S,s.a≠s.b)→(∀ s∈S,aJ s.a s.b m→ar s.a s.b d≠0)→
 ∃ l,0<l∧l≤1∧(∀ s∈S,∀ k,0<k→k<l→¬aJ s.a s.b (pt m d k))∧(l=1∨∃ s∈S,aJ s.a s.b (pt m d l))
 |[],_,_=>⟨1,by decide+kernel,Rat.le_refl,(fun s hs=>by cases hs),.inl rfl⟩
 |s::S,h1,h2=>by
  obtain ⟨l,l0,l1,hf,hl⟩:=rJ hne S (fun t ht=>h1 t (ag _ ht)) (fun t ht=>h2 t (ag _ ht))
  rcases QF hne (h1 s (ah ..)) (h2 s (ah ..)) l0 l1 with h|⟨k,k0,kl,hk,hk2⟩
  ·refine ⟨l,l0,l1,fun t ht=> ?_,?_⟩
   ·rcases ay.1 ht with rfl|ht
    ·exact h
    ·exact hf t ht
   ·rcases hl with h|⟨t,ht,h⟩
    ·exact .inl h
    ·exact .inr ⟨t,ag _ ht,h⟩
  ·refine ⟨k,k0,by grind,fun t ht n n0 n1=> ?_,.inr ⟨s,ah ..,hk⟩⟩
   rcases ay.1 ht with rfl|ht
   ·exact hk2 n n0 n1
   ·exact hf t ht n n0 (by grind)
theorem tN {m d:Pt} (hne:m≠d) {S:List Sg} (h1:∀ s∈S,s.a≠s.b) (h2:∀ s∈S,aJ s.a s.b m→ar s.a s.b d≠0):
 nL S m d∨∃ l,0<l∧l<1∧nL S m (pt m d l)∧∃ s∈S,aJ s.a s.b (pt m d l):=by
 obtain ⟨l,l0,l1,hf,hl⟩:=rJ hne S h1 h2
 have fr:nL S m (pt m d l):=fun s hs P k1 k2=>by
  obtain ⟨k,k0,kl,rfl⟩:=EK (ai l0) l1 k2
  rcases cf k0 with h|h
  ·rcases cf kl with h'|h'
   ·exact absurd k1 (hf s hs k h h')
   ·rw [h'];exact .inr rfl
  ·rw [←h,iH];exact .inl rfl
 rcases cf l1 with h|h
 ·right
  rcases hl with h'|h'
  ·grind
  ·exact ⟨l,l0,h,fr,h'⟩
 ·left
  rw [h,kD] at fr
  exact fr
end Go.Av
namespace Go.Av
open Go.RowKit
open Go.Proofs.Tryz (prog)
theorem CZ {H:Hp} {b:Nat} {k:Blk} (h:get H b=some k):H.set b (some k)=H:=by
 refine List.ext_getElem? fun c=> ?_
 rw [fS]
 split
 ·rename_i hc
  subst hc
  have hl:=bF h
  rw [if_pos hl]
  simp only [get,af hl,Option.join_some] at h ⊢
  rw [h]
 ·rfl
def oN (l:List Pt) (j:Nat):List Pt:=(l.set (j+1) (l.getD j default)).set j (l.getD (j+1) default)
def mO (l:List Pt):Nat→List Pt
 |0=>l
 |j+1=>if bO (l.getD (j+1) default) (l.getD j default)<0 then mO (oN l j) j else l
def kW (l:List Pt):Nat→List Pt
 |0=>l
 |i+1=>mO (kW l i) (i+1)
theorem nT (l:List Pt) (j:Nat):(oN l j).length=l.length:=by simp [oN]
theorem t8:∀ (j:Nat) (l:List Pt),(mO l j).length=l.length
 |0,l=>rfl
 |j+1,l=>by unfold mO;split;· rw [t8 j,nT]
            rfl
theorem nh (l:List Pt):∀ i,(kW l i).length=l.length
 |0=>rfl
 |i+1=>by rw [kW,t8,nh l i]
def hqP (l:List Pt) (k:Nat):Prop:=∀ i,i<l.length→hp (l.getD i default)≤k
theorem Bk {l:List Pt} {i j:Nat} {x:Pt} (hj:j<l.length):(l.set j x).getD i default=if i=j then x else l.getD i default:=by
 rw [ae,fS,ae]
 by_cases h:j=i
 ·subst h;simp [hj]
 ·rw [if_neg h,if_neg (fun e=>h e.symm)]
theorem GV {l:List Pt} {j k:Nat} (h:hqP l k) (hj:j+1<l.length):hqP (oN l j) k:=by
 intro i hi
 rw [nT] at hi
 unfold oN
 rw [Bk (by rw [cO];omega),Bk hj]
 split
 ·exact h _ hj
 ·split
  ·exact h _ (by omega)
  ·exact h _ hi
theorem AL {k:Nat}:∀ (j:Nat) (l:List Pt),hqP l k→j<l.length→hqP (mO l j) k
 |0,l,h,_=>h
 |j+1,l,h,hj=>by
  unfold mO;split
  ·exact AL j _ (GV h hj) (by rw [nT];omega)
  ·exact h
theorem DK {l:List Pt} {k:Nat} (h:hqP l k):∀ i,i<l.length→hqP (kW l i) k
 |0,_=>h
 |i+1,hi=>AL _ _ (DK h i (by omega)) (by rw [nh];exact hi)
theorem JO {l:List Pt} {i:Nat} (h:i<l.length):(l.map pc)[i]? =some (pc (l.getD i default)):=by
 rw [aW,ae,af h];rfl
theorem NR {l:List Pt} {j:Nat} (hj:j+1<l.length):((l.map pc).set (j+1) (pc (l.getD j default))).set j (pc (l.getD (j+1) default))=(oN l j).map pc:=by
 unfold oN;rw [List.map_set,List.map_set]
theorem Ie (l:List Pt):(l.map pc).length=l.length:=az ..
theorem LL (l:List Pt) (hn:l.length≤2^20) (h2:1≤l.length) (hl0:hqP l (2^30)) {b:Nat} {fx:Bool} {H:Hp} {K:V→Hp→Prop} (hb:get H b=some (.row 6 true (l.map pc)))
 (hK:K (.tup []) (H.set b (some (.row 6 true ((kW l (l.length-1)).map pc))))):
 SC prog 234 [.sref b 0 l.length l.length 6 fx,.prim (.int .i64 ((0:Nat):Int)),.prim (.int .i64 ((l.length:Nat):Int)),.clo 13 [] []] H K:=by
 have hbl:=bF hb
 have s1:∀ x,get (H.set b x) b=x:=fun x=>dF hbl
 refine SCi ?_
 conv in bL _ _=>cbv
 simp only [bM,RN,simprocAttr]
 simp (disch:=omega) only [↓RS,RZ,simprocAttr]
 refine eG (fun (i:Nat) J=>ov [(0,.sref b 0 l.length l.length 6 fx),(1,.prim (.int .i64 ((0:Nat):Int))),(2,.prim (.int .i64 ((l.length:Nat):Int))),(3,.clo 13 [] []),(8,.prim (.int .i64 ((i:Nat):Int)))] J 0 53) (fun i H'=>(1≤i∧i≤l.length)∧H'=H.set b (some (.row 6 true ((kW l (i-1)).map pc)))) (fun i=>l.length-i) 1 rfl ⟨⟨ax _,h2⟩,(CZ hb).symm⟩ ?_
 rintro i J _ ⟨⟨hi1,hi⟩,rfl⟩
 try conv in ov _ _ _ _=>simp only [ov,List.lookup,RO,simprocAttr]
 rcases am i l.length with hlt|hge
 ·simp (disch:=omega) only [↓RS,RZ,simprocAttr]
  refine eG (fun (j:Nat) J=>ov [(0,.sref b 0 l.length l.length 6 fx),(1,.prim (.int .i64 ((0:Nat):Int))),(2,.prim (.int .i64 ((l.length:Nat):Int))),(3,.clo 13 [] []),(8,.prim (.int .i64 ((i:Nat):Int))),(9,.prim (.int .i64 ((j:Nat):Int)))] J 0 53)
   (fun j H'=>∃ m:List Pt,(m.length=l.length∧hqP m (2^30)∧j≤i∧mO m j=mO (kW l (i-1)) i)∧H'=H.set b (some (.row 6 true (m.map pc)))) (fun j=>j) i rfl ⟨kW l (i-1),⟨nh l _,DK hl0 _ (by omega),ax _,rfl⟩,rfl⟩ ?_
  rintro j J _ ⟨m,⟨hml,hmq,hji,hm⟩,rfl⟩
  try conv in ov _ _ _ _=>simp only [ov,List.lookup,RO,simprocAttr]
  have fin:kW l (i+1-1)=mO m j:=by
   rw [hm,Nat.add_sub_cancel]
   obtain ⟨i,rfl⟩:∃ k,i=k+1:=⟨i-1,by omega⟩
   rfl
  rcases j with _|k
  ·simp (disch:=omega) only [↓RS,RZ,simprocAttr]
   exact bl (i+1) rfl ⟨⟨by omega,hlt⟩,by rw [fin];rfl⟩ (by omega)
  ·have g1:=JO (l:=m) (i:=k) (by omega)
   have g2:=JO (l:=m) (i:=k+1) (by omega)
   have c:=kT (m.getD (k+1) default) (m.getD k default) (bi (hmq _ (by omega)) (by omega)) (bi (hmq _ (by omega)) (by omega))
   simp (disch:=omega) only [↓RS,RZ,simprocAttr,s1,g1,g2,pc,Nat.add_sub_cancel,aX]
   refine cX c ?_
   by_cases hc:bO (m.getD (k+1) default) (m.getD k default)<0
   ·have s2:∀ x y,(H.set b x).set b y=H.set b y:=fun x y=>List.set_set ..
    have g3:∀ x,((m.map pc).set (k+1) x)[k]? =some (pc (m.getD k default)):=fun x=>by rw [List.getElem?_set_ne (by omega)];exact g1
    simp (disch:=omega) only [↓RS,RZ,simprocAttr,s1,s2,g1,g2,g3,pc,Nat.add_sub_cancel,aX]
    refine bl k rfl ⟨oN m k,⟨by rw [nT];exact hml,GV hmq (by omega),by omega,?_⟩,?_⟩ (Nat.lt_succ_self k)
    ·rw [←hm]
     conv=>rhs;unfold mO
     rw [if_pos hc]
    ·rw [←NR (by omega)];rfl
   ·simp (disch:=omega) only [↓RS,RZ,simprocAttr]
    refine bl (i+1) rfl ⟨⟨by omega,hlt⟩,?_⟩ (by omega)
    rw [fin]
    unfold mO
    rw [if_neg hc]
 ·have hia:i=l.length:=by omega
  subst hia
  simp (disch:=omega) only [↓RS,RZ,simprocAttr]
  exact hK
theorem Qh (l:List Pt) (hn:l.length≤12) (h2:1≤l.length) (hl0:hqP l (2^30)) (lim:Int) {b:Nat} {fx:Bool} {H:Hp} {K:V→Hp→Prop} (hb:get H b=some (.row 6 true (l.map pc)))
 (hK:K (.tup []) (H.set b (some (.row 6 true ((kW l (l.length-1)).map pc))))):
 SC prog 185 [.sref b 0 l.length l.length 6 fx,.prim (.int .i64 (0)),.prim (.int .i64 ((l.length:Nat):Int)),.prim (.int .i64 (lim)),.clo 13 [] []] H K:=by
 refine SCi ?_
 conv in bL _ _=>cbv
 simp only [bM,RN,simprocAttr]
 simp (disch:=omega) only [↓RS,RZ,simprocAttr]
 refine pD 1 ?_
 simp (disch:=omega) only [↓RS,RZ,simprocAttr,mJ,j5,lK,mK,Int.sub_zero]
 refine bI (LL l (by omega) h2 hl0 hb ?_)
 simp (disch:=omega) only [↓RS,RZ,simprocAttr]
 exact hK
theorem LJ (x:Nat) (hx:x<256):PC prog 169 [.prim (.int .u64 ((x:Nat):Int))] (.prim (.int .i64 ((blen x:Nat):Int))):=by
 refine PCi ?_
 conv in bL _ _=>cbv
 simp only [bM,RN,simprocAttr]
 have fin:some (V.prim (Value.int IntKind.i64 (IntKind.i64.wrap ((0:Int)+IntKind.i64.wrap ((AF.getD x 0).toNat:Nat)))))=some (V.prim (Value.int IntKind.i64 (blen x:Nat))):=by
  have:= @uL x 8 hx
  rw [tG x hx,nN (by omega),jd (by omega) (by omega)]
  simp
 simp (maxSteps:=2000000) (disch:=omega) only [↓RS,RY,simprocAttr]
 exact fin
theorem I7 (x:Nat) (hx:x<256):PC prog 97 [.prim (.int .u64 ((x:Nat):Int))] (.prim (.int .i64 ((blen x:Nat):Int))):=by
 have c:=LJ x hx
 refine PCi ?_
 conv in bL _ _=>cbv
 simp only [bM,RN,simprocAttr]
 simp (disch:=omega) only [↓RS,RZ,simprocAttr,kS]
 refine cX c ?_
 simp (disch:=omega) only [↓RS,RZ,simprocAttr]
theorem MY (l:List Pt) (hn:l.length≤12) (h2:1≤l.length) (hl0:hqP l (2^30)) {b:Nat} {fx:Bool} {H:Hp} {K:V→Hp→Prop} (hb:get H b=some (.row 6 true (l.map pc)))
 (hK:K (.tup []) (H.set b (some (.row 6 true ((kW l (l.length-1)).map pc))))):
 SC prog 114 [.sref b 0 l.length l.length 6 fx,.clo 13 [] []] H K:=by
 have c:=I7 l.length (by omega)
 refine SCi ?_
 conv in bL _ _=>cbv
 simp only [bM,RN,simprocAttr]
 simp (disch:=omega) only [↓RS,RZ,simprocAttr,kS]
 refine cX c ?_
 simp (disch:=omega) only [↓RS,RZ,simprocAttr]
 refine bI (Qh l hn h2 hl0 _ hb ?_)
 simp (disch:=omega) only [↓RS,RZ,simprocAttr]
 exact hK
end Go.Av
namespace Go.Av
open Go.RowKit
open Go.Proofs.Tryz (prog)
def qS (C:List Pt):List Pt:=kW C (C.length-1)
theorem F7 (C:List Pt):(qS C).length=C.length:=nh C _
theorem xH {C:List Pt} {k:Nat} (h:hl C k):hqP C k:=fun i hi=>by
 rw [ae,af hi];exact h _ (bx hi)
theorem F0 {O:List Rp} {hr:List (List Rp)} (h:m5 O hr) (hn:(bP (pts O::hr.map pts) (hr.length+1)).length≤12):
 PC prog 52 [cgV (pts O) (hr.map pts)] (.tup [psV (qS (bP (pts O::hr.map pts) (hr.length+1))),.prim (.int .i64 (0))]):=by
 have c:=BS h
 have hne:bP (pts O::hr.map pts) (hr.length+1)≠[]:=by have:=oq h.rgs hr.length;exact this
 have hlC:=qi h.rgs (hr.length+1) (by rw [az];exact ax _)
 generalize bP (pts O::hr.map pts) (hr.length+1)=C at*
 generalize hr.map pts=Hs at*
 generalize pts O=L at*
 have h1:1≤C.length:=List.length_pos_iff.2 hne
 refine PCi ?_
 conv in bL _ _=>cbv
 simp only [bM,RN,simprocAttr]
 simp (disch:=omega) only [↓RS,RZ,simprocAttr,cgV,psV]
 refine cX c ?_
 simp (disch:=omega) only [↓RS,RZ,simprocAttr,psV]
 refine bI (Pu C hne (by omega) ?_)
 intro b H' hE hb hg
 have e0:=hE.get (c:=0) rfl
 simp (disch:=omega) only [↓RS,RZ,simprocAttr]
 refine bI (MY C hn h1 (fun i hi=>bi (xH hlC i hi) (by omega)) hg ?_)
 have hbl:=bF hg
 have hlen:=Ie (qS C)
 have hl2:=F7 C
 have e1:get (H'.set b (some (.row 6 true ((qS C).map pc)))) b=some (.row 6 true ((qS C).map pc)):=dF hbl
 have hvl:= @kB (H'.set b (some (.row 6 true ((qS C).map pc)))) 6 _ (tf (qS C))
 show wpL _ _ _ (H'.set b (some (.row 6 true ((qS C).map pc)))) _
 generalize H'.set b (some (.row 6 true ((qS C).map pc)))=H2 at*
 have htk:((qS C).map pc).take C.length=(qS C).map pc:=by rw [List.take_of_length_le (by omega)]
 simp (disch:=omega) only [↓RS,RZ,simprocAttr]
 rw [e1]
 simp only [hlen,hl2,ax,if_true,htk]
 rw [hvl]
 rfl
end Go.Av
namespace Go.Av
open Go.RowKit
open Go.Proofs.Tryz (prog)
def fL (n:Nat):Nat→List (Nat×Nat)
 |0=>[]
 |i+1=>fL n i++(List.range (n-i-1)).map fun d=>(i,i+1+d)
def oO (n i d:Nat):List (Nat×Nat):=fL n i++(List.range d).map fun d=>(i,i+1+d)
theorem EN (n i:Nat):oO n i 0=fL n i:=by simp [oO]
theorem EO (n i d:Nat):oO n i (d+1)=oO n i d++[(i,i+1+d)]:=by
 unfold oO;rw [List.range_succ,bz,←bE];rfl
theorem Gq (n i:Nat):oO n i (n-i-1)=fL n (i+1):=rfl
theorem tg (n:Nat):∀ i,(fL n i).length≤i*n
 |0=>by simp [fL]
 |i+1=>by have:=tg n i;simp only [fL,aK,az,zd];rw [Nat.succ_mul];omega
theorem Gp (l:List Pt) {H:Hp} {K:V→Hp→Prop} (hK:K (.clo 139 [] [.ptr H.length 0 0]) (H++[some (.row 1 true [[psV l]])])):
 SC prog 77 [psV l] H K:=by
 refine SCi ?_
 conv in bL _ _=>cbv
 simp only [bM,RN,simprocAttr]
 simp (disch:=omega) only [↓RS,RZ,simprocAttr,psV]
 exact hK
theorem Qj {l:List Pt} {i d:Nat} (hd:i+1+d<l.length):(((l.map pc).drop (i+1)).take (l.length-(i+1))).getD d []=pc (l.getD (i+1+d) default):=by
 rw [ae,fE,if_pos (by omega),List.getElem?_drop,aW,ae,af hd];rfl
theorem Aj (l:List Pt) (i:Nat):(((l.map pc).drop (i+1)).take (l.length-(i+1))).length=l.length-(i+1):=by
 rw [d9,pC,az];omega
theorem C5 (l:List Pt) (hn:l.length<2^40) {yb b:Nat} {H:Hp} {K:V→Hp→Prop} (Inv:List (Nat×Nat)→Hp→Prop)
 (hbox:∀ m H,Inv m H→get H b=some (.row 1 true [[psV l]])∧b<H.length) (hpad:∀ m H k,Inv m H→Inv m (H++[some (.row 6 true [k])]))
 (step:∀ m i k H c,i<k→k<l.length→m.length≤l.length*l.length→Inv m H→b<c→get H c=some (.row 6 true [pc (l.getD i default)])→
  YC prog yb [sgV ⟨l.getD i default,l.getD k default⟩] H (yQ (fun H'=>Inv (m++[(i,k)]) H'∧get H' c=some (.row 6 true [pc (l.getD i default)])) fun _=>False))
 (h0:Inv [] H) (hK:∀ v H,Inv (fL l.length l.length) H→K v H):SC prog 139 [.yld yb,.ptr b 0 0] H K:=by
 refine SCi ?_
 conv in bL _ _=>cbv
 simp only [bM,RN,simprocAttr]
 have hb:=(hbox _ H h0).1
 simp (disch:=omega) only [↓RS,RZ,simprocAttr,hb,psV,cU]
 refine eG (fun (i:Nat) J=>ov [(0,.yld yb),(1,.ptr b 0 0),(7,psV l),(8,.prim (.int .i64 ((l.length:Nat):Int))),(9,.prim (.int .i64 ((i:Nat):Int)))] J 0 31) (fun i H=>i≤l.length∧Inv (fL l.length i) H) (fun i=>l.length-i) 0 rfl ⟨bh _,h0⟩ ?_
 rintro i J H ⟨hi,hv⟩
 try conv in ov _ _ _ _=>simp only [ov,List.lookup,RO,simprocAttr]
 rcases am i l.length with hlt|hge
 ·have g1:=lj hlt
  have hb:=hbox _ H hv
  have hb1:∀ k,get (H++[k]) b=some (.row 1 true [[psV l]]):=fun k=>aO hb.1
  have hpl:=Aj l i
  simp (disch:=omega) only [↓RS,RZ,simprocAttr,psV,cU,g1,pc,hb.1,hb1,aZ,hpl]
  refine eG (fun (d:Nat) J=>ov [(0,.yld yb),(1,.ptr b 0 0),(3,.prim (.int .i64 ((i:Nat):Int))),(4,.ptr H.length 0 0),(7,psV l),(8,.prim (.int .i64 ((l.length:Nat):Int))),(9,.prim (.int .i64 ((i:Nat):Int))),(17,.lst 6 (((l.map pc).drop (i+1)).take (l.length-(i+1)))),(18,.prim (.int .i64 ((l.length-(i+1):Nat):Int))),(19,.prim (.int .i64 ((d:Nat):Int)))] J 0 31)
   (fun d H'=>d≤l.length-i-1∧Inv (oO l.length i d) H'∧get H' H.length=some (.row 6 true [pc (l.getD i default)])) (fun d=>l.length-d) 0 rfl ⟨bh _,by rw [EN];exact hpad _ _ _ hv,bo⟩ ?_
  rintro d J H1 ⟨hd,hv1,hg1⟩
  try conv in ov _ _ _ _=>simp only [ov,List.lookup,RO,simprocAttr]
  rcases am d (l.length-i-1) with hlt2|hge2
  ·have g2:=Qj (l:=l) (i:=i) (d:=d) (by omega)
   have w1:∀ k,get (H1++[k]) H.length=some (.row 6 true [pc (l.getD i default)]):=fun k=>aO hg1
   have hml:(oO l.length i d).length≤l.length*l.length:=by
    have h1:=tg l.length i
    have h2:(oO l.length i d).length=(fL l.length i).length+d:=by simp [oO]
    have h3:(i+1)*l.length≤l.length*l.length:=aS _ hlt
    rw [Nat.succ_mul] at h3
    omega
   have st:=step _ i (i+1+d) _ H.length (by omega) (by omega) hml (hpad _ _ (pc (l.getD (i+1+d) default)) hv1) hb.2 (aO hg1)
   simp (disch:=omega) only [↓RS,RZ,simprocAttr,psV,hpl,g2,pc,w1,aZ]
   refine YC.mono ?_ st
   rintro v H' (⟨rfl,h,hg⟩|⟨rfl,h⟩)
   ·simp (disch:=omega) only [↓RS,RZ,simprocAttr]
    exact bl (d+1) rfl ⟨hlt2,by rw [EO];exact h,hg⟩ (by omega)
   ·exact h.elim
  ·have hde:d=l.length-i-1:=by omega
   subst hde
   rw [Gq] at hv1
   simp (disch:=omega) only [↓RS,RZ,simprocAttr,psV,hpl]
   exact bl (i+1) rfl ⟨hlt,hv1⟩ (by omega)
 ·have hia:i=l.length:=by omega
  subst hia
  simp (disch:=omega) only [↓RS,RZ,simprocAttr,psV,cU]
  exact hK _ _ hv
end Go.Av
