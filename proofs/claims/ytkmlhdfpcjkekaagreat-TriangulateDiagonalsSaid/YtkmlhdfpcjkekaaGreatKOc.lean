/- Helping texts: Oc, Nc, Nd. -/
import Derived.Test.YtkmlhdfpcjkekaaGreatKLa
import Derived.Test.YtkmlhdfpcjkekaaGreatKNa
set_option linter.unusedSimpArgs false
set_option linter.unusedVariables false
set_option maxRecDepth 100000
set_option maxHeartbeats 16000000
namespace Go.Av
variable {L:List Pt} {Hs:List (List Pt)}
theorem D0 {s t:Sg} {P:Pt} (hs:s.ok) (ht:t.ok) (hc:jJ s t=false) (p1:aJ s.a s.b P) (p2:aJ t.a t.b P):(P=s.a∨P=s.b∨P=t.a∨P=t.b)∨∃ Q R,Q≠R∧(aJ s.a s.b Q∧aJ t.a t.b Q)∧aJ s.a s.b R∧aJ t.a t.b R:=by
 obtain ⟨m,hm,hP⟩:=zA hs ht p1 p2
 by_cases e:m.a=m.b
 ·left
  have hP:=hP e
  subst hP
  apply Classical.byContradiction
  intro hno
  unfold jJ at hc
  rw [hm] at hc
  simp only [an e,Bool.true_and,Bool.not_eq_false'] at hc
  unfold jI at hc
  rw [List.any_eq_true] at hc
  obtain ⟨i,hi,hd⟩:=hc
  have hd:=of_decide_eq_true hd
  have hi:=dz.1 hi
  match i,hi with
  |0,_=>exact hno (.inl hd.symm)
  |1,_=>exact hno (.inr (.inl hd.symm))
  |2,_=>exact hno (.inr (.inr (.inl hd.symm)))
  |3,_=>exact hno (.inr (.inr (.inr hd.symm)))
 ·exact .inr ⟨m.a,m.b,e,tA hm⟩
theorem DZ {s t:Sg} (hc:jJ s t=true):∃ P,aJ s.a s.b P∧aJ t.a t.b P∧P≠s.a∧P≠s.b∧P≠t.a∧P≠t.b:=by
 unfold jJ at hc
 split at hc
 ·rename_i m hm
  simp only [Bool.and_eq_true,aE,Bool.not_eq_true'] at hc
  obtain ⟨e,hn⟩:=hc
  have q:=fun i hi=>of_decide_eq_false (mP hn (i:=i) hi)
  have mm:=(tA hm).1
  exact ⟨m.a,mm.1,mm.2,fun h=>q 0 (by omega) h.symm,fun h=>q 1 (by omega) h.symm,fun h=>q 2 (by omega) h.symm,fun h=>q 3 (by omega) h.symm⟩
 ·cases hc
theorem Ha (h:da L Hs) {s t:Sg} (hs:kN L Hs s=(true,0)) (ht:kN L Hs t=(true,0)) (hc:jJ s t=false) {P:Pt} (p1:aJ s.a s.b P) (p2:aJ t.a t.b P):
 eF s t∨(P=s.a∨P=s.b)∧(P=t.a∨P=t.b):=by
 obtain ⟨so,sa,sb,_⟩:=kK hs
 obtain ⟨to,ta,tb,_⟩:=kK ht
 rcases D0 so to hc p1 p2 with k|⟨Q,R,hne,⟨q1,q2⟩,r1,r2⟩
 ·right
  rcases k with rfl|rfl|rfl|rfl
  ·exact ⟨.inl rfl,sD h ht sa p2⟩
  ·exact ⟨.inr rfl,sD h ht sb p2⟩
  ·exact ⟨sD h hs ta p1,.inl rfl⟩
  ·exact ⟨sD h hs tb p1,.inr rfl⟩
 ·left
  exact K3 (Ay.1 so) (Ay.1 to) (fun c hc k=>sD h hs (by rcases hc with rfl|rfl;exact ta;exact tb) k) (fun c hc k=>sD h ht (by rcases hc with rfl|rfl;exact sa;exact sb) k) hne q1 q2 r1 r2
theorem PJ {D:Sg→Bool×Int} {out:List Sg} {s:Sg} (h:(∀ t∈out,D t=(true,0))∧out.Pairwise fun t s=>jJ s t=false):
 (∀ t∈nK D out s,D t=(true,0))∧(nK D out s).Pairwise fun t s=>jJ s t=false:=by
 unfold nK
 split
 ·rename_i hc
  refine ⟨fun t ht=> ?_,?_⟩
  ·rcases aF.1 ht with ht|ht
   ·exact h.1 t ht
   ·rw [bH.1 ht];exact Prod.ext hc.2.1 hc.1
  ·rw [List.pairwise_append]
   refine ⟨h.2,List.pairwise_singleton _ _,fun t ht u hu=> ?_⟩
   rw [bH.1 hu]
   obtain ⟨j,hj,rfl⟩:=bK.1 ht
   have:=mP hc.2.2 hj
   rwa [ae,af hj] at this
 ·exact h
theorem xR (D:Sg→Bool×Int) (l:List Pt):∀ (m:List (Nat×Nat)) (out:List Sg),((∀ t∈out,D t=(true,0))∧out.Pairwise fun t s=>jJ s t=false)→
 ((∀ t∈m.foldl (fun out x=>nK D out (prS l x)) out,D t=(true,0))∧(m.foldl (fun out x=>nK D out (prS l x)) out).Pairwise fun t s=>jJ s t=false)
 |[],_,h=>h
 |x::m,out,h=>xR D l m _ (PJ h)
theorem HD {D:Sg→Bool×Int} {out:List Sg} {s t:Sg} (h:t∈out):t∈nK D out s:=by
 unfold nK;split
 ·exact bg _ h
 ·exact h
theorem xP (D:Sg→Bool×Int) (l:List Pt) {t:Sg}:∀ (m:List (Nat×Nat)) (out:List Sg),t∈out→t∈m.foldl (fun out x=>nK D out (prS l x)) out
 |[],_,h=>h
 |x::m,out,h=>xP D l m _ (HD h)
theorem xQ (D:Sg→Bool×Int) (l:List Pt) {x:Nat×Nat} (hD:D (prS l x)=(true,0)):∀ (m:List (Nat×Nat)) (out:List Sg),x∈m→
 (prS l x∈m.foldl (fun out x=>nK D out (prS l x)) out∨∃ t∈m.foldl (fun out x=>nK D out (prS l x)) out,jJ (prS l x) t=true)
 |y::m,out,h=>by
  rcases ay.1 h with rfl|h
  ·rw [List.foldl_cons]
   by_cases hc:(jI out.length fun j=>jJ (prS l x) (out.getD j sg0))=false
   ·left
    refine xP D l m _ ?_
    unfold nK
    rw [if_pos ⟨by rw [hD],by rw [hD],hc⟩]
    simp
   ·right
    have hc:(jI out.length fun j=>jJ (prS l x) (out.getD j sg0))=true:=by simpa using hc
    unfold jI at hc
    rw [List.any_eq_true] at hc
    obtain ⟨j,hj,hx⟩:=hc
    have hj:=dz.1 hj
    rw [ae,af hj] at hx
    exact ⟨out[j],xP D l m _ (HD (bx hj)),hx⟩
  ·exact xQ D l hD m _ h
theorem vv (D:Sg→Bool×Int) (l:List Pt) {t:Sg}:∀ (m:List (Nat×Nat)) (out:List Sg),t∈m.foldl (fun out x=>nK D out (prS l x)) out→t∈out∨∃ x∈m,t=prS l x
 |[],_,h=> .inl h
 |x::m,out,h=>by
  rcases vv D l m _ h with k|⟨y,hy,k⟩
  ·have k:t∈nK D out (prS l x):=k
   unfold nK at k
   split at k
   ·rcases aF.1 k with k|k
    ·exact .inl k
    ·exact .inr ⟨x,ah ..,bH.1 k⟩
   ·exact .inl k
  ·exact .inr ⟨y,ag _ hy,k⟩
def gX (L:List Pt) (Hs:List (List Pt)):List Sg:=jL (kN L Hs) (qS (dE L Hs)) (fL (qS (dE L Hs)).length (qS (dE L Hs)).length)
def fU (L:List Pt) (Hs:List (List Pt)):List Sg:=kr L Hs++gX L Hs
theorem jA {s:Sg} (h:s∈gX L Hs):kN L Hs s=(true,0):=(xR (kN L Hs) _ _ [] ⟨fun t ht=>(by cases ht),List.Pairwise.nil⟩).1 s h
theorem Hf {s t:Sg} (h1:s.ok) (h2:t.ok) (h:jJ s t=false):jJ t s=false:=by
 apply Classical.byContradiction
 intro hn
 have hn:jJ t s=true:=by simpa using hn
 obtain ⟨P,p1,p2,n1,n2,n3,n4⟩:=DZ hn
 have hm:∃ m,iI t s=some m∧m.a=m.b:=by
  unfold jJ at hn
  split at hn
  ·rename_i m hm
   simp only [Bool.and_eq_true,aE] at hn
   exact ⟨m,hm,hn.1⟩
  ·cases hn
 obtain ⟨m,hm,he⟩:=hm
 have all:∀ Q,aJ t.a t.b Q→aJ s.a s.b Q→Q=m.a:=fun Q q1 q2=>by
  obtain ⟨m',hm',hq⟩:=zA h2 h1 q1 q2
  rw [hm] at hm';cases hm'
  exact hq he
 rcases D0 h1 h2 h p2 p1 with k|⟨Q,R,hne,⟨q1,q2⟩,r1,r2⟩
 ·rcases k with k|k|k|k
  ·exact n3 k
  ·exact n4 k
  ·exact n1 k
  ·exact n2 k
 ·exact hne ((all Q q2 q1).trans (all R r2 r1).symm)
theorem yU {s t:Sg} (hs:s∈gX L Hs) (ht:t∈gX L Hs):s=t∨jJ s t=false:=by
 have hp:=(xR (kN L Hs) (qS (dE L Hs)) (fL (qS (dE L Hs)).length (qS (dE L Hs)).length) [] ⟨fun t ht=>(by cases ht),List.Pairwise.nil⟩).2
 obtain ⟨i,hi,rfl⟩:=bK.1 hs
 obtain ⟨j,hj,rfl⟩:=bK.1 ht
 rcases Nat.lt_trichotomy i j with k|k|k
 ·right
  have:=bN.1 hp i j hi hj k
  exact Hf (kK (jA ht)).1 (kK (jA hs)).1 this
 ·subst k;exact .inl rfl
 ·exact .inr (bN.1 hp j i hj hi k)
theorem pT (h:da L Hs):Net (dE L Hs) (fU L Hs):=by
 refine ⟨fun s hs=> ?_,fun s hs=> ?_,fun s hs=> ?_,fun s hs t ht P p1 p2=> ?_,fun s hs c hc q=> ?_⟩
 ·rcases aF.1 hs with k|k
  ·exact uG h k
  ·exact Ay.1 (kK (jA k)).1
 ·rcases aF.1 hs with k|k
  ·exact QS k
  ·exact (kK (jA k)).2.1
 ·rcases aF.1 hs with k|k
  ·exact QR k
  ·exact (kK (jA k)).2.2.1
 ·rcases aF.1 hs with k|k<;>rcases aF.1 ht with j|j
  ·rcases o8 h k j p1 p2 with e|e
   ·exact .inl (.inl e)
   ·exact .inr e
  ·have dt:=jA j
   have e:=qZ h dt k p2 p1
   refine .inr ⟨Fj h k ?_ p1,e⟩
   obtain ⟨_,ta,tb,_⟩:=kK dt
   rcases e with rfl|rfl
   ·exact ta
   ·exact tb
  ·have ds:=jA k
   have e:=qZ h ds j p1 p2
   refine .inr ⟨e,Fj h j ?_ p2⟩
   obtain ⟨_,sa,sb,_⟩:=kK ds
   rcases e with rfl|rfl
   ·exact sa
   ·exact sb
  ·rcases yU k j with e|e
   ·exact .inl (.inl e)
   ·exact Ha h (jA k) (jA j) e p1 p2
 ·rcases aF.1 hs with k|k
  ·exact Fj h k hc q
  ·exact sD h (jA k) hc q
end Go.Av
namespace Go.Av
def P3 (p q r c:Pt):Bool:=decide (0≤ar p q c)&&(decide (0≤ar q r c)&&decide (0≤ar r p c))
theorem FX {p q r c:Pt}:P3 p q r c=true↔InT p q r c:=by
 unfold P3
 simp only [Bool.and_eq_true,aE]
 exact ⟨fun h=>⟨h.1,h.2.1,h.2.2⟩,fun h=>⟨h.a,h.b,h.c⟩⟩
def sS (p q r c:Pt):Prop:=InT p q r c∨InT p r q c
def P2 (p q r c:Pt):Bool:=P3 p q r c||P3 p r q c
theorem p8 {p q r c:Pt}:P2 p q r c=true↔sS p q r c:=by
 unfold P2 sS;rw [Bool.or_eq_true,FX,FX]
theorem GF (u v w p q x:Pt):ar u v w*ar p q x=ar v w x*ar p q u+ar w u x*ar p q v+ar u v x*ar p q w:=by unfold ar;grind
theorem ET {u v w p q x:Pt} (h:0<ar u v w) (hx:InT u v w x) (hu:0≤ar p q u) (hv:0≤ar p q v) (hw:0≤ar p q w):0≤ar p q x:=by
 have e:=GF u v w p q x
 have h1:=aj hx.b hu
 have h2:=aj hx.c hv
 have h3:=aj hx.a hw
 rcases qlt (ar p q x) 0 with k|k
 ·have:=au h (show 0< -ar p q x by grind)
  grind
 ·exact k
theorem InT.sub {u v w p q r x:Pt} (h:0<ar u v w) (hx:InT u v w x) (hu:InT p q r u) (hv:InT p q r v) (hw:InT p q r w):InT p q r x:=
 ⟨ET h hx hu.a hv.a hw.a,ET h hx hu.b hv.b hw.b,ET h hx hu.c hv.c hw.c⟩
structure Eye (C:List Pt) (S:List Sg) (a b m:Pt):Prop where
 net:Net C S
 side:∃ s∈S,eF s ⟨a,b⟩
 at_:∃ u,0<u∧u<1∧m=pt a b u
variable {C:List Pt} {S:List Sg} {a b m:Pt}
theorem Eye.ne (h:Eye C S a b m):a≠b:=by
 obtain ⟨s,hs,k⟩:=h.side
 have:=h.net.ne s hs
 rcases k with k|k
 ·subst k;exact this
 ·subst k;exact fun e=>this e.symm
theorem Eye.m0 (h:Eye C S a b m):ar a b m=0:=by
 obtain ⟨u,u0,u1,rfl⟩:=h.at_
 rw [jn,pk,pj];grind
theorem kH {s t:Sg} (h:eF s t) {P:Pt}:aJ s.a s.b P↔aJ t.a t.b P:=by
 rcases h with h|h
 ·subst h;exact Iff.rfl
 ·subst h;exact ⟨cH,cH⟩
theorem vY {s:Sg} (h:eF s ⟨a,b⟩) {P:Pt} (hP:0<ar a b P):ar s.a s.b P≠0:=by
 rcases h with h|h
 ·subst h;show ar a b P≠0;grind
 ·subst h;show ar b a P≠0;rw [mZ];grind
theorem Eye.own (h:Eye C S a b m) {s:Sg} (hs:s∈S) (hm:aJ s.a s.b m):eF s ⟨a,b⟩:=by
 obtain ⟨t,ht,k⟩:=h.side
 obtain ⟨u,u0,u1,e⟩:=h.at_
 have hmt:aJ t.a t.b m:=(kH k).2 ⟨u,ai u0,ai u1,e⟩
 rcases h.net.cross s hs t ht m hm hmt with hc|⟨_,hc⟩
 ·rcases k with rfl|rfl
  ·exact hc
  ·rcases hc with rfl|rfl
   ·exact .inr rfl
   ·exact .inl rfl
 ·exfalso
  have ne:=h.ne
  have k0:m≠a:=fun e2=>by
   have:pt a b u=pt a b 0:=by rw [iH,←e,e2]
   have:=jt ne this;grind
  have k1:m≠b:=fun e2=>by
   have:pt a b u=pt a b 1:=by rw [kD,←e,e2]
   have:=jt ne this;grind
  rcases k with rfl|rfl
  ·rcases hc with hc|hc
   ·exact k0 hc
   ·exact k1 hc
  ·rcases hc with hc|hc
   ·exact k1 hc
   ·exact k0 hc
theorem Eye.off (h:Eye C S a b m) {s:Sg} (hs:s∈S) {w:Pt} (hw:aJ s.a s.b w) (h0:0<ar a b w):¬aJ s.a s.b m:=fun hm=>
 vY (h.own hs hm) h0 (iv hw)
theorem Eye.ne_of (h:Eye C S a b m) {d:Pt} (hd:0<ar a b d):m≠d:=fun e=>by
 rw [←e,h.m0] at hd;exact aL hd
theorem bm (m e P Q:Pt) (l:Rat):ar P Q (pt m e l)=(1-l)*ar P Q m+l*ar P Q e:=by rw [jn];grind
theorem Bq {m e:Pt} {s:Sg} {w:Pt} (hw:aJ s.a s.b w) (hwa:w≠s.a) (hwb:w≠s.b) (h0:ar m e w=0):(ar m e s.a=0∧ar m e s.b=0)∨(ar m e s.a<0∧0<ar m e s.b)∨(0<ar m e s.a∧ar m e s.b<0):=by
 obtain ⟨n,n0,n1,rfl⟩:=hw
 rw [bm] at h0
 have k0:0<n:=by
  rcases cf n0 with h|h
  ·exact h
  ·rw [←h,iH] at hwa;exact absurd rfl hwa
 have k1:0<1-n:=by
  rcases cf n1 with h|h
  ·grind
  ·rw [h,kD] at hwb;exact absurd rfl hwb
 rcases eH (ar m e s.a) 0 with h|h|h
 ·refine .inr (.inl ⟨h,?_⟩)
  rcases qlt 0 (ar m e s.b) with h2|h2
  ·exact h2
  ·have:=au k1 (show 0< -ar m e s.a by grind)
   have:=aj n0 (show 0≤ -ar m e s.b by grind)
   grind
 ·refine .inl ⟨h,?_⟩
  rw [h] at h0
  rcases br.1 (show n*ar m e s.b=0 by grind) with h2|h2
  ·grind
  ·exact h2
 ·refine .inr (.inr ⟨h,?_⟩)
  rcases qlt (ar m e s.b) 0 with h2|h2
  ·exact h2
  ·have:=au k1 h
   have:=aj n0 h2
   grind
theorem Eye.notAlong (h:Eye C S a b m) {s:Sg} (hs:s∈S) {e w:Pt} (hme:m≠e) {l:Rat} (l0:0<l) (hw:w=pt m e l) (hws:aJ s.a s.b w) (hwC:w∉C) (hH:0<ar a b w) (hfr:nL S m w):¬(ar m e s.a=0∧ar m e s.b=0):=by
 rintro ⟨ha,hb⟩
 obtain ⟨x,hx⟩:=iB hme ha
 obtain ⟨y,hy⟩:=iB hme hb
 have hoff:=h.off hs hws hH
 have wa:w≠s.a:=fun e=>hwC (by rw [e];exact h.net.ea s hs)
 have wb:w≠s.b:=fun e=>hwC (by rw [e];exact h.net.eb s hs)
 obtain ⟨n,n0,n1,en⟩:=hws
 have hl:l=x+n*(y-x):=by
  have:pt m e l=pt m e (x+n*(y-x)):=by rw [←hw,en,hx,hy,pn]
  exact jt hme this
 have k0:0<n:=by
  rcases cf n0 with h|h
  ·exact h
  ·rw [←h,iH] at en;exact absurd en wa
 have k1:0<1-n:=by
  rcases cf n1 with h|h
  ·grind
  ·rw [h,kD] at en;exact absurd en wb
 have mon:∀ n',0≤n'→n'≤1→x+n'*(y-x)≠0:=fun n' h0 h1 e0=>hoff ⟨n',h0,h1,by
  have:pt m e (x+n'*(y-x))=pt s.a s.b n':=by rw [hx,hy,pn]
  rw [←this,e0,iH]⟩
 have key:∀ v c,c∈C→c=pt m e v→aJ s.a s.b c→0<v→v<l→False:=fun v c hc ec hon v0 vl=>by
  have ho:aJ m w c:=by rw [hw,ec];exact Sm (ai v0) (ai vl) l0
  rcases hfr s hs c hon ho with e1|e1
  ·rw [ec] at e1
   have:pt m e v=pt m e 0:=by rw [iH];exact e1
   have:=jt hme this;grind
  ·exact hwC (by rw [←e1];exact hc)
 rcases eH x y with hlt|heq|hgt
 ·have hxl:x<l:=by have:=au k0 (show 0<y-x by grind);grind
  rcases qlt 0 x with hx0|hx0
  ·exact key x s.a (h.net.ea s hs) hx (j8 _ _) hx0 hxl
  ·
   have hd:0<y-x:=by grind
   have e: -x/(y-x)*(y-x)= -x:=Rat.div_mul_cancel (by grind)
   have hxy:0<y:=by
    have:=au k1 hd;grind
   have pr:=part hd (show 0≤ -x by grind) (by grind)
   exact mon (-x/(y-x)) pr.1 pr.2 (by grind)
 ·rw [heq] at hl
  have:y=l:=by grind
  have:s.a=s.b:=by rw [hx,hy,heq]
  exact h.net.ne s hs this
 ·have hyl:y<l:=by have:=au k1 (show 0<x-y by grind);grind
  rcases qlt 0 y with hy0|hy0
  ·exact key y s.b (h.net.eb s hs) hy (mI _ _) hy0 hyl
  ·have hd:0<x-y:=by grind
   have e:x/(x-y)*(x-y)=x:=Rat.div_mul_cancel (by grind)
   have hx0:0<x:=by
    have:=au k0 hd;grind
   have pr:=part hd (show 0≤x by grind) (by grind)
   exact mon (x/(x-y)) pr.1 pr.2 (by grind)
end Go.Av
namespace Go.Av
variable {C:List Pt} {S:List Sg} {a b m:Pt}
theorem sS.z {p q r:Pt} (h:ar p q r≠0):sS p q r q:=by
 rcases eH (ar p q r) 0 with k|k|k
 ·exact .inr (.v3 (by rw [←iu,uM];grind))
 ·exact absurd k h
 ·exact .inl (.v2 k)
theorem sS.e {p q r:Pt} (h:ar p q r≠0):sS p q r r:=by
 rcases eH (ar p q r) 0 with k|k|k
 ·exact .inr (.v2 (by rw [←iu,uM];grind))
 ·exact absurd k h
 ·exact .inl (.v3 k)
theorem JL (u v:Pt) (x n:Rat):pt (pt u v x) u n=pt u v ((1-n)*x):=by refine Pt.ext ?_ ?_<;>(unfold pt;simp only;grind)
theorem EJ (u v:Pt) (x n:Rat):pt (pt u v x) v n=pt u v (x+n*(1-x)):=by refine Pt.ext ?_ ?_<;>(unfold pt;simp only;grind)
theorem rq {s:Sg} {w f P:Pt} (hf:f=s.a∨f=s.b) (hw:aJ s.a s.b w) (h:aJ w f P):aJ s.a s.b P:=by
 obtain ⟨n,n0,n1,rfl⟩:=h
 obtain ⟨v,v0,v1,rfl⟩:=hw
 rcases hf with rfl|rfl
 ·rw [JL]
  refine ⟨(1-n)*v,aj (by grind) v0,?_,rfl⟩
  have:=aj n0 v0;grind
 ·rw [EJ]
  refine ⟨v+n*(1-v),?_,?_,rfl⟩
  ·have:=aj n0 (show 0≤1-v by grind);grind
  ·have:=aj (show 0≤1-n by grind) (show 0≤1-v by grind);grind
theorem EE {s:Sg} (hne:s.a≠s.b) {z e P:Pt} (he:e=s.a∨e=s.b) (hz:aJ s.a s.b z) (hza:z≠s.a) (hzb:z≠s.b) (h:aJ z e P) (hP:P=s.a∨P=s.b):P=e:=by
 obtain ⟨n,n0,n1,en⟩:=h
 obtain ⟨v,v0,v1,rfl⟩:=hz
 have k0:v≠0:=fun e=>hza (by rw [e,iH])
 have k1:v≠1:=fun e=>hzb (by rw [e,kD])
 rcases he with rfl|rfl
 ·rw [JL] at en
  rcases hP with rfl|rfl
  ·rfl
  ·exfalso
   have:=jt hne (en.symm.trans (kD _ _).symm)
   have:=aj n0 v0;grind
 ·rw [EJ] at en
  rcases hP with rfl|rfl
  ·exfalso
   have:=jt hne (en.symm.trans (iH _ _).symm)
   have:=aj n0 (show 0≤1-v by grind);grind
  ·rfl
theorem Eye.stepIn (h:Eye C S a b m) {z e:Pt} (hz:0<ar a b z) (he:0<ar a b e) (hzC:z∉C) (hfz:nL S m z) {t:Sg} (ht:t∈S) (htz:aJ t.a t.b z) (hte:e=t.a∨e=t.b)
 {l:Rat} (l0:0<l) (l1:l<1) {w:Pt} (hw:w=pt m e l) (hwC:w∉C) (hfw:nL S m w) {s:Sg} (hs:s∈S) (hsw:aJ s.a s.b w) {q r:Pt} (hqr:q=e∧r=m∨q=m∧r=e) (hA:0<ar z q r):
 ∃ f,(f=s.a∨f=s.b)∧0<ar q r f∧InT z q r f:=by
 have hme:=h.ne_of he
 have hHw:0<ar a b w:=by
  rw [hw,bm,h.m0]
  have:=au l0 he;grind
 have hsm:=h.off hs hsw hHw
 have hwe:w≠e:=fun k=>by
  have:pt m e l=pt m e 1:=by rw [kD,←hw,k]
  have:=jt hme this;grind
 have hwl:ar m e w=0:=by rw [hw,bm,cL,cw];grind
 have teC:e∈C:=by rcases hte with k|k<;>rw [k];exact h.net.ea t ht;exact h.net.eb t ht
 have hze:z≠e:=fun k=>hzC (by rw [k];exact teC)
 have hnd:ar m e z≠0:=by
  rcases hqr with ⟨rfl,rfl⟩|⟨rfl,rfl⟩
  ·have:ar z q r= -ar r q z:=by unfold ar;grind
   grind
  ·have:ar z q r=ar q r z:=by unfold ar;grind
   grind
 have hdif:¬eF s t:=fun k=>by
  have k1:aJ t.a t.b w:=(kH k).1 hsw
  have k2:aJ t.a t.b e:=by rcases hte with k|k<;>rw [k];exact j8 _ _;exact mI _ _
  have g1:=iv k1;have g2:=iv k2;have g3:=iv htz
  rw [hw,bm] at g1
  have g4:ar t.a t.b m=0:=by
   have:(1-l)*ar t.a t.b m=0:=by grind
   rcases br.1 this with h|h
   ·grind
   ·exact h
  have hne:=h.net.ne t ht
  obtain ⟨x,hx⟩:=iB hne g4
  obtain ⟨y,hy⟩:=iB hne g2
  obtain ⟨u,hu⟩:=iB hne g3
  refine hnd ?_
  rw [hx,hy,hu]
  unfold ar pt;simp only;grind
 have hwa:w≠s.a:=fun e=>hwC (by rw [e];exact h.net.ea s hs)
 have hwb:w≠s.b:=fun e=>hwC (by rw [e];exact h.net.eb s hs)
 have hna:=h.notAlong hs hme l0 hw hsw hwC hHw hfw
 have hst:∀ P,aJ s.a s.b P→aJ t.a t.b P→(P=s.a∨P=s.b)∧(P=t.a∨P=t.b):=fun P h1 h2=>(h.net.cross s hs t ht P h1 h2).resolve_left hdif
 have hes:¬aJ s.a s.b e:=fun k=>by
  have g1:=iv hsw;have g2:=iv k
  rw [hw,bm] at g1
  have g4:ar s.a s.b m=0:=by
   have:(1-l)*ar s.a s.b m=0:=by grind
   rcases br.1 this with h|h
   ·grind
   ·exact h
  have hne:=h.net.ne s hs
  obtain ⟨x,hx⟩:=iB hne g4
  obtain ⟨y,hy⟩:=iB hne g2
  refine hna ⟨?_,?_⟩
  ·rw [hx,hy];unfold ar pt;simp only;grind
  ·rw [hx,hy];unfold ar pt;simp only;grind
 have main:∀ f,(f=s.a∨f=s.b)→0<ar q r f→InT z q r f:=fun f hf hk=>by
  have wf:∀ P,aJ w f P→aJ s.a s.b P:=fun P hP=>rq hf hsw hP
  have tz:∀ P,aJ z e P→aJ t.a t.b P:=fun P hP=>rq hte htz hP
  have n1:¬ez w f z e:=by
   rintro ⟨P,h1,h2⟩
   have hPs:=wf P h1
   obtain ⟨p1,p2⟩:=hst P hPs (tz P h2)
   have:P=e:=EE (h.net.ne t ht) hte htz (fun k=>hzC (by rw [k];exact h.net.ea t ht)) (fun k=>hzC (by rw [k];exact h.net.eb t ht)) h2 p2
   exact hes (by rw [←this];exact hPs)
  have n2:¬ez w f m z:=by
   rintro ⟨P,h1,h2⟩
   have hPs:=wf P h1
   rcases hfz s hs P hPs h2 with k|k
   ·exact hsm (by rw [←k];exact hPs)
   ·obtain ⟨p1,_⟩:=hst P hPs (by rw [k];exact htz)
    exact hzC (by rw [←k];rcases p1 with k|k<;>rw [k];exact h.net.ea s hs;exact h.net.eb s hs)
  rcases hqr with ⟨rfl,rfl⟩|⟨rfl,rfl⟩
  ·refine F2 (z:=w) hA ?_ ?_ ?_ ?_ n1 n2
   ·rw [hw,bm,cw];have:=au (show 0<1-l by grind) hA;grind
   ·rw [hw,bm,cL];have:=au l0 hA;rw [←iu] at this;grind
   ·rw [mZ,hwl];grind
   ·rw [mZ,hwl];grind
  ·refine F2 (z:=w) hA ?_ ?_ ?_ ?_ (fun k=>n2 k.rev2) (fun k=>n1 k.rev2)
   ·rw [hw,bm,cw];have:=au l0 hA;grind
   ·rw [hw,bm,cL];have:=au (show 0<1-l by grind) hA;rw [←iu] at this;grind
   ·rw [hwl];exact Rat.le_refl
   ·rw [hwl];exact hk
 rcases Bq hsw hwa hwb hwl with k|⟨k1,k2⟩|⟨k1,k2⟩
 ·exact absurd k hna
 ·rcases hqr with ⟨rfl,rfl⟩|⟨rfl,rfl⟩
  ·have:0<ar q r s.a:=by rw [mZ];grind
   exact ⟨s.a,.inl rfl,this,main _ (.inl rfl) this⟩
  ·exact ⟨s.b,.inr rfl,k2,main _ (.inr rfl) k2⟩
 ·rcases hqr with ⟨rfl,rfl⟩|⟨rfl,rfl⟩
  ·have:0<ar q r s.b:=by rw [mZ];grind
   exact ⟨s.b,.inr rfl,this,main _ (.inr rfl) this⟩
  ·exact ⟨s.a,.inl rfl,k1,main _ (.inl rfl) k1⟩
theorem wQ {p q:Pt→Bool} {s:Pt}:∀ {Y:List Pt},(∀ y,p y=true→q y=true)→s∈Y→q s=true→p s=false→Y.countP p<Y.countP q
 |y::Y,h,hs,h1,h2=>by
  have hle:Y.countP p≤Y.countP q:=List.countP_mono_left fun y _=>h y
  rcases ay.1 hs with rfl|hs
  ·rw [List.countP_cons_of_neg (by rw [h2];decide),List.countP_cons_of_pos h1];omega
  ·have:=wQ h hs h1 h2
   cases hp:p y with
   |true=>rw [List.countP_cons_of_pos hp,List.countP_cons_of_pos (h y hp)];omega
   |false=>rw [List.countP_cons_of_neg (by rw [hp];decide)];rw [List.countP_cons];split<;>omega
def IY (C:List Pt) (p q r:Pt):Nat:=C.countP (P2 p q r)
theorem EF (h:Eye C S a b m) {z e:Pt} (hz:0<ar a b z) (he:0<ar a b e) (hzC:z∉C) (hfz:nL S m z) {t:Sg} (ht:t∈S) (htz:aJ t.a t.b z) (hte:e=t.a∨e=t.b):ar m z e≠0:=by
 intro hd
 have hmz:=h.ne_of hz
 have teC:e∈C:=by rcases hte with k|k<;>rw [k];exact h.net.ea t ht;exact h.net.eb t ht
 have hze:z≠e:=fun k=>hzC (by rw [k];exact teC)
 obtain ⟨x,hx⟩:=iB hmz hd
 have g2:aJ t.a t.b e:=by rcases hte with k|k<;>rw [k];exact j8 _ _;exact mI _ _
 have hne:=h.net.ne t ht
 have z1:=iv htz
 have z2:=iv g2
 have z3:ar t.a t.b m=0:=by
  rw [hx,bm] at z2
  have hx1:x≠1:=fun k=>hze (by rw [hx,k,kD])
  have:(1-x)*ar t.a t.b m=0:=by grind
  rcases br.1 this with k|k
  ·grind
  ·exact k
 refine h.notAlong ht (w:=z) (e:=z) (l:=1) hmz (by decide+kernel) (kD _ _).symm htz hzC hz hfz ?_
 obtain ⟨u,hu⟩:=iB hne z3
 obtain ⟨v,hv⟩:=iB hne z1
 refine ⟨?_,?_⟩<;>(rw [hu,hv];unfold ar pt;simp only;grind)
theorem see (h:Eye C S a b m):∀ (n:Nat) (z e:Pt) (t:Sg),0<ar a b z→0<ar a b e→nL S m z→t∈S→aJ t.a t.b z→(e=t.a∨e=t.b)→IY C m z e≤n→∃ c∈C,0<ar a b c∧nL S m c∧sS m z e c:=by
 intro n
 induction n with
 |zero=>
  intro z e t hz he hfz ht htz hte hn
  exfalso
  have teC:e∈C:=by rcases hte with k|k<;>rw [k];exact h.net.ea t ht;exact h.net.eb t ht
  by_cases hzC:z∈C
  ·by_cases hA:ar m z e=0
   ·have:P2 m z e z=true:=p8.2 (.inl ⟨by rw [cw];exact Rat.le_refl,by rw [cL];exact Rat.le_refl,by rw [iu,hA];exact Rat.le_refl⟩)
    have:=List.countP_pos_iff.2 ⟨z,hzC,this⟩
    unfold IY at hn;omega
   ·have:=List.countP_pos_iff.2 ⟨z,hzC,p8.2 (sS.z hA)⟩
    unfold IY at hn;omega
  ·have hA:=EF h hz he hzC hfz ht htz hte
   have:=List.countP_pos_iff.2 ⟨e,teC,p8.2 (sS.e hA)⟩
   unfold IY at hn;omega
 |succ n ih=>
  intro z e t hz he hfz ht htz hte hn
  have teC:e∈C:=by rcases hte with k|k<;>rw [k];exact h.net.ea t ht;exact h.net.eb t ht
  by_cases hzC:z∈C
  ·refine ⟨z,hzC,hz,hfz,?_⟩
   by_cases hA:ar m z e=0
   ·exact .inl ⟨by rw [cw];exact Rat.le_refl,by rw [cL];exact Rat.le_refl,by rw [iu,hA];exact Rat.le_refl⟩
   ·exact sS.z hA
  have hA:=EF h hz he hzC hfz ht htz hte
  have hme:=h.ne_of he
  rcases tN hme h.net.ne (fun s hs k=>vY (h.own hs k) he) with k|⟨l,l0,l1,hfw,s,hs,hsw⟩
  ·exact ⟨e,teC,he,k,sS.e hA⟩
  have hHw:0<ar a b (pt m e l):=by
   rw [bm,h.m0]
   have:=au l0 he;grind
  have inW:sS m z e (pt m e l):=by
   rcases eH (ar m z e) 0 with k|k|k
   ·refine .inr ⟨?_,?_,?_⟩
    ·rw [bm,cL,cw];grind
    ·rw [bm,cL]
     have:=au (show 0<1-l by grind) (show 0<ar e z m by unfold ar at k ⊢;grind);grind
    ·rw [bm,cw]
     have:=au l0 (show 0<ar z m e by unfold ar at k ⊢;grind);grind
   ·exact absurd k hA
   ·refine .inl ⟨?_,?_,?_⟩
    ·rw [bm,cL]
     have:=au l0 k;grind
    ·rw [bm,cw]
     have:=au (show 0<1-l by grind) (show 0<ar z e m by unfold ar at k ⊢;grind);grind
    ·rw [bm,cL,cw];grind
  by_cases hwC:pt m e l∈C
  ·exact ⟨_,hwC,hHw,hfw,inW⟩
  have key:∃ f,(f=s.a∨f=s.b)∧0<ar a b f∧(∀ x,sS m (pt m e l) f x→sS m z e x)∧¬sS m (pt m e l) f e:=by
   have tail:∀ q r:Pt,(q=e∧r=m∨q=m∧r=e)→0<ar z q r→∃ f,(f=s.a∨f=s.b)∧0<ar a b f∧(∀ x,sS m (pt m e l) f x→InT z q r x)∧¬sS m (pt m e l) f e:=fun q r hqr hP=>by
    obtain ⟨f,hf,hk,hin⟩:=h.stepIn hz he hzC hfz ht htz hte l0 l1 rfl hwC hfw hs hsw hqr hP
    refine ⟨f,hf,?_,?_,?_⟩
    ·have e1:=GF z q r a b f
     have p1:=au hk hz
     have m0:=h.m0
     rcases hqr with ⟨rfl,rfl⟩|⟨rfl,rfl⟩
     ·have p2:=aj hin.c (ai he)
      rw [m0] at e1
      rcases qlt 0 (ar a b f) with g|g
      ·exact g
      ·have:=aj (ai hP) (show 0≤ -ar a b f by grind);grind
     ·have p2:=aj hin.a (ai he)
      rw [m0] at e1
      rcases qlt 0 (ar a b f) with g|g
      ·exact g
      ·have:=aj (ai hP) (show 0≤ -ar a b f by grind);grind
    ·intro x hx
     rcases hqr with ⟨rfl,rfl⟩|⟨rfl,rfl⟩
     ·
      have hor:0<ar r f (pt r q l):=by rw [bm,cL];have:=au l0 (show 0<ar r f q by unfold ar at hk ⊢;grind);grind
      have inw:InT z q r (pt r q l):=⟨by rw [bm,cw];have:=au (show 0<1-l by grind) (show 0<ar z q r from hP);grind,by rw [bm,cL,cw];grind,by rw [bm,cL];have:=au l0 (show 0<ar r z q by rw [iu];exact hP);grind⟩
      rcases hx with hx|hx
      ·exfalso
       have:=BN r (pt r q l) f x
       have hneg:ar r (pt r q l) f= -ar r f (pt r q l):=by unfold ar;grind
       have:=hx.a;have:=hx.b;have:=hx.c;grind
      ·exact hx.sub hor (.v3 hP) hin inw
     ·have hor:0<ar q (pt q r l) f:=by
       have:ar q (pt q r l) f=l*ar q r f:=by unfold ar pt;simp only;grind
       rw [this];exact au l0 hk
      have inw:InT z q r (pt q r l):=⟨by rw [bm,cw];have:=au l0 (show 0<ar z q r from hP);grind,by rw [bm,cL,cw];grind,by rw [bm,cL];have:=au (show 0<1-l by grind) (show 0<ar r z q by rw [iu];exact hP);grind⟩
      rcases hx with hx|hx
      ·exact hx.sub hor (.v2 hP) inw hin
      ·exfalso
       have:=BN q f (pt q r l) x
       have hneg:ar q f (pt q r l)= -ar q (pt q r l) f:=by unfold ar;grind
       have:=hx.a;have:=hx.b;have:=hx.c;grind
    ·intro hx
     rcases hqr with ⟨rfl,rfl⟩|⟨rfl,rfl⟩
     ·rcases hx with hx|hx
      ·have:=hx.c
       have e1:ar f r q= -ar q r f:=by unfold ar;grind
       grind
      ·have:=hx.b
       have e1:ar f (pt r q l) q= -((1-l)*ar q r f):=by unfold ar pt;simp only;grind
       have:=au (show 0<1-l by grind) hk
       grind
     ·rcases hx with hx|hx
      ·have:=hx.b
       have e1:ar (pt q r l) f r= -((1-l)*ar q r f):=by unfold ar pt;simp only;grind
       have:=au (show 0<1-l by grind) hk
       grind
      ·have:=hx.a
       have e1:ar q f r= -ar q r f:=by unfold ar;grind
       grind
   rcases eH (ar m z e) 0 with k|k|k
   ·obtain ⟨f,p1,p2,p3,p4⟩:=tail m e (.inr ⟨rfl,rfl⟩) (by unfold ar at k ⊢;grind)
    exact ⟨f,p1,p2,fun x hx=> .inr (p3 x hx).rot,p4⟩
   ·exact absurd k hA
   ·obtain ⟨f,p1,p2,p3,p4⟩:=tail e m (.inl ⟨rfl,rfl⟩) (by unfold ar at k ⊢;grind)
    exact ⟨f,p1,p2,fun x hx=> .inl (p3 x hx).rot.rot,p4⟩
  obtain ⟨f,hf,hHf,hsub,hno⟩:=key
  have hcnt:IY C m (pt m e l) f<IY C m z e:=by
   unfold IY
   refine wQ (s:=e) (fun x hx=>p8.2 (hsub x (p8.1 hx))) teC (p8.2 (sS.e hA)) ?_
   rw [←Bool.not_eq_true];exact fun k=>hno (p8.1 k)
  obtain ⟨c,c1,c2,c3,c4⟩:=ih (pt m e l) f s hHw hHf hfw hs hsw hf (by omega)
  exact ⟨c,c1,c2,c3,hsub c c4⟩
end Go.Av
