/- Helping texts: Mm, Ra, Rb, Rc, Rd, Re, Rf, Rg, Rh, Ri, Rj, Rk, Rl, Rm, Rn, Ro, Rp, Rq, Ua. -/
import Derived.Test.YtkmlhdfpcjkekaaGreatKMk
import Derived.Test.YtkmlhdfpcjkekaaGreatKFa
import Derived.Test.YtkmlhdfpcjkekaaGreatKCs
import Derived.Test.YtkmlhdfpcjkekaaGreatKCt
import Derived.Test.YtkmlhdfpcjkekaaGreatKDn
import Derived.Test.YtkmlhdfpcjkekaaGreatKMc
set_option linter.unusedSimpArgs false
set_option linter.unusedVariables false
set_option maxRecDepth 100000
set_option maxHeartbeats 16000000
namespace Go.Av
open Go.RowKit
open Go.Proofs.Tryz (prog)
theorem mj.apart {L:List Pt} (h:mj L):(aU L).Pairwise fun e f=>∀ q,aJ e.a e.b q→aJ f.a f.b q→q=e.a∨q=e.b:=by
 unfold aU
 rw [List.pairwise_map]
 refine (List.Pairwise.and_mem.1 (List.pairwise_lt_range)).imp ?_
 rintro i k ⟨hi,hk,hik⟩
 have hi:=dz.1 hi
 have hk:=dz.1 hk
 rw [kU hi,kU hk]
 try simp only
 intro q q1 q2
 have hlo:=h.lo
 by_cases h1:sc L.length i=k
 ·subst h1
  have fl:=h.fl i hi
  obtain ⟨m,_,_,rfl⟩:=q1
  obtain ⟨t,_,_,e⟩:=q2
  have e1:ar (L.getD i default) (L.getD (sc L.length i) default) (pt (L.getD i default) (L.getD (sc L.length i) default) m)=0:=by unfold ar pt;simp only;grind
  rw [e,wd] at e1
  rcases br.1 e1 with e2|e2
  ·right;rw [e,e2];refine Pt.ext ?_ ?_<;>(unfold pt;simp only;grind)
  ·exact absurd e2 fl
 ·by_cases h2:sc L.length k=i
  ·subst h2
   have fl:=h.fl k hk
   obtain ⟨m,_,_,rfl⟩:=q1
   obtain ⟨t,_,_,e⟩:=q2
   have e1:ar (L.getD k default) (L.getD (sc L.length k) default) (pt (L.getD k default) (L.getD (sc L.length k) default) t)=0:=by unfold ar pt;simp only;grind
   rw [←e,wd] at e1
   rcases br.1 e1 with e2|e2
   ·left;rw [e2];refine Pt.ext ?_ ?_<;>(unfold pt;simp only;grind)
   ·exact absurd e2 fl
  ·exact absurd ⟨q,q1,q2⟩ (h.cr i k hi hk (by omega) h1 h2)
theorem pN (L:List Pt):((aU L).map Sg.b).Perm ((aU L).map Sg.a):=by rw [qk];exact tT L
theorem MH {s:Sg} (h:s.a.y≠s.b.y):s.rev.up= !s.up:=by
 unfold Sg.up Sg.rev
 try simp only
 rcases eH s.a.y s.b.y with k|k|k
 ·rw [an k,ak (by grind)];rfl
 ·exact absurd k h
 ·rw [an k,ak (by grind)];rfl
theorem NP (a b:Pt) (m:Rat):pt b a m=pt a b (1-m):=by refine Pt.ext ?_ ?_<;>(unfold pt;simp only;grind)
theorem Ef {E:List Sg} (h:E.Pairwise fun e f=>∀ q,aJ e.a e.b q→aJ f.a f.b q→q=e.a∨q=e.b):(E.map Sg.rev).Pairwise fun e f=>∀ q,aJ e.a e.b q→aJ f.a f.b q→q=e.a∨q=e.b:=by
 rw [List.pairwise_map]
 exact h.imp fun {e f} hq q q1 q2=>(hq q (cH q1) (cH q2)).symm
theorem KV {E:List Sg} (h:ud E):ud (E.map Sg.rev):=by
 intro s hs
 obtain ⟨s0,h0,rfl⟩:=av.1 hs
 exact fun e=>h s0 h0 e.symm
theorem Du (E:List Sg):(E.map Sg.rev).map Sg.a=E.map Sg.b:=by rw [List.map_map];rfl
theorem Dt (E:List Sg):(E.map Sg.rev).map Sg.b=E.map Sg.a:=by rw [List.map_map];rfl
theorem CV {L:List Pt} (h:mj L) (hz:ud (aU L)):jB L≠0∧(0<jB L→∀ s∈aU L,∀ m:Rat,0<m→m<1→bW L (pt s.a s.b m) L.length=(true^^s.up)):=by
 obtain ⟨c,hc⟩:=NA h hz
 have hlo:=h.lo
 have hne:aU L≠[]:=by
  intro e
  have:(aU L).length=L.length:=by simp [aU]
  rw [e] at this;simp at this;omega
 cases c with
 |true=>
  have l:ug (aU L):=⟨hz,pN L,h.apart,fun e he m m0 m1=>by rw [←iw];exact hc e he m m0 m1⟩
  have p:=l.pos hne
  refine ⟨?_,fun _ s hs m m0 m1=>hc s hs m m0 m1⟩
  rw [l9];grind
 |false=>
  have l:ug ((aU L).map Sg.rev):=by
   refine ⟨KV hz,?_,Ef h.apart,fun e he m m0 m1=> ?_⟩
   ·rw [Du,Dt];exact (pN L).symm
   ·obtain ⟨e0,h0,rfl⟩:=av.1 he
    rw [MH (hz e0 h0),sT]
    have:=hc e0 h0 (1-m) (by grind) (by grind)
    rw [iw] at this
    rw [show pt e0.rev.a e0.rev.b m=pt e0.a e0.b (1-m) from NP ..]
    rw [jl (f:=fun s=>cr (pt e0.a e0.b (1-m)) s.rev.a s.rev.b) (g:=fun s=>cr (pt e0.a e0.b (1-m)) s.a s.b) fun s _=>mL ..,this]
    unfold Sg.up
    cases decide (e0.a.y<e0.b.y)<;>rfl
  have p:=l.pos (by intro e;exact hne (List.map_eq_nil_iff.1 e))
  rw [Bn] at p
  rw [l9]
  constructor
  ·grind
  ·intro k;grind
def shy (k:Rat):Aff:=⟨1,0,k,1,0,0⟩
theorem zu (k:Rat):(shy k).det=1:=by unfold Aff.det shy;simp only;grind
theorem Sh (k:Rat):(shy k).det≠0:=by rw [zu];decide+kernel
theorem yq (E:List Sg) (hne:∀ s∈E,s.a≠s.b):∃ k:Rat,ud (E.map fun s=>s.map (shy k).ap):=by
 obtain ⟨k,hk⟩:=sG (E.map fun s=> -(s.a.y-s.b.y)/(s.a.x-s.b.x))
 refine ⟨k,fun s hs=> ?_⟩
 obtain ⟨s0,h0,rfl⟩:=av.1 hs
 have h1:=hk _ (av.2 ⟨s0,h0,rfl⟩)
 have h2:=hne s0 h0
 unfold Sg.map Aff.ap shy
 try simp only
 intro e
 by_cases hx:s0.a.x=s0.b.x
 ·exact h2 (Pt.ext hx (by rw [hx] at e;grind))
 ·have hd:s0.a.x-s0.b.x≠0:=fun e=>hx (by grind)
  have: -(s0.a.y-s0.b.y)/(s0.a.x-s0.b.x)=k:=by grind
  rw [this] at h1
  exact aL h1
theorem mj.seg_ne {L:List Pt} (h:mj L):∀ s∈aU L,s.a≠s.b:=by
 intro s hs
 obtain ⟨i,hi,rfl⟩:=nq hs
 rw [kU hi]
 exact h.ne i hi
theorem lZ {f:Sg→Bool}:∀ {E:List Sg},(∀ s∈E,f s=false)→bV f E=false
 |[],_=>rfl
 |s::E,h=>by simp only [bV];rw [h s (ah ..),lZ fun s hs=>h s (ag _ hs)];rfl
theorem j6 {L:List Pt} {s:Sg} (h:s∈aU L):s.a∈L∧s.b∈L:=by
 constructor
 ·have:s.a∈(aU L).map Sg.a:=av.2 ⟨s,h,rfl⟩
  rwa [qk] at this
 ·exact (tT L).mem_iff.1 (av.2 ⟨s,h,rfl⟩)
theorem zx {L:List Pt} {p:Pt} (h:∀ v∈L,v.y≤p.y):bW L p L.length=false:=by
 rw [iw]
 refine lZ fun s hs=> ?_
 obtain ⟨h1,h2⟩:=j6 hs
 exact po (Rat.not_lt.2 (h _ h1)) (Rat.not_lt.2 (h _ h2))
theorem HR:∀ {L:List Pt},L≠[]→∃ p∈L,∀ v∈L,v.y≤p.y
 |[p],_=>⟨p,ah ..,fun v hv=>by rw [bH.1 hv];exact Rat.le_refl⟩
 |p::q::L,_=>by
  obtain ⟨t,ht,h⟩:=HR (L:=q::L) (by simp)
  rcases Rat.le_total (a:=p.y) (b:=t.y) with k|k
  ·exact ⟨t,ag _ ht,fun v hv=>by
    rcases ay.1 hv with rfl|hv
    ·exact k
    ·exact h v hv⟩
  ·exact ⟨p,ah ..,fun v hv=>by
    rcases ay.1 hv with rfl|hv
    ·exact Rat.le_refl
    ·exact iy (h v hv) k⟩
theorem around {h L:List Pt} (nm:jC h L) (h0:h≠[]) (L0:L≠[]) (hin:∀ p∈h,bW L p L.length=true):∀ p∈L,bW h p h.length=false:=by
 obtain ⟨t,ht,tt⟩:=HR L0
 obtain ⟨u,hu,uu⟩:=HR h0
 have hlt:u.y≤t.y:=by
  refine Rat.not_lt.1 fun k=> ?_
  have:=zx (L:=L) (p:=u) fun v hv=>iy (tt v hv) (ai k)
  rw [hin u hu] at this;cases this
 have ot:=zx (L:=h) (p:=t) fun v hv=>iy (uu v hv) hlt
 intro p hp
 obtain ⟨i,hi,rfl⟩:=nY hp
 obtain ⟨j,hj,rfl⟩:=nY ht
 rw [pW nm.symm hi,←pW nm.symm hj]
 exact ot
structure vF (L:List Pt) (Hs:List (List Pt)):Prop where
 out:mj L
 pos:0<jB L
 holes:∀ h∈Hs,mj h∧0<jB h
 mo:∀ h∈Hs,jC h L
 wo:∀ h∈Hs,∀ p∈h,bW L p L.length=true
 ow:∀ h∈Hs,∀ p∈L,bW h p h.length=false
 pw:Hs.Pairwise Sep
theorem da.nest {L:List Pt} {Hs:List (List Pt)} (h:da L Hs):vF L Hs:=
 ⟨h.out.good,h.out.areaPos,fun l hl=>⟨(h.holes l hl).good,(h.holes l hl).areaPos⟩,h.mo,h.wo,fun l hl=>around (h.mo l hl) (h.holes l hl).ne h.out.ne (h.wo l hl),h.pw⟩
theorem tv {t:Aff} (ht:Par t) {l:List Pt} {p:Pt} (hp:∀ s∈aU l,¬aJ s.a s.b p):bW (l.map t.ap) (t.ap p) (l.map t.ap).length=bW l p l.length:=ht.2 l p hp
theorem vF.map {L:List Pt} {Hs:List (List Pt)} (h:vF L Hs) {t:Aff} (ht:Par t) (hd:0<t.det):vF (L.map t.ap) (Hs.map fun l=>l.map t.ap):=by
 have ar:∀ l,0<jB l→0<jB (l.map t.ap):=fun l hl=>by rw [FA];exact au hd hl
 refine ⟨h.out.map ht.1,ar _ h.pos,fun l hl=> ?_,fun l hl=> ?_,fun l hl p hp=> ?_,fun l hl p hp=> ?_,?_⟩
 ·obtain ⟨l,h1,rfl⟩:=av.1 hl
  exact ⟨(h.holes l h1).1.map ht.1,ar _ (h.holes l h1).2⟩
 ·obtain ⟨l,h1,rfl⟩:=av.1 hl
  exact (h.mo l h1).map ht.1
 ·obtain ⟨l,h1,rfl⟩:=av.1 hl
  obtain ⟨p,h2,rfl⟩:=av.1 hp
  rw [tv ht ((h.mo l h1).freeP h2)];exact h.wo l h1 p h2
 ·obtain ⟨l,h1,rfl⟩:=av.1 hl
  obtain ⟨p,h2,rfl⟩:=av.1 hp
  rw [tv ht ((h.mo l h1).symm.freeP h2)];exact h.ow l h1 p h2
 ·rw [List.pairwise_map]
  refine h.pw.imp fun {a b} s=>⟨s.nm.map ht.1,fun p hp=> ?_,fun p hp=> ?_⟩
  ·obtain ⟨p,h2,rfl⟩:=av.1 hp
   rw [tv ht (s.nm.symm.freeP h2)];exact s.ab p h2
  ·obtain ⟨p,h2,rfl⟩:=av.1 hp
   rw [tv ht (s.nm.freeP h2)];exact s.ba p h2
def mg:List (List Pt)→List Sg
 |[]=>[]
 |h::t=>(aU h).map Sg.rev++mg t
def vt (p:Pt):List (List Pt)→Bool
 |[]=>false
 |h::t=>bW h p h.length^^vt p t
theorem sp {Hs:List (List Pt)} {s:Sg} (h:s∈mg Hs):∃ l∈Hs,∃ s0∈aU l,s=s0.rev:=by
 induction Hs with
 |nil=>cases h
 |cons a t ih=>
  rcases aF.1 h with h|h
  ·obtain ⟨s0,h0,rfl⟩:=av.1 h
   exact ⟨a,ah ..,s0,h0,rfl⟩
  ·obtain ⟨l,hl,r⟩:=ih h
   exact ⟨l,ag _ hl,r⟩
theorem yE (p:Pt):∀ Hs,bV (fun s=>cr p s.a s.b) (mg Hs)=vt p Hs
 |[]=>rfl
 |h::t=>by
  simp only [mg,vt]
  rw [kn,yE p t,sT,iw]
  congr 1
  exact jl fun s _=>mL ..
theorem yF:∀ Hs,oi (mg Hs)= -(2*EU jB Hs)
 |[]=>by simp only [mg,oi,EU];grind
 |h::t=>by
  simp only [mg,EU]
  rw [qj,Bn,yF t,l9]
  grind
theorem uZ:∀ Hs,((mg Hs).map Sg.b).Perm ((mg Hs).map Sg.a)
 |[]=>List.Perm.refl _
 |h::t=>by
  simp only [mg]
  rw [bz,bz,Du,Dt]
  exact (pN h).symm.append (uZ t)
theorem tL {p:Pt}:∀ {Hs:List (List Pt)},(∀ h∈Hs,bW h p h.length=false)→vt p Hs=false
 |[],_=>rfl
 |h::t,hh=>by simp only [vt];rw [hh h (ah ..),tL fun l hl=>hh l (ag _ hl)];rfl
theorem nX {A B:List Pt} (h:jC A B) {s:Sg} (hs:s∈aU A) {p:Pt} (hp:aJ s.a s.b p):bW B p B.length=bW B s.a B.length:=by
 refine (qf fun j hj=> ?_).symm
 rintro ⟨q,q1,q2⟩
 refine h s hs (b9 B j) (kC hj) ⟨q,?_,q2⟩
 obtain ⟨m,m0,m1,rfl⟩:=hp
 obtain ⟨k,k0,k1,rfl⟩:=q1
 have h1:=aj k0 m0
 have h2:=aj (show 0≤1-k by grind) m0
 refine ⟨k*m,h1,by grind,?_⟩
 refine Pt.ext ?_ ?_<;>(unfold pt;simp only;grind)
theorem AO {p:Pt} {s:Sg} (hp:aJ s.a s.b p) {l:List Pt} (hs:s∈aU l):∀ {Hs:List (List Pt)},Hs.Pairwise Sep→l∈Hs→vt p Hs=bW l p l.length
 |a::t,hw,hl=>by
  obtain ⟨w1,w2⟩:=qo.1 hw
  simp only [vt]
  rcases ay.1 hl with rfl|hl
  ·rw [tL,Bool.xor_false]
   intro h hh
   have s':=w1 h hh
   rw [nX s'.nm hs hp]
   exact s'.ba _ (j6 hs).1
  ·rw [AO hp hs w2 hl]
   have s':=w1 l hl
   rw [nX s'.nm.symm hs hp,s'.ab _ (j6 hs).1,Bool.false_xor]
theorem vF.lefts {L:List Pt} {Hs:List (List Pt)} (h:vF L Hs) (z1:ud (aU L)) (z2:ud (mg Hs)):ug (aU L++mg Hs):=by
 have memE:∀ {l:List Pt},l∈Hs→∀ {s:Sg},s∈aU l→s.rev∈mg Hs:=by
  intro l hl s hs
  clear z1 z2 h
  induction Hs with
  |nil=>cases hl
  |cons a t ih=>
   rcases ay.1 hl with rfl|hl
   ·exact aF.2 (.inl (av.2 ⟨s,hs,rfl⟩))
   ·exact aF.2 (.inr (ih hl))
 have zl:∀ l∈Hs,ud (aU l):=fun l hl s hs e=>z2 _ (memE hl hs) e.symm
 refine ⟨fun s hs=> ?_,?_,?_,fun e he m m0 m1=> ?_⟩
 ·rcases aF.1 hs with k|k
  ·exact z1 s k
  ·exact z2 s k
 ·rw [bz,bz]
  exact (pN L).append (uZ Hs)
 ·rw [List.pairwise_append]
  refine ⟨h.out.apart,?_,fun e he f hf q q1 q2=> ?_⟩
  ·have pw:=h.pw
   have ho:=h.holes
   clear z1 z2 zl memE h
   induction Hs with
   |nil=>exact List.Pairwise.nil
   |cons a t ih=>
    obtain ⟨w1,w2⟩:=qo.1 pw
    simp only [mg]
    rw [List.pairwise_append]
    refine ⟨Ef (ho a (ah ..)).1.apart,ih w2 fun l hl=>ho l (ag _ hl),fun e he f hf q q1 q2=> ?_⟩
    obtain ⟨e0,k1,rfl⟩:=av.1 he
    obtain ⟨l,hl,f0,k2,rfl⟩:=sp hf
    exact absurd ⟨q,cH q1,cH q2⟩ ((w1 l hl).nm e0 k1 f0 k2)
  ·obtain ⟨l,hl,f0,k2,rfl⟩:=sp hf
   exact absurd ⟨q,cH q2,q1⟩ (h.mo l hl f0 k2 e he)
 ·rw [kn,yE,←iw]
  rcases aF.1 he with k|k
  ·have hp:aJ e.a e.b (pt e.a e.b m):=⟨m,ai m0,ai m1,rfl⟩
   rw [(CV h.out z1).2 h.pos e k m m0 m1,tL,Bool.xor_false]
   intro l hl
   rw [nX (h.mo l hl).symm k hp]
   exact h.ow l hl _ (j6 k).1
  ·obtain ⟨l,hl,e0,k2,rfl⟩:=sp k
   rw [show pt e0.rev.a e0.rev.b m=pt e0.a e0.b (1-m) from NP ..]
   have hp:aJ e0.a e0.b (pt e0.a e0.b (1-m)):=⟨1-m,by grind,by grind,rfl⟩
   rw [nX (h.mo l hl) k2 hp,h.wo l hl _ (j6 k2).1,AO hp k2 h.pw hl,
    (CV (h.holes l hl).1 (zl l hl)).2 (h.holes l hl).2 e0 k2 (1-m) (by grind) (by grind),MH (zl l hl e0 k2)]
   cases e0.up<;>rfl
theorem AP (g:Pt→Pt):∀ Hs,mg (Hs.map fun l=>l.map g)=(mg Hs).map fun s=>s.map g
 |[]=>rfl
 |h::t=>by
  simp only [aY,mg]
  rw [AP g t,l7,bz,List.map_map,List.map_map];rfl
theorem OC {L:List (List Pt)} {t:Aff}:EU jB (L.map fun l=>l.map t.ap)=t.det*EU jB L:=by
 induction L with
 |nil=>simp only [List.map_nil,EU];grind
 |cons a L ih=>simp only [aY,EU,ih,FA];grind
theorem da.areaPos {L:List Pt} {Hs:List (List Pt)} (h:da L Hs):0<jB L-EU jB Hs:=by
 have n:=h.nest
 obtain ⟨k,hk⟩:=yq (aU L++mg Hs) fun s hs=>by
  rcases aF.1 hs with q|q
  ·exact n.out.seg_ne s q
  ·obtain ⟨l,hl,e0,k2,rfl⟩:=sp q
   exact fun e=>(n.holes l hl).1.seg_ne e0 k2 e.symm
 rw [bz] at hk
 have n2:=n.map (EM k) (show 0<(shy k).det by rw [zu];decide+kernel)
 have l2:=n2.lefts (by rw [l7];exact fun s hs=>hk s (aF.2 (.inl hs))) (by rw [AP];exact fun s hs=>hk s (aF.2 (.inr hs)))
 have p:=l2.pos (by
  intro e
  have e2:=(List.append_eq_nil_iff.1 e).1
  have:(aU (L.map (Aff.ap ⟨1,0,k,1,0,0⟩))).length=L.length:=by simp [aU]
  rw [e2] at this
  have:=n.out.lo
  simp at*;omega)
 rw [qj,yF,OC] at p
 have e:=FA L (shy k)
 rw [l9] at e
 have d:=zu k
 unfold shy at d e
 rw [d] at e p
 grind
end Go.Av
open Nat (reduceAdd reduceLT reduceLeDiff reducePow reduceDiv reduceMod reduceEqDiff)
namespace Go.Av
open Go.RowKit
open Go.Proofs.Tryz (prog)
end Go.Av
open Nat (reduceAdd reduceLT reduceLeDiff reducePow reduceDiv reduceMod reduceEqDiff)
namespace Go.Av
open Go.RowKit
open Go.Proofs.Tryz (prog)
end Go.Av
namespace Go.Av
open Go.RowKit
open Go.Proofs.Tryz (prog)
end Go.Av
open Nat (reduceAdd reduceLT reduceLeDiff reducePow reduceDiv reduceMod reduceEqDiff)
namespace Go.Av
open Go.RowKit
open Go.Proofs.Tryz (prog)
def low (l:List UInt8) (j:Nat):Nat:=bn (l.drop (l.length-j))
end Go.Av
open Nat (reduceAdd reduceLT reduceLeDiff reducePow reduceDiv reduceMod reduceEqDiff)
namespace Go.Av
open Go.RowKit
open Go.Proofs.Tryz (prog)
end Go.Av
namespace Go.Av
open Go.RowKit
open Go.Proofs.Tryz (prog)
end Go.Av
namespace Go.Av
open Go.RowKit
open Go.Proofs.Tryz (prog)
end Go.Av
namespace Go.Av
open Go.RowKit
open Go.Proofs.Tryz (prog)
end Go.Av
namespace Go.Av
open Go.RowKit
open Go.Proofs.Tryz (prog)
end Go.Av
namespace Go.Av
open Go.RowKit
open Go.Proofs.Tryz (prog)
end Go.Av
namespace Go.Av
open Go.RowKit
open Go.Proofs.Tryz (prog)
end Go.Av
namespace Go.Av
open Go.RowKit
open Go.Proofs.Tryz (prog)
end Go.Av
namespace Go.Av
open Go.RowKit
open Go.Proofs.Tryz (prog)
end Go.Av
namespace Go.Av
open Go.RowKit
open Go.Proofs.Tryz (prog)
end Go.Av
namespace Go.Av
open Go.RowKit
open Go.Proofs.Tryz (prog)
end Go.Av
namespace Go.Av
open Go.RowKit
open Go.Proofs.Tryz (prog)
end Go.Av
namespace Go.Av
open Go.RowKit
open Go.Proofs.Tryz (prog)
theorem JT {a b p:Pt} (hne:a≠b) (h:ar a b p=0):∃ m,p=pt a b m:=by
 by_cases hx:b.x-a.x=0
 ·have hy:b.y-a.y≠0:=fun hy=>hne (Pt.ext (by grind) (by grind))
  refine ⟨(p.y-a.y)/(b.y-a.y),Pt.ext ?_ ?_⟩
  ·unfold pt ar at*;simp only;grind
  ·unfold pt;simp only
   rw [Rat.div_mul_cancel hy];grind
 ·refine ⟨(p.x-a.x)/(b.x-a.x),Pt.ext ?_ ?_⟩
  ·unfold pt;simp only
   rw [Rat.div_mul_cancel hx];grind
  ·unfold pt ar at*;simp only
   have:(p.x-a.x)/(b.x-a.x)*(b.y-a.y)=p.y-a.y:=by
    rw [Rat.div_def]
    have:(b.x-a.x)*(b.x-a.x)⁻¹=1:=Rat.mul_inv_cancel _ hx
    grind
   grind
theorem Jy (x:Rat):0≤x*x:=by
 by_cases h:0≤x
 ·exact aj h h
 ·have:=aj (show 0≤ -x by grind) (show 0≤ -x by grind)
  grind
theorem MX {x:Rat} (h:x≠0):0<x*x:=by
 by_cases h0:0<x
 ·exact au h0 h0
 ·have:=au (show 0< -x by grind) (show 0< -x by grind)
  grind
theorem EW {a b:Pt} (hne:a≠b):0<(b.x-a.x)*(b.x-a.x)+(b.y-a.y)*(b.y-a.y):=by
 have h1:=Jy (b.x-a.x)
 have h2:=Jy (b.y-a.y)
 by_cases hx:b.x-a.x=0
 ·have hy:b.y-a.y≠0:=fun hy=>hne (Pt.ext (by grind) (by grind))
  have:=MX hy
  grind
 ·have:=MX hx
  grind
theorem Qq {a b:List Pt} (nm:jC a b) {v:Bool} (hv:∀ p∈a,bW b p b.length=v) {q:Pt} (hq:onE a q):¬onE b q∧bW b q b.length=v:=by
 obtain ⟨s,hs,k⟩:=hq
 refine ⟨fun ⟨r,hr,k2⟩=>nm s hs r hr ⟨q,k,k2⟩,?_⟩
 obtain ⟨i,hi,rfl⟩:=nq hs
 have hm:a.getD i default∈a:=by rw [ae,af hi];exact bx hi
 rw [←hv _ hm]
 refine (qf fun j hj=> ?_).symm
 rintro ⟨p,⟨m,m0,m1,rfl⟩,k2⟩
 obtain ⟨n,n0,n1,rfl⟩:=k
 refine nm _ (kC hi) _ (kC hj) ⟨_,⟨m*n,aj m0 n0,?_,?_⟩,k2⟩
 ·have:=aj (show 0≤1-m by grind) n0
  grind
 ·have e:=pn (a.getD i default) (nx a i) 0 n m
  have e0:pt (a.getD i default) (nx a i) 0=a.getD i default:=Pt.ext (by unfold pt;simp only;grind) (by unfold pt;simp only;grind)
  rw [e0] at e
  show pt (a.getD i default) (pt (a.getD i default) (nx a i) n) m=_
  rw [e,show (0:Rat)+m*(n-0)=m*n by grind];rfl
theorem ut {l:List Pt} (h:jo l) {q:Pt}:fI l q=0↔onE l q:=by
 rw [←r9 h]
 unfold fI
 by_cases k:onB l q=true
 ·rw [if_pos k];exact ⟨fun _=>k,fun _=>rfl⟩
 ·rw [if_neg k]
  refine ⟨fun e=> ?_,fun e=>absurd e k⟩
  split at e<;>cases e
theorem zV {L:List Pt} {Hs:List (List Pt)} (h:da L Hs) (q:Pt):gE L Hs q=0↔∃ l∈L::Hs,onE l q:=by
 obtain ⟨w1,w2⟩:=FS h q
 constructor
 ·intro e
  rcases rm (l:=L) (q:=q) with k|k|k
  ·exact ⟨L,ah ..,(ut h.out).1 k⟩
  ·obtain ⟨a,b,c⟩:=w2 k
   by_cases hx:∃ x∈Hs,fI x q=0
   ·obtain ⟨x,hx,k2⟩:=hx
    exact ⟨x,ag _ hx,(ut (h.holes x hx)).1 k2⟩
   ·exfalso
    by_cases hy:∃ x∈Hs,fI x q=1
    ·rw [b hx hy] at e;cases e
    ·rw [c fun x hm=> ?_] at e
     ·cases e
     ·rcases rm (l:=x) (q:=q) with u|u|u
      ·exact absurd ⟨x,hm,u⟩ hx
      ·exact absurd ⟨x,hm,u⟩ hy
      ·exact u
  ·rw [w1 (by omega),k] at e;cases e
 ·rintro ⟨l,hl,k⟩
  rcases ay.1 hl with rfl|hl
  ·have:=(ut h.out).2 k
   rw [w1 (by omega),this]
  ·obtain ⟨o1,o2⟩:=Qq (h.mo l hl) (v:=true) (fun p hp=>h.wo l hl p hp) k
   have hs:fI L q=1:=by
    unfold fI
    rw [if_neg (fun hh=>o1 ((r9 h.out q).1 hh)),if_pos o2]
   exact (w2 hs).1 ⟨l,hl,(ut (h.holes l hl)).2 k⟩
theorem KJ {L:List Pt} {Hs:List (List Pt)} (h:da L Hs) (q:Pt):gE L Hs q=1↔fI L q=1∧∀ x∈Hs,fI x q= -1:=by
 obtain ⟨w1,w2⟩:=FS h q
 constructor
 ·intro e
  rcases rm (l:=L) (q:=q) with k|k|k
  ·rw [w1 (by omega),k] at e;cases e
  ·refine ⟨k,fun x hm=> ?_⟩
   obtain ⟨a,b,c⟩:=w2 k
   rcases rm (l:=x) (q:=q) with u|u|u
   ·rw [a ⟨x,hm,u⟩] at e;cases e
   ·by_cases hx:∃ x∈Hs,fI x q=0
    ·rw [a hx] at e;cases e
    ·rw [b hx ⟨x,hm,u⟩] at e;cases e
   ·exact u
  ·rw [w1 (by omega),k] at e;cases e
 ·rintro ⟨k,ha⟩
  exact (w2 k).2.2 ha
theorem yy {Ls:List (List Pt)} {s:Sg}:∀ {n},n≤Ls.length→s∈eN Ls n→∃ l∈Ls,s∈aU l
 |0,_,h=>by simp [eN] at h
 |n+1,hn,h=>by
  rw [eN,aF] at h
  rcases h with h|h
  ·exact yy (by omega) h
  ·refine ⟨_,?_,h⟩
   rw [ae,af (by omega)];exact bx _
theorem oT {L:List Pt} {Hs:List (List Pt)} (h:da L Hs) {l:List Pt} (hl:l∈L::Hs):jo l:=by
 rcases ay.1 hl with rfl|hl
 ·exact h.out
 ·exact h.holes l hl
end Go.Av
namespace Go.Av
def swp (l:List Rat) (i j:Nat):List Rat:=(l.set i (l.getD j 0)).set j (l.getD i 0)
theorem rX (l:List Rat) (i j:Nat):(swp l i j).length=l.length:=by simp [swp]
theorem nf {l:List Rat} {i j k:Nat} (hi:i<l.length) (hj:j<l.length):(swp l i j).getD k 0=if k=j then l.getD i 0 else if k=i then l.getD j 0 else l.getD k 0:=by
 unfold swp
 rw [Bl (by rw [cO];exact hj),Bl hi]
theorem uX {l:List Rat} {i:Nat} {x:Rat} (h:i<l.length):(l.getD i 0::l.set i x).Perm (x::l):=by
 induction l generalizing i with
 |nil=>simp at h
 |cons a l ih=>
  cases i with
  |zero=>simp only [List.set_cons_zero,aM];exact List.Perm.swap x a l
  |succ i=>
   simp only [List.set_cons_succ,aB]
   exact ((List.Perm.swap a _ _).trans ((ih (by simpa using h)).cons a)).trans (List.Perm.swap x a l)
theorem MR {l:List Rat} {i j:Nat} (hi:i<l.length) (hj:j<l.length):(swp l i j).Perm l:=by
 have h1:=uX (l:=l) (i:=i) (x:=l.getD j 0) hi
 have h2:=uX (l:=l.set i (l.getD j 0)) (i:=j) (x:=l.getD i 0) (by rw [cO];exact hj)
 have e:(l.set i (l.getD j 0)).getD j 0=l.getD j 0:=by
  rw [Bl hi];split<;>rfl
 rw [e] at h2
 exact (List.perm_cons _).1 (h2.trans h1)
inductive Sw (a b:Nat):List Rat→List Rat→Prop
 |refl (l:List Rat):Sw a b l l
 |step {l m:List Rat} (i j:Nat):a≤i→i<b→a≤j→j<b→b≤l.length→Sw a b l m→Sw a b l (swp m i j)
theorem Sw.length {a b:Nat} {l m:List Rat} (h:Sw a b l m):m.length=l.length:=by
 induction h with
 |refl=>rfl
 |step i j _ _ _ _ _ _ ih=>rw [rX,ih]
theorem Sw.trans {a b:Nat} {l m k:List Rat} (h1:Sw a b l m) (h2:Sw a b m k):Sw a b l k:=by
 induction h2 with
 |refl=>exact h1
 |step i j p1 p2 p3 p4 p5 _ ih=>exact .step i j p1 p2 p3 p4 (by rw [h1.length] at p5;exact p5) ih
theorem Sw.mono {a b a' b':Nat} {l m:List Rat} (h:Sw a b l m) (ha:a'≤a) (hb:b≤b') (hl:b'≤l.length):Sw a' b' l m:=by
 induction h with
 |refl=>exact .refl _
 |step i j p1 p2 p3 p4 p5 _ ih=>exact .step i j (by omega) (by omega) (by omega) (by omega) hl ih
theorem Sw.out {a b:Nat} {l m:List Rat} (h:Sw a b l m) {k:Nat} (hk:k<a∨b≤k):m.getD k 0=l.getD k 0:=by
 induction h with
 |refl=>rfl
 |step i j p1 p2 p3 p4 p5 h ih=>
  have:=h.length
  rw [nf (by omega) (by omega),if_neg (by omega),if_neg (by omega),ih]
theorem Sw.perm {a b:Nat} {l m:List Rat} (h:Sw a b l m):m.Perm l:=by
 induction h with
 |refl=>exact .refl _
 |step i j p1 p2 p3 p4 p5 h ih=>
  have:=h.length
  exact (MR (by omega) (by omega)).trans ih
theorem Sw.all {a b:Nat} {l m:List Rat} (h:Sw a b l m) {P:Rat→Prop} (hP:∀ k,a≤k→k<b→P (l.getD k 0)):∀ k,a≤k→k<b→P (m.getD k 0):=by
 induction h with
 |refl=>exact hP
 |step i j p1 p2 p3 p4 p5 h ih=>
  have:=h.length
  intro k h1 h2
  rw [nf (by omega) (by omega)]
  split
  ·exact ih i p1 p2
  ·split
   ·exact ih j p3 p4
   ·exact ih k h1 h2
theorem Sw.hq {a b:Nat} {l m:List Rat} (h:Sw a b l m) {k:Nat} (hl:hq l k):hq m k:=by
 induction h with
 |refl=>exact hl
 |step i j p1 p2 p3 p4 p5 h ih=>
  have:=h.length
  intro x hx
  rw [rX] at hx
  rw [nf (by omega) (by omega)]
  split
  ·exact ih i (by omega)
  ·split
   ·exact ih j (by omega)
   ·exact ih x hx
def Srt (a b:Nat) (l:List Rat):Prop:=∀ k,a<k→k<b→l.getD (k-1) 0≤l.getD k 0
theorem Srt.le {a b:Nat} {l:List Rat} (h:Srt a b l) {i:Nat} (hi:a≤i):∀ {j},i≤j→j<b→l.getD i 0≤l.getD j 0
 |0,hij,_=>by rw [show i=0 by omega];exact Rat.le_refl
 |j+1,hij,hj=>by
  rcases am i (j+1) with h1|h1
  ·exact iy (h.le hi (j:=j) (by omega) (by omega)) (h (j+1) (by omega) hj)
  ·rw [show i=j+1 by omega];exact Rat.le_refl
structure HJ (a i j:Nat) (m:List Rat):Prop where
 lo:a≤j
 hi:j≤i
 ord:∀ k,a<k→k≤i→k≠j→m.getD (k-1) 0≤m.getD k 0
 skip:a<j→j<i→m.getD (j-1) 0≤m.getD (j+1) 0
theorem HJ.start {a i:Nat} {m:List Rat} (h:Srt a i m) (hi:a≤i):HJ a i i m:=⟨hi,ax _,fun k h1 h2 h3=>h k h1 (by omega),fun _ h=>absurd h (Nat.lt_irrefl _)⟩
theorem HJ.stop {a i j:Nat} {m:List Rat} (h:HJ a i j m) (hs:j=a∨m.getD (j-1) 0≤m.getD j 0):Srt a (i+1) m:=by
 intro k h1 h2
 by_cases hk:k=j
 ·subst hk
  rcases hs with hs|hs
  ·omega
  ·exact hs
 ·exact h.ord k h1 (by omega) hk
theorem HJ.down {a i j:Nat} {m:List Rat} (h:HJ a i j m) (hj:a<j) (hl:i<m.length) (hlt:m.getD j 0<m.getD (j-1) 0):HJ a i (j-1) (swp m j (j-1)):=by
 have g:∀ k,(swp m j (j-1)).getD k 0=if k=j-1 then m.getD j 0 else if k=j then m.getD (j-1) 0 else m.getD k 0:=fun k=>nf (by have:=h.hi;omega) (by have:=h.hi;omega)
 have hji:=h.hi
 refine ⟨by omega,by omega,fun k h1 h2 h3=> ?_,fun h1 h2=> ?_⟩
 ·rw [g,g]
  by_cases e1:k=j
  ·rw [if_pos (by omega),if_neg (by omega),if_pos e1];exact ai hlt
  ·rw [if_neg (show ¬k-1=j-1 by omega),if_neg (show ¬k=j-1 from h3),if_neg e1]
   by_cases e2:k-1=j
   ·rw [if_pos e2]
    have:=h.skip hj (by omega)
    rwa [show k=j+1 by omega]
   ·rw [if_neg e2];exact h.ord k h1 h2 e1
 ·rw [g,g,if_neg (by omega),if_neg (by omega),if_neg (by omega),if_pos (by omega)]
  exact h.ord (j-1) h1 (by omega) (by omega)
def Hep (f lo n:Nat) (l:List Rat):Prop:=∀ i c,lo≤i→(c=2*i+1∨c=2*i+2)→c<n→l.getD (f+c) 0≤l.getD (f+i) 0
structure y8 (f lo n r:Nat) (l:List Rat):Prop where
 rl:lo≤r
 ord:∀ i c,lo≤i→i≠r→(c=2*i+1∨c=2*i+2)→c<n→l.getD (f+c) 0≤l.getD (f+i) 0
 par:∀ p c,lo≤p→(r=2*p+1∨r=2*p+2)→(c=2*r+1∨c=2*r+2)→c<n→l.getD (f+c) 0≤l.getD (f+p) 0
theorem y8.start {f lo n:Nat} {l:List Rat} (h:Hep f (lo+1) n l):y8 f lo n lo l:=⟨ax _,fun i c h1 h2 h3 h4=>h i c (by omega) h3 h4,fun p c h1 h2 _ _=>by omega⟩
theorem y8.stop {f lo n r:Nat} {l:List Rat} (h:y8 f lo n r l) (hs:∀ c,(c=2*r+1∨c=2*r+2)→c<n→l.getD (f+c) 0≤l.getD (f+r) 0):Hep f lo n l:=by
 intro i c h1 h2 h3
 by_cases e:i=r
 ·subst e;exact hs c h2 h3
 ·exact h.ord i c h1 e h2 h3
theorem y8.down {f lo n r c:Nat} {l:List Rat} (h:y8 f lo n r l) (hc:c=2*r+1∨c=2*r+2) (hn:c<n) (hl:f+n≤l.length) (hlt:l.getD (f+r) 0<l.getD (f+c) 0)
 (hm:∀ d,(d=2*r+1∨d=2*r+2)→d<n→l.getD (f+d) 0≤l.getD (f+c) 0):y8 f lo n c (swp l (f+r) (f+c)):=by
 have hlo:=h.rl
 have g:∀ k,(swp l (f+r) (f+c)).getD (f+k) 0=if k=c then l.getD (f+r) 0 else if k=r then l.getD (f+c) 0 else l.getD (f+k) 0:=fun k=>by
  rw [nf (by omega) (by omega)]
  by_cases e1:k=c
  ·rw [if_pos (by omega),if_pos e1]
  ·rw [if_neg (by omega),if_neg e1]
   by_cases e2:k=r
   ·rw [if_pos (by omega),if_pos e2]
   ·rw [if_neg (by omega),if_neg e2]
 refine ⟨by omega,fun i d h1 h2 h3 h4=> ?_,fun p d h1 h2 h3 h4=> ?_⟩
 ·rw [g,g]
  by_cases ei:i=r
  ·subst ei
   rw [if_neg (show ¬i=c by omega),if_pos rfl]
   by_cases ed:d=c
   ·rw [if_pos ed];exact ai hlt
   ·rw [if_neg ed,if_neg (by omega)];exact hm d h3 h4
  ·rw [if_neg (show ¬d=c by omega),if_neg (show ¬i=c from h2),if_neg ei]
   by_cases ed:d=r
   ·rw [if_pos ed]
    subst ed
    exact h.par i c h1 h3 hc hn
   ·rw [if_neg ed];exact h.ord i d h1 ei h3 h4
 ·have ep:p=r:=by omega
  subst ep
  rw [g,g,if_neg (show ¬d=c by omega),if_neg (show ¬d=p by omega),if_neg (show ¬p=c by omega),if_pos rfl]
  exact h.ord c d (by omega) (by omega) h3 h4
theorem Hep.top {f n:Nat} {l:List Rat} (h:Hep f 0 n l):∀ c,c<n→l.getD (f+c) 0≤l.getD f 0:=by
 intro c
 induction c using Nat.strongRecOn with
 |ind c ih=>
  intro hc
  rcases Nat.eq_zero_or_pos c with h0|h0
  ·subst h0;exact Rat.le_refl
  ·exact iy (h ((c-1)/2) c (bh _) (by omega) hc) (by
    have:=ih ((c-1)/2) (by omega) (by omega)
    exact this)
theorem Hep.late {f n lo:Nat} {l:List Rat} (h:n≤2*lo+1):Hep f lo n l:=fun i c h1 h2 h3=>by omega
structure HH (f n i:Nat) (l:List Rat):Prop where
 hep:Hep f 0 i l
 srt:Srt (f+i) (f+n) l
 le:∀ k d,k<i→i≤d→d<n→l.getD (f+k) 0≤l.getD (f+d) 0
theorem HH.start {f n:Nat} {l:List Rat} (h:Hep f 0 n l):HH f n n l:=⟨h,fun k h1 h2=>by omega,fun k d h1 h2 h3=>by omega⟩
theorem HH.swap {f n k:Nat} {l:List Rat} (h:HH f n (k+1) l) (hl:f+n≤l.length) (hk:k<n):Hep f (0+1) k (swp l f (f+k)):=by
 have g:∀ i,(swp l f (f+k)).getD (f+i) 0=if i=k then l.getD f 0 else if i=0 then l.getD (f+k) 0 else l.getD (f+i) 0:=fun i=>by
  rw [nf (by omega) (by omega)]
  by_cases e1:i=k
  ·rw [if_pos (by omega),if_pos e1]
  ·rw [if_neg (by omega),if_neg e1]
   by_cases e2:i=0
   ·rw [if_pos (by omega),if_pos e2]
   ·rw [if_neg (by omega),if_neg e2]
 intro i c h1 h2 h3
 rw [g,g,if_neg (show ¬c=k by omega),if_neg (show ¬c=0 by omega),if_neg (show ¬i=k by omega),if_neg (show ¬i=0 by omega)]
 exact h.hep i c (bh _) h2 (by omega)
theorem HH.step {f n k:Nat} {l m:List Rat} (h:HH f n (k+1) l) (hl:f+n≤l.length) (hk:k<n) (hsw:Sw f (f+k) (swp l f (f+k)) m) (hh:Hep f 0 k m):HH f n k m:=by
 have g:∀ i,(swp l f (f+k)).getD (f+i) 0=if i=k then l.getD f 0 else if i=0 then l.getD (f+k) 0 else l.getD (f+i) 0:=fun i=>by
  rw [nf (by omega) (by omega)]
  by_cases e1:i=k
  ·rw [if_pos (by omega),if_pos e1]
  ·rw [if_neg (by omega),if_neg e1]
   by_cases e2:i=0
   ·rw [if_pos (by omega),if_pos e2]
   ·rw [if_neg (by omega),if_neg e2]
 have o:∀ d,k≤d→m.getD (f+d) 0=if d=k then l.getD f 0 else l.getD (f+d) 0:=fun d hd=>by
  rw [hsw.out (by omega),g]
  by_cases e:d=k
  ·rw [if_pos e,if_pos e]
  ·rw [if_neg e,if_neg e,if_neg (show ¬d=0 by omega)]
 have top:=h.hep.top
 refine ⟨hh,fun j h1 h2=> ?_,fun j d h1 h2 h3=> ?_⟩
 ·obtain ⟨d,rfl⟩:∃ d,j=f+d:=⟨j-f,by omega⟩
  rw [show f+d-1=f+(d-1) by omega,o _ (by omega),o _ (by omega),if_neg (show ¬d=k by omega)]
  by_cases e:d-1=k
  ·rw [if_pos e]
   have:=h.le 0 d (by omega) (by omega) (by omega)
   rwa [Nat.add_zero] at this
  ·rw [if_neg e]
   have:=h.srt (f+d) (by omega) h2
   rwa [show f+d-1=f+(d-1) by omega] at this
 ·refine hsw.all (P:=fun x=>x≤m.getD (f+d) 0) (fun i h4 h5=> ?_) (f+j) (by omega) (by omega)
  obtain ⟨e,rfl⟩:∃ e,i=f+e:=⟨i-f,by omega⟩
  rw [g,if_neg (show ¬e=k by omega),o _ h2]
  by_cases ed:d=k
  ·rw [if_pos ed]
   split
   ·exact top k (by omega)
   ·exact top e (by omega)
  ·rw [if_neg ed]
   split
   ·exact h.le k d (by omega) (by omega) h3
   ·exact h.le e d (by omega) (by omega) h3
end Go.Av
