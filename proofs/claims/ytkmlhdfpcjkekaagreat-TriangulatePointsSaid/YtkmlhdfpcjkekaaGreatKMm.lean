/- Helping texts: Mm, Ra, Rb, Rc, Rd, Re, Rf, Rg, Rh, Ri, Rj, Rk, Rl, Rm, Rn, Ro, Rp, Rq, Ua. -/
import Derived.Test.YtkmlhdfpcjkekaaGreatKMk
import Derived.Test.YtkmlhdfpcjkekaaGreatKFa
import Derived.Test.YtkmlhdfpcjkekaaGreatKCs
import Derived.Test.YtkmlhdfpcjkekaaGreatKCt
import Derived.Test.YtkmlhdfpcjkekaaGreatKCv
import Derived.Test.YtkmlhdfpcjkekaaGreatKDq
import Derived.Test.YtkmlhdfpcjkekaaGreatKMc
set_option linter.unusedSimpArgs false
set_option linter.unusedVariables false
set_option maxRecDepth 100000
set_option maxHeartbeats 16000000
namespace Go.Av
open Go.RowKit
open Go.Proofs.Tryz (prog)
theorem Good.apart {L:List Pt} (h:Good L):(edgesL L).Pairwise fun e f=>∀ q,onSeg e.a e.b q→onSeg f.a f.b q→q=e.a∨q=e.b:=by
 unfold edgesL
 rw [List.pairwise_map]
 refine (List.Pairwise.and_mem.1 (List.pairwise_lt_range)).imp ?_
 rintro i k ⟨hi,hk,hik⟩
 have hi:=List.mem_range.1 hi
 have hk:=List.mem_range.1 hk
 rw [segOf_sc hi,segOf_sc hk]
 try simp only
 intro q q1 q2
 have hlo:=h.lo
 by_cases h1:sc L.length i=k
 ·subst h1
  have fl:=h.fl i hi
  obtain ⟨m,_,_,rfl⟩:=q1
  obtain ⟨t,_,_,e⟩:=q2
  have e1:ar (L.getD i default) (L.getD (sc L.length i) default) (pt (L.getD i default) (L.getD (sc L.length i) default) m)=0:=by unfold ar pt;simp only;grind
  rw [e,pt_ar_l] at e1
  rcases Rat.mul_eq_zero.1 e1 with e2|e2
  ·right;rw [e,e2];refine Pt.ext ?_ ?_<;>(unfold pt;simp only;grind)
  ·exact absurd e2 fl
 ·by_cases h2:sc L.length k=i
  ·subst h2
   have fl:=h.fl k hk
   obtain ⟨m,_,_,rfl⟩:=q1
   obtain ⟨t,_,_,e⟩:=q2
   have e1:ar (L.getD k default) (L.getD (sc L.length k) default) (pt (L.getD k default) (L.getD (sc L.length k) default) t)=0:=by unfold ar pt;simp only;grind
   rw [←e,pt_ar_l] at e1
   rcases Rat.mul_eq_zero.1 e1 with e2|e2
   ·left;rw [e2];refine Pt.ext ?_ ?_<;>(unfold pt;simp only;grind)
   ·exact absurd e2 fl
  ·exact absurd ⟨q,q1,q2⟩ (h.cr i k hi hk (by omega) h1 h2)
theorem Good.seg_ne {L:List Pt} (h:Good L):∀ s∈edgesL L,s.a≠s.b:=by
 intro s hs
 obtain ⟨i,hi,rfl⟩:=mem_edgesL hs
 rw [segOf_sc hi]
 exact h.ne i hi
theorem xsum_none {f:Sg→Bool}:∀ {E:List Sg},(∀ s∈E,f s=false)→xsum f E=false
 |[],_=>rfl
 |s::E,h=>by simp only [xsum];rw [h s (List.mem_cons_self ..),xsum_none fun s hs=>h s (List.mem_cons_of_mem _ hs)];rfl
theorem edges_mem {L:List Pt} {s:Sg} (h:s∈edgesL L):s.a∈L∧s.b∈L:=by
 constructor
 ·have:s.a∈(edgesL L).map Sg.a:=List.mem_map.2 ⟨s,h,rfl⟩
  rwa [edgesL_a] at this
 ·exact (edgesL_b L).mem_iff.1 (List.mem_map.2 ⟨s,h,rfl⟩)
theorem odd_top {L:List Pt} {p:Pt} (h:∀ v∈L,v.y≤p.y):oddTo L p L.length=false:=by
 rw [odd_xsum]
 refine xsum_none fun s hs=> ?_
 obtain ⟨h1,h2⟩:=edges_mem hs
 exact cr_lo (Rat.not_lt.2 (h _ h1)) (Rat.not_lt.2 (h _ h2))
theorem top_of:∀ {L:List Pt},L≠[]→∃ p∈L,∀ v∈L,v.y≤p.y
 |[p],_=>⟨p,List.mem_cons_self ..,fun v hv=>by rw [List.mem_singleton.1 hv];exact Rat.le_refl⟩
 |p::q::L,_=>by
  obtain ⟨t,ht,h⟩:=top_of (L:=q::L) (by simp)
  rcases Rat.le_total (a:=p.y) (b:=t.y) with k|k
  ·exact ⟨t,List.mem_cons_of_mem _ ht,fun v hv=>by
    rcases List.mem_cons.1 hv with rfl|hv
    ·exact k
    ·exact h v hv⟩
  ·exact ⟨p,List.mem_cons_self ..,fun v hv=>by
    rcases List.mem_cons.1 hv with rfl|hv
    ·exact Rat.le_refl
    ·exact Rat.le_trans (h v hv) k⟩
theorem around {h L:List Pt} (nm:NoMeet h L) (h0:h≠[]) (L0:L≠[]) (hin:∀ p∈h,oddTo L p L.length=true):∀ p∈L,oddTo h p h.length=false:=by
 obtain ⟨t,ht,tt⟩:=top_of L0
 obtain ⟨u,hu,uu⟩:=top_of h0
 have hlt:u.y≤t.y:=by
  refine Rat.not_lt.1 fun k=> ?_
  have:=odd_top (L:=L) (p:=u) fun v hv=>Rat.le_trans (tt v hv) (Rat.le_of_lt k)
  rw [hin u hu] at this;cases this
 have ot:=odd_top (L:=h) (p:=t) fun v hv=>Rat.le_trans (uu v hv) hlt
 intro p hp
 obtain ⟨i,hi,rfl⟩:=mem_getD hp
 obtain ⟨j,hj,rfl⟩:=mem_getD ht
 rw [odd_const nm.symm hi,←odd_const nm.symm hj]
 exact ot
structure Nest (L:List Pt) (Hs:List (List Pt)):Prop where
 out:Good L
 pos:0<areaL L
 holes:∀ h∈Hs,Good h∧0<areaL h
 mo:∀ h∈Hs,NoMeet h L
 wo:∀ h∈Hs,∀ p∈h,oddTo L p L.length=true
 ow:∀ h∈Hs,∀ p∈L,oddTo h p h.length=false
 pw:Hs.Pairwise Sep
theorem odd_mapP {t:Aff} (ht:Par t) {l:List Pt} {p:Pt} (hp:∀ s∈edgesL l,¬onSeg s.a s.b p):oddTo (l.map t.ap) (t.ap p) (l.map t.ap).length=oddTo l p l.length:=ht.2 l p hp
theorem Nest.map {L:List Pt} {Hs:List (List Pt)} (h:Nest L Hs) {t:Aff} (ht:Par t) (hd:0<t.det):Nest (L.map t.ap) (Hs.map fun l=>l.map t.ap):=by
 have ar:∀ l,0<areaL l→0<areaL (l.map t.ap):=fun l hl=>by rw [area_ap];exact Rat.mul_pos hd hl
 refine ⟨h.out.map ht.1,ar _ h.pos,fun l hl=> ?_,fun l hl=> ?_,fun l hl p hp=> ?_,fun l hl p hp=> ?_,?_⟩
 ·obtain ⟨l,h1,rfl⟩:=List.mem_map.1 hl
  exact ⟨(h.holes l h1).1.map ht.1,ar _ (h.holes l h1).2⟩
 ·obtain ⟨l,h1,rfl⟩:=List.mem_map.1 hl
  exact (h.mo l h1).map ht.1
 ·obtain ⟨l,h1,rfl⟩:=List.mem_map.1 hl
  obtain ⟨p,h2,rfl⟩:=List.mem_map.1 hp
  rw [odd_mapP ht ((h.mo l h1).freeP h2)];exact h.wo l h1 p h2
 ·obtain ⟨l,h1,rfl⟩:=List.mem_map.1 hl
  obtain ⟨p,h2,rfl⟩:=List.mem_map.1 hp
  rw [odd_mapP ht ((h.mo l h1).symm.freeP h2)];exact h.ow l h1 p h2
 ·rw [List.pairwise_map]
  refine h.pw.imp fun {a b} s=>⟨s.nm.map ht.1,fun p hp=> ?_,fun p hp=> ?_⟩
  ·obtain ⟨p,h2,rfl⟩:=List.mem_map.1 hp
   rw [odd_mapP ht (s.nm.symm.freeP h2)];exact s.ab p h2
  ·obtain ⟨p,h2,rfl⟩:=List.mem_map.1 hp
   rw [odd_mapP ht (s.nm.freeP h2)];exact s.ba p h2
theorem odd_edge {A B:List Pt} (h:NoMeet A B) {s:Sg} (hs:s∈edgesL A) {p:Pt} (hp:onSeg s.a s.b p):oddTo B p B.length=oddTo B s.a B.length:=by
 refine (odd_same fun j hj=> ?_).symm
 rintro ⟨q,q1,q2⟩
 refine h s hs (segOf B j) (seg_mem hj) ⟨q,?_,q2⟩
 obtain ⟨m,m0,m1,rfl⟩:=hp
 obtain ⟨k,k0,k1,rfl⟩:=q1
 have h1:=Rat.mul_nonneg k0 m0
 have h2:=Rat.mul_nonneg (show 0≤1-k by grind) m0
 refine ⟨k*m,h1,by grind,?_⟩
 refine Pt.ext ?_ ?_<;>(unfold pt;simp only;grind)
end Go.Av
open Nat (reduceAdd reduceLT reduceLeDiff reducePow reduceDiv reduceMod reduceEqDiff)
namespace Go.Av
open Go.RowKit
open Go.Proofs.Tryz (prog)
end Go.Av
open Nat (reduceAdd reduceLT reduceLeDiff reducePow reduceDiv reduceMod reduceEqDiff)
namespace Go.Av
open Go.RowKit
open Go.Proofs.Tryz (prog)
end Go.Av
namespace Go.Av
open Go.RowKit
open Go.Proofs.Tryz (prog)
end Go.Av
open Nat (reduceAdd reduceLT reduceLeDiff reducePow reduceDiv reduceMod reduceEqDiff)
namespace Go.Av
open Go.RowKit
open Go.Proofs.Tryz (prog)
def low (l:List UInt8) (j:Nat):Nat:=bval (l.drop (l.length-j))
end Go.Av
open Nat (reduceAdd reduceLT reduceLeDiff reducePow reduceDiv reduceMod reduceEqDiff)
namespace Go.Av
open Go.RowKit
open Go.Proofs.Tryz (prog)
end Go.Av
namespace Go.Av
open Go.RowKit
open Go.Proofs.Tryz (prog)
end Go.Av
namespace Go.Av
open Go.RowKit
open Go.Proofs.Tryz (prog)
end Go.Av
namespace Go.Av
open Go.RowKit
open Go.Proofs.Tryz (prog)
end Go.Av
namespace Go.Av
open Go.RowKit
open Go.Proofs.Tryz (prog)
end Go.Av
namespace Go.Av
open Go.RowKit
open Go.Proofs.Tryz (prog)
end Go.Av
namespace Go.Av
open Go.RowKit
open Go.Proofs.Tryz (prog)
end Go.Av
namespace Go.Av
open Go.RowKit
open Go.Proofs.Tryz (prog)
end Go.Av
namespace Go.Av
open Go.RowKit
open Go.Proofs.Tryz (prog)
end Go.Av
namespace Go.Av
open Go.RowKit
open Go.Proofs.Tryz (prog)
end Go.Av
namespace Go.Av
open Go.RowKit
open Go.Proofs.Tryz (prog)
end Go.Av
namespace Go.Av
open Go.RowKit
open Go.Proofs.Tryz (prog)
end Go.Av
namespace Go.Av
open Go.RowKit
open Go.Proofs.Tryz (prog)
theorem on_line {a b p:Pt} (hne:a≠b) (h:ar a b p=0):∃ m,p=pt a b m:=by
 by_cases hx:b.x-a.x=0
 ·have hy:b.y-a.y≠0:=fun hy=>hne (Pt.ext (by grind) (by grind))
  refine ⟨(p.y-a.y)/(b.y-a.y),Pt.ext ?_ ?_⟩
  ·unfold pt ar at*;simp only;grind
  ·unfold pt;simp only
   rw [Rat.div_mul_cancel hy];grind
 ·refine ⟨(p.x-a.x)/(b.x-a.x),Pt.ext ?_ ?_⟩
  ·unfold pt;simp only
   rw [Rat.div_mul_cancel hx];grind
  ·unfold pt ar at*;simp only
   have:(p.x-a.x)/(b.x-a.x)*(b.y-a.y)=p.y-a.y:=by
    rw [Rat.div_def]
    have:(b.x-a.x)*(b.x-a.x)⁻¹=1:=Rat.mul_inv_cancel _ hx
    grind
   grind
theorem sq_nn (x:Rat):0≤x*x:=by
 by_cases h:0≤x
 ·exact Rat.mul_nonneg h h
 ·have:=Rat.mul_nonneg (show 0≤ -x by grind) (show 0≤ -x by grind)
  grind
theorem sq_pos {x:Rat} (h:x≠0):0<x*x:=by
 by_cases h0:0<x
 ·exact Rat.mul_pos h0 h0
 ·have:=Rat.mul_pos (show 0< -x by grind) (show 0< -x by grind)
  grind
theorem len_pos {a b:Pt} (hne:a≠b):0<(b.x-a.x)*(b.x-a.x)+(b.y-a.y)*(b.y-a.y):=by
 have h1:=sq_nn (b.x-a.x)
 have h2:=sq_nn (b.y-a.y)
 by_cases hx:b.x-a.x=0
 ·have hy:b.y-a.y≠0:=fun hy=>hne (Pt.ext (by grind) (by grind))
  have:=sq_pos hy
  grind
 ·have:=sq_pos hx
  grind
theorem off_gen {a b:List Pt} (nm:NoMeet a b) {v:Bool} (hv:∀ p∈a,oddTo b p b.length=v) {q:Pt} (hq:onE a q):¬onE b q∧oddTo b q b.length=v:=by
 obtain ⟨s,hs,k⟩:=hq
 refine ⟨fun ⟨r,hr,k2⟩=>nm s hs r hr ⟨q,k,k2⟩,?_⟩
 obtain ⟨i,hi,rfl⟩:=mem_edgesL hs
 have hm:a.getD i default∈a:=by rw [List.getD_eq_getElem?_getD,List.getElem?_eq_getElem hi];exact List.getElem_mem hi
 rw [←hv _ hm]
 refine (odd_same fun j hj=> ?_).symm
 rintro ⟨p,⟨m,m0,m1,rfl⟩,k2⟩
 obtain ⟨n,n0,n1,rfl⟩:=k
 refine nm _ (seg_mem hi) _ (seg_mem hj) ⟨_,⟨m*n,Rat.mul_nonneg m0 n0,?_,?_⟩,k2⟩
 ·have:=Rat.mul_nonneg (show 0≤1-m by grind) n0
  grind
 ·have e:=pt_pt (a.getD i default) (nx a i) 0 n m
  have e0:pt (a.getD i default) (nx a i) 0=a.getD i default:=Pt.ext (by unfold pt;simp only;grind) (by unfold pt;simp only;grind)
  rw [e0] at e
  show pt (a.getD i default) (pt (a.getD i default) (nx a i) n) m=_
  rw [e,show (0:Rat)+m*(n-0)=m*n by grind];rfl
theorem side_zero {l:List Pt} (h:Ring l) {q:Pt}:sideS l q=0↔onE l q:=by
 rw [←onB_onE h]
 unfold sideS
 by_cases k:onB l q=true
 ·rw [if_pos k];exact ⟨fun _=>k,fun _=>rfl⟩
 ·rw [if_neg k]
  refine ⟨fun e=> ?_,fun e=>absurd e k⟩
  split at e<;>cases e
theorem where_zero {L:List Pt} {Hs:List (List Pt)} (h:Valid L Hs) (q:Pt):whereS L Hs q=0↔∃ l∈L::Hs,onE l q:=by
 obtain ⟨w1,w2⟩:=where_eq h q
 constructor
 ·intro e
  rcases sideS_one (l:=L) (q:=q) with k|k|k
  ·exact ⟨L,List.mem_cons_self ..,(side_zero h.out).1 k⟩
  ·obtain ⟨a,b,c⟩:=w2 k
   by_cases hx:∃ x∈Hs,sideS x q=0
   ·obtain ⟨x,hx,k2⟩:=hx
    exact ⟨x,List.mem_cons_of_mem _ hx,(side_zero (h.holes x hx)).1 k2⟩
   ·exfalso
    by_cases hy:∃ x∈Hs,sideS x q=1
    ·rw [b hx hy] at e;cases e
    ·rw [c fun x hm=> ?_] at e
     ·cases e
     ·rcases sideS_one (l:=x) (q:=q) with u|u|u
      ·exact absurd ⟨x,hm,u⟩ hx
      ·exact absurd ⟨x,hm,u⟩ hy
      ·exact u
  ·rw [w1 (by omega),k] at e;cases e
 ·rintro ⟨l,hl,k⟩
  rcases List.mem_cons.1 hl with rfl|hl
  ·have:=(side_zero h.out).2 k
   rw [w1 (by omega),this]
  ·obtain ⟨o1,o2⟩:=off_gen (h.mo l hl) (v:=true) (fun p hp=>h.wo l hl p hp) k
   have hs:sideS L q=1:=by
    unfold sideS
    rw [if_neg (fun hh=>o1 ((onB_onE h.out q).1 hh)),if_pos o2]
   exact (w2 hs).1 ⟨l,hl,(side_zero (h.holes l hl)).2 k⟩
theorem where_one {L:List Pt} {Hs:List (List Pt)} (h:Valid L Hs) (q:Pt):whereS L Hs q=1↔sideS L q=1∧∀ x∈Hs,sideS x q= -1:=by
 obtain ⟨w1,w2⟩:=where_eq h q
 constructor
 ·intro e
  rcases sideS_one (l:=L) (q:=q) with k|k|k
  ·rw [w1 (by omega),k] at e;cases e
  ·refine ⟨k,fun x hm=> ?_⟩
   obtain ⟨a,b,c⟩:=w2 k
   rcases sideS_one (l:=x) (q:=q) with u|u|u
   ·rw [a ⟨x,hm,u⟩] at e;cases e
   ·by_cases hx:∃ x∈Hs,sideS x q=0
    ·rw [a hx] at e;cases e
    ·rw [b hx ⟨x,hm,u⟩] at e;cases e
   ·exact u
  ·rw [w1 (by omega),k] at e;cases e
 ·rintro ⟨k,ha⟩
  exact (w2 k).2.2 ha
theorem mem_edgesTo {Ls:List (List Pt)} {s:Sg}:∀ {n},n≤Ls.length→s∈edgesTo Ls n→∃ l∈Ls,s∈edgesL l
 |0,_,h=>by simp [edgesTo] at h
 |n+1,hn,h=>by
  rw [edgesTo,List.mem_append] at h
  rcases h with h|h
  ·exact mem_edgesTo (by omega) h
  ·refine ⟨_,?_,h⟩
   rw [List.getD_eq_getElem?_getD,List.getElem?_eq_getElem (by omega)];exact List.getElem_mem _
theorem vring_of {L:List Pt} {Hs:List (List Pt)} (h:Valid L Hs) {l:List Pt} (hl:l∈L::Hs):Ring l:=by
 rcases List.mem_cons.1 hl with rfl|hl
 ·exact h.out
 ·exact h.holes l hl
end Go.Av
namespace Go.Av
def swp (l:List Rat) (i j:Nat):List Rat:=(l.set i (l.getD j 0)).set j (l.getD i 0)
theorem swp_length (l:List Rat) (i j:Nat):(swp l i j).length=l.length:=by simp [swp]
theorem swp_get {l:List Rat} {i j k:Nat} (hi:i<l.length) (hj:j<l.length):(swp l i j).getD k 0=if k=j then l.getD i 0 else if k=i then l.getD j 0 else l.getD k 0:=by
 unfold swp
 rw [getD_set (by rw [List.length_set];exact hj),getD_set hi]
theorem perm_set_cons {l:List Rat} {i:Nat} {x:Rat} (h:i<l.length):(l.getD i 0::l.set i x).Perm (x::l):=by
 induction l generalizing i with
 |nil=>simp at h
 |cons a l ih=>
  cases i with
  |zero=>simp only [List.set_cons_zero,List.getD_cons_zero];exact List.Perm.swap x a l
  |succ i=>
   simp only [List.set_cons_succ,List.getD_cons_succ]
   exact ((List.Perm.swap a _ _).trans ((ih (by simpa using h)).cons a)).trans (List.Perm.swap x a l)
theorem swp_perm {l:List Rat} {i j:Nat} (hi:i<l.length) (hj:j<l.length):(swp l i j).Perm l:=by
 have h1:=perm_set_cons (l:=l) (i:=i) (x:=l.getD j 0) hi
 have h2:=perm_set_cons (l:=l.set i (l.getD j 0)) (i:=j) (x:=l.getD i 0) (by rw [List.length_set];exact hj)
 have e:(l.set i (l.getD j 0)).getD j 0=l.getD j 0:=by
  rw [getD_set hi];split<;>rfl
 rw [e] at h2
 exact (List.perm_cons _).1 (h2.trans h1)
inductive Sw (a b:Nat):List Rat→List Rat→Prop
 |refl (l:List Rat):Sw a b l l
 |step {l m:List Rat} (i j:Nat):a≤i→i<b→a≤j→j<b→b≤l.length→Sw a b l m→Sw a b l (swp m i j)
theorem Sw.length {a b:Nat} {l m:List Rat} (h:Sw a b l m):m.length=l.length:=by
 induction h with
 |refl=>rfl
 |step i j _ _ _ _ _ _ ih=>rw [swp_length,ih]
theorem Sw.trans {a b:Nat} {l m k:List Rat} (h1:Sw a b l m) (h2:Sw a b m k):Sw a b l k:=by
 induction h2 with
 |refl=>exact h1
 |step i j p1 p2 p3 p4 p5 _ ih=>exact .step i j p1 p2 p3 p4 (by rw [h1.length] at p5;exact p5) ih
theorem Sw.mono {a b a' b':Nat} {l m:List Rat} (h:Sw a b l m) (ha:a'≤a) (hb:b≤b') (hl:b'≤l.length):Sw a' b' l m:=by
 induction h with
 |refl=>exact .refl _
 |step i j p1 p2 p3 p4 p5 _ ih=>exact .step i j (by omega) (by omega) (by omega) (by omega) hl ih
theorem Sw.out {a b:Nat} {l m:List Rat} (h:Sw a b l m) {k:Nat} (hk:k<a∨b≤k):m.getD k 0=l.getD k 0:=by
 induction h with
 |refl=>rfl
 |step i j p1 p2 p3 p4 p5 h ih=>
  have:=h.length
  rw [swp_get (by omega) (by omega),if_neg (by omega),if_neg (by omega),ih]
theorem Sw.perm {a b:Nat} {l m:List Rat} (h:Sw a b l m):m.Perm l:=by
 induction h with
 |refl=>exact .refl _
 |step i j p1 p2 p3 p4 p5 h ih=>
  have:=h.length
  exact (swp_perm (by omega) (by omega)).trans ih
theorem Sw.all {a b:Nat} {l m:List Rat} (h:Sw a b l m) {P:Rat→Prop} (hP:∀ k,a≤k→k<b→P (l.getD k 0)):∀ k,a≤k→k<b→P (m.getD k 0):=by
 induction h with
 |refl=>exact hP
 |step i j p1 p2 p3 p4 p5 h ih=>
  have:=h.length
  intro k h1 h2
  rw [swp_get (by omega) (by omega)]
  split
  ·exact ih i p1 p2
  ·split
   ·exact ih j p3 p4
   ·exact ih k h1 h2
theorem Sw.hq {a b:Nat} {l m:List Rat} (h:Sw a b l m) {k:Nat} (hl:hq l k):hq m k:=by
 induction h with
 |refl=>exact hl
 |step i j p1 p2 p3 p4 p5 h ih=>
  have:=h.length
  intro x hx
  rw [swp_length] at hx
  rw [swp_get (by omega) (by omega)]
  split
  ·exact ih i (by omega)
  ·split
   ·exact ih j (by omega)
   ·exact ih x hx
def Srt (a b:Nat) (l:List Rat):Prop:=∀ k,a<k→k<b→l.getD (k-1) 0≤l.getD k 0
theorem Srt.le {a b:Nat} {l:List Rat} (h:Srt a b l) {i:Nat} (hi:a≤i):∀ {j},i≤j→j<b→l.getD i 0≤l.getD j 0
 |0,hij,_=>by rw [show i=0 by omega];exact Rat.le_refl
 |j+1,hij,hj=>by
  rcases Nat.lt_or_ge i (j+1) with h1|h1
  ·exact Rat.le_trans (h.le hi (j:=j) (by omega) (by omega)) (h (j+1) (by omega) hj)
  ·rw [show i=j+1 by omega];exact Rat.le_refl
structure InsI (a i j:Nat) (m:List Rat):Prop where
 lo:a≤j
 hi:j≤i
 ord:∀ k,a<k→k≤i→k≠j→m.getD (k-1) 0≤m.getD k 0
 skip:a<j→j<i→m.getD (j-1) 0≤m.getD (j+1) 0
theorem InsI.start {a i:Nat} {m:List Rat} (h:Srt a i m) (hi:a≤i):InsI a i i m:=⟨hi,Nat.le_refl _,fun k h1 h2 h3=>h k h1 (by omega),fun _ h=>absurd h (Nat.lt_irrefl _)⟩
theorem InsI.stop {a i j:Nat} {m:List Rat} (h:InsI a i j m) (hs:j=a∨m.getD (j-1) 0≤m.getD j 0):Srt a (i+1) m:=by
 intro k h1 h2
 by_cases hk:k=j
 ·subst hk
  rcases hs with hs|hs
  ·omega
  ·exact hs
 ·exact h.ord k h1 (by omega) hk
theorem InsI.down {a i j:Nat} {m:List Rat} (h:InsI a i j m) (hj:a<j) (hl:i<m.length) (hlt:m.getD j 0<m.getD (j-1) 0):InsI a i (j-1) (swp m j (j-1)):=by
 have g:∀ k,(swp m j (j-1)).getD k 0=if k=j-1 then m.getD j 0 else if k=j then m.getD (j-1) 0 else m.getD k 0:=fun k=>swp_get (by have:=h.hi;omega) (by have:=h.hi;omega)
 have hji:=h.hi
 refine ⟨by omega,by omega,fun k h1 h2 h3=> ?_,fun h1 h2=> ?_⟩
 ·rw [g,g]
  by_cases e1:k=j
  ·rw [if_pos (by omega),if_neg (by omega),if_pos e1];exact Rat.le_of_lt hlt
  ·rw [if_neg (show ¬k-1=j-1 by omega),if_neg (show ¬k=j-1 from h3),if_neg e1]
   by_cases e2:k-1=j
   ·rw [if_pos e2]
    have:=h.skip hj (by omega)
    rwa [show k=j+1 by omega]
   ·rw [if_neg e2];exact h.ord k h1 h2 e1
 ·rw [g,g,if_neg (by omega),if_neg (by omega),if_neg (by omega),if_pos (by omega)]
  exact h.ord (j-1) h1 (by omega) (by omega)
def Hep (f lo n:Nat) (l:List Rat):Prop:=∀ i c,lo≤i→(c=2*i+1∨c=2*i+2)→c<n→l.getD (f+c) 0≤l.getD (f+i) 0
structure SiftI (f lo n r:Nat) (l:List Rat):Prop where
 rl:lo≤r
 ord:∀ i c,lo≤i→i≠r→(c=2*i+1∨c=2*i+2)→c<n→l.getD (f+c) 0≤l.getD (f+i) 0
 par:∀ p c,lo≤p→(r=2*p+1∨r=2*p+2)→(c=2*r+1∨c=2*r+2)→c<n→l.getD (f+c) 0≤l.getD (f+p) 0
theorem SiftI.start {f lo n:Nat} {l:List Rat} (h:Hep f (lo+1) n l):SiftI f lo n lo l:=⟨Nat.le_refl _,fun i c h1 h2 h3 h4=>h i c (by omega) h3 h4,fun p c h1 h2 _ _=>by omega⟩
theorem SiftI.stop {f lo n r:Nat} {l:List Rat} (h:SiftI f lo n r l) (hs:∀ c,(c=2*r+1∨c=2*r+2)→c<n→l.getD (f+c) 0≤l.getD (f+r) 0):Hep f lo n l:=by
 intro i c h1 h2 h3
 by_cases e:i=r
 ·subst e;exact hs c h2 h3
 ·exact h.ord i c h1 e h2 h3
theorem SiftI.down {f lo n r c:Nat} {l:List Rat} (h:SiftI f lo n r l) (hc:c=2*r+1∨c=2*r+2) (hn:c<n) (hl:f+n≤l.length) (hlt:l.getD (f+r) 0<l.getD (f+c) 0)
 (hm:∀ d,(d=2*r+1∨d=2*r+2)→d<n→l.getD (f+d) 0≤l.getD (f+c) 0):SiftI f lo n c (swp l (f+r) (f+c)):=by
 have hlo:=h.rl
 have g:∀ k,(swp l (f+r) (f+c)).getD (f+k) 0=if k=c then l.getD (f+r) 0 else if k=r then l.getD (f+c) 0 else l.getD (f+k) 0:=fun k=>by
  rw [swp_get (by omega) (by omega)]
  by_cases e1:k=c
  ·rw [if_pos (by omega),if_pos e1]
  ·rw [if_neg (by omega),if_neg e1]
   by_cases e2:k=r
   ·rw [if_pos (by omega),if_pos e2]
   ·rw [if_neg (by omega),if_neg e2]
 refine ⟨by omega,fun i d h1 h2 h3 h4=> ?_,fun p d h1 h2 h3 h4=> ?_⟩
 ·rw [g,g]
  by_cases ei:i=r
  ·subst ei
   rw [if_neg (show ¬i=c by omega),if_pos rfl]
   by_cases ed:d=c
   ·rw [if_pos ed];exact Rat.le_of_lt hlt
   ·rw [if_neg ed,if_neg (by omega)];exact hm d h3 h4
  ·rw [if_neg (show ¬d=c by omega),if_neg (show ¬i=c from h2),if_neg ei]
   by_cases ed:d=r
   ·rw [if_pos ed]
    subst ed
    exact h.par i c h1 h3 hc hn
   ·rw [if_neg ed];exact h.ord i d h1 ei h3 h4
 ·have ep:p=r:=by omega
  subst ep
  rw [g,g,if_neg (show ¬d=c by omega),if_neg (show ¬d=p by omega),if_neg (show ¬p=c by omega),if_pos rfl]
  exact h.ord c d (by omega) (by omega) h3 h4
theorem Hep.top {f n:Nat} {l:List Rat} (h:Hep f 0 n l):∀ c,c<n→l.getD (f+c) 0≤l.getD f 0:=by
 intro c
 induction c using Nat.strongRecOn with
 |ind c ih=>
  intro hc
  rcases Nat.eq_zero_or_pos c with h0|h0
  ·subst h0;exact Rat.le_refl
  ·exact Rat.le_trans (h ((c-1)/2) c (Nat.zero_le _) (by omega) hc) (by
    have:=ih ((c-1)/2) (by omega) (by omega)
    exact this)
theorem Hep.late {f n lo:Nat} {l:List Rat} (h:n≤2*lo+1):Hep f lo n l:=fun i c h1 h2 h3=>by omega
structure PopI (f n i:Nat) (l:List Rat):Prop where
 hep:Hep f 0 i l
 srt:Srt (f+i) (f+n) l
 le:∀ k d,k<i→i≤d→d<n→l.getD (f+k) 0≤l.getD (f+d) 0
theorem PopI.start {f n:Nat} {l:List Rat} (h:Hep f 0 n l):PopI f n n l:=⟨h,fun k h1 h2=>by omega,fun k d h1 h2 h3=>by omega⟩
theorem PopI.swap {f n k:Nat} {l:List Rat} (h:PopI f n (k+1) l) (hl:f+n≤l.length) (hk:k<n):Hep f (0+1) k (swp l f (f+k)):=by
 have g:∀ i,(swp l f (f+k)).getD (f+i) 0=if i=k then l.getD f 0 else if i=0 then l.getD (f+k) 0 else l.getD (f+i) 0:=fun i=>by
  rw [swp_get (by omega) (by omega)]
  by_cases e1:i=k
  ·rw [if_pos (by omega),if_pos e1]
  ·rw [if_neg (by omega),if_neg e1]
   by_cases e2:i=0
   ·rw [if_pos (by omega),if_pos e2]
   ·rw [if_neg (by omega),if_neg e2]
 intro i c h1 h2 h3
 rw [g,g,if_neg (show ¬c=k by omega),if_neg (show ¬c=0 by omega),if_neg (show ¬i=k by omega),if_neg (show ¬i=0 by omega)]
 exact h.hep i c (Nat.zero_le _) h2 (by omega)
theorem PopI.step {f n k:Nat} {l m:List Rat} (h:PopI f n (k+1) l) (hl:f+n≤l.length) (hk:k<n) (hsw:Sw f (f+k) (swp l f (f+k)) m) (hh:Hep f 0 k m):PopI f n k m:=by
 have g:∀ i,(swp l f (f+k)).getD (f+i) 0=if i=k then l.getD f 0 else if i=0 then l.getD (f+k) 0 else l.getD (f+i) 0:=fun i=>by
  rw [swp_get (by omega) (by omega)]
  by_cases e1:i=k
  ·rw [if_pos (by omega),if_pos e1]
  ·rw [if_neg (by omega),if_neg e1]
   by_cases e2:i=0
   ·rw [if_pos (by omega),if_pos e2]
   ·rw [if_neg (by omega),if_neg e2]
 have o:∀ d,k≤d→m.getD (f+d) 0=if d=k then l.getD f 0 else l.getD (f+d) 0:=fun d hd=>by
  rw [hsw.out (by omega),g]
  by_cases e:d=k
  ·rw [if_pos e,if_pos e]
  ·rw [if_neg e,if_neg e,if_neg (show ¬d=0 by omega)]
 have top:=h.hep.top
 refine ⟨hh,fun j h1 h2=> ?_,fun j d h1 h2 h3=> ?_⟩
 ·obtain ⟨d,rfl⟩:∃ d,j=f+d:=⟨j-f,by omega⟩
  rw [show f+d-1=f+(d-1) by omega,o _ (by omega),o _ (by omega),if_neg (show ¬d=k by omega)]
  by_cases e:d-1=k
  ·rw [if_pos e]
   have:=h.le 0 d (by omega) (by omega) (by omega)
   rwa [Nat.add_zero] at this
  ·rw [if_neg e]
   have:=h.srt (f+d) (by omega) h2
   rwa [show f+d-1=f+(d-1) by omega] at this
 ·refine hsw.all (P:=fun x=>x≤m.getD (f+d) 0) (fun i h4 h5=> ?_) (f+j) (by omega) (by omega)
  obtain ⟨e,rfl⟩:∃ e,i=f+e:=⟨i-f,by omega⟩
  rw [g,if_neg (show ¬e=k by omega),o _ h2]
  by_cases ed:d=k
  ·rw [if_pos ed]
   split
   ·exact top k (by omega)
   ·exact top e (by omega)
  ·rw [if_neg ed]
   split
   ·exact h.le k d (by omega) (by omega) h3
   ·exact h.le e d (by omega) (by omega) h3
end Go.Av
