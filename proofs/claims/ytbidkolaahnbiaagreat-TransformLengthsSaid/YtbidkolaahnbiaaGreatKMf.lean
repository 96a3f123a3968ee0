/- Helping texts: Mf, Mg. -/
import Derived.Test.YtbidkolaahnbiaaGreatKMe
set_option linter.unusedSimpArgs false
set_option linter.unusedVariables false
set_option maxRecDepth 100000
set_option maxHeartbeats 16000000
namespace Go.Av
def xsum (f:Sg→Bool):List Sg→Bool
 |[]=>false
 |s::t=>f s^^xsum f t
theorem xsum_app (f:Sg→Bool) (a b:List Sg):xsum f (a++b)=(xsum f a^^xsum f b):=by
 induction a with
 |nil=>simp [xsum]
 |cons s t ih=>simp only [List.cons_append,xsum,ih,Bool.xor_assoc]
theorem xsum_perm {f:Sg→Bool} {a b:List Sg} (h:a.Perm b):xsum f a=xsum f b:=by
 induction h with
 |nil=>rfl
 |cons s _ ih=>simp only [xsum,ih]
 |swap s t l=>simp only [xsum];rw [←Bool.xor_assoc,←Bool.xor_assoc,Bool.xor_comm (f t)]
 |trans _ _ h1 h2=>exact h1.trans h2
theorem xsum_xor (f g:Sg→Bool) (a:List Sg):xsum (fun s=>f s^^g s) a=(xsum f a^^xsum g a):=by
 induction a with
 |nil=>rfl
 |cons s t ih=>
  simp only [xsum,ih]
  cases f s<;>cases g s<;>cases xsum f t<;>cases xsum g t<;>rfl
theorem xsum_congr {f g:Sg→Bool} {a:List Sg} (h:∀ s∈a,f s=g s):xsum f a=xsum g a:=by
 induction a with
 |nil=>rfl
 |cons s t ih=>simp only [xsum,h s (List.mem_cons_self ..),ih fun s hs=>h s (List.mem_cons_of_mem _ hs)]
theorem xsum_map (f:Sg→Bool) (g:Sg→Sg) (a:List Sg):xsum f (a.map g)=xsum (fun s=>f (g s)) a:=by
 induction a with
 |nil=>rfl
 |cons s t ih=>simp only [List.map_cons,xsum,ih]
def psum (w:Pt→Bool):List Pt→Bool
 |[]=>false
 |p::t=>w p^^psum w t
theorem psum_perm {w:Pt→Bool} {a b:List Pt} (h:a.Perm b):psum w a=psum w b:=by
 induction h with
 |nil=>rfl
 |cons s _ ih=>simp only [psum,ih]
 |swap s t l=>simp only [psum];rw [←Bool.xor_assoc,←Bool.xor_assoc,Bool.xor_comm (w t)]
 |trans _ _ h1 h2=>exact h1.trans h2
theorem psum_map (w:Pt→Bool) (g:Sg→Pt) (a:List Sg):psum w (a.map g)=xsum (fun s=>w (g s)) a:=by
 induction a with
 |nil=>rfl
 |cons s t ih=>simp only [List.map_cons,psum,xsum,ih]
theorem xsum_ends (w:Pt→Bool) (L:List Pt):xsum (fun s=>w s.a^^w s.b) (edgesL L)=false:=by
 rw [xsum_xor,←psum_map w Sg.a,←psum_map w Sg.b,edgesL_a,psum_perm (edgesL_b L),Bool.xor_self]
theorem odd_xsum (L:List Pt) (p:Pt):oddTo L p L.length=xsum (fun s=>cr p s.a s.b) (edgesL L):=by
 have:∀ i,oddTo L p i=xsum (fun s=>cr p s.a s.b) ((List.range i).map (segOf L)):=by
  intro i
  induction i with
  |zero=>rfl
  |succ i ih=>
   rw [List.range_succ,List.map_append,xsum_app,←ih]
   simp only [oddTo,List.map_cons,List.map_nil,xsum,Bool.xor_false,segOf]
   exact oddStep_eq ..
 exact this _
def rsum (g:Pt→Rat):List Pt→Rat
 |[]=>0
 |p::t=>g p+rsum g t
theorem rsum_perm {g:Pt→Rat} {a b:List Pt} (h:a.Perm b):rsum g a=rsum g b:=by
 induction h with
 |nil=>rfl
 |cons s _ ih=>simp only [rsum,ih]
 |swap s t l=>simp only [rsum];grind
 |trans _ _ h1 h2=>exact h1.trans h2
theorem mem_edgesL {L:List Pt} {s:Sg} (h:s∈edgesL L):∃ j,j<L.length∧s=segOf L j:=by
 obtain ⟨j,hj,rfl⟩:=List.mem_map.1 h
 exact ⟨j,List.mem_range.1 hj,rfl⟩
theorem cr_symm (p u v:Pt):cr p u v=cr p v u:=by
 unfold cr
 by_cases h1:u.y≤v.y
 ·by_cases h2:v.y≤u.y
  ·have e:u.y=v.y:=by grind
   have k1:¬crU p u v:=fun k=>by have:=k.1;have:=k.2.1;grind
   have k2:¬crU p v u:=fun k=>by have:=k.1;have:=k.2.1;grind
   rw [if_pos h1,if_pos h2,decide_eq_false k1,decide_eq_false k2]
  ·rw [if_pos h1,if_neg h2]
 ·rw [if_neg h1,if_pos (Rat.le_of_lt (Rat.not_le.1 h1))]
theorem edges_rot1 (l:List Pt):(edgesL (rot1 l)).Perm (edgesL l):=by
 rcases Nat.eq_zero_or_pos l.length with h0|h0
 ·have:l=[]:=List.length_eq_zero_iff.1 h0
  subst this
  exact List.Perm.refl _
 unfold edgesL
 rw [rot1_length]
 have e:∀ i,i<l.length→segOf (rot1 l) i=segOf l (sc l.length i):=by
  intro i hi
  unfold segOf
  rw [nx_sc (by rw [rot1_length];exact hi),nx_sc (sc_lt hi),rot1_length,rot1_get hi,rot1_get (sc_lt hi)]
 obtain ⟨m,hm⟩:∃ m,l.length=m+1:=⟨l.length-1,by omega⟩
 rw [hm] at e ⊢
 have e1:(List.range (m+1)).map (segOf (rot1 l))=(List.range m).map (segOf l∘Nat.succ)++[segOf l 0]:=by
  rw [List.range_succ,List.map_append]
  congr 1
  ·refine List.map_congr_left fun i hi=> ?_
   have hi:=List.mem_range.1 hi
   rw [e i (by omega)]
   unfold sc
   rw [if_neg (by omega)]
   rfl
  ·simp only [List.map_cons,List.map_nil]
   rw [e m (by omega),show sc (m+1) m=0 by unfold sc;rw [if_pos rfl]]
 rw [e1,List.range_succ_eq_map,List.map_cons,List.map_map]
 exact List.perm_append_singleton ..
theorem edges_rev (l:List Pt):(edgesL l.reverse).Perm ((edgesL l).map Sg.rev):=by
 have hn:l.reverse.length=l.length:=List.length_reverse
 rcases Nat.eq_zero_or_pos l.length with h0|h0
 ·have:l=[]:=List.length_eq_zero_iff.1 h0
  subst this
  exact List.Perm.refl _
 have e:∀ i,i<l.length→segOf l.reverse i=(segOf l (l.length-1-sc l.length i)).rev:=by
  intro i hi
  have s:sc l.length (l.length-1-sc l.length i)=l.length-1-i:=by unfold sc;split<;>split<;>omega
  unfold segOf Sg.rev
  rw [nx_sc (by rw [hn];exact hi),nx_sc (by omega),hn,rev_getD hi,rev_getD (sc_lt hi),s]
 unfold edgesL
 rw [hn]
 obtain ⟨m,hm⟩:∃ m,l.length=m+1:=⟨l.length-1,by omega⟩
 rw [hm] at e ⊢
 rw [List.range_succ,List.map_append,List.map_append,List.map_append]
 refine List.Perm.append ?_ ?_
 ·have:(List.range m).map (segOf l.reverse)=(((List.range m).map (segOf l)).map Sg.rev).reverse:=by
   rw [List.map_map,←range_rev]
   refine List.map_congr_left fun i hi=> ?_
   have hi:=List.mem_range.1 hi
   rw [e i (by omega),show m+1-1-sc (m+1) i=m-1-i by unfold sc;split<;>omega]
   rfl
  rw [this]
  exact List.reverse_perm _
 ·simp only [List.map_cons,List.map_nil]
  rw [e m (by omega),show m+1-1-sc (m+1) m=m by unfold sc;split<;>omega]
structure Aff where
 a:Rat
 b:Rat
 c:Rat
 d:Rat
 e:Rat
 f:Rat
def Aff.ap (t:Aff) (p:Pt):Pt:=⟨t.a*p.x+t.b*p.y+t.e,t.c*p.x+t.d*p.y+t.f⟩
def Aff.det (t:Aff):Rat:=t.a*t.d-t.b*t.c
theorem ar_ap (t:Aff) (u v p:Pt):ar (t.ap u) (t.ap v) (t.ap p)=t.det*ar u v p:=by unfold ar Aff.ap Aff.det;grind
theorem pt_ap (t:Aff) (u v:Pt) (m:Rat):pt (t.ap u) (t.ap v) m=t.ap (pt u v m):=by
 refine Pt.ext ?_ ?_<;>(unfold pt Aff.ap;simp only;grind)
theorem ap_inj {t:Aff} (h:t.det≠0) {p q:Pt} (e:t.ap p=t.ap q):p=q:=by
 have e1:=congrArg Pt.x e
 have e2:=congrArg Pt.y e
 simp only [Aff.ap] at e1 e2
 unfold Aff.det at h
 refine Pt.ext ?_ ?_
 ·have:(t.a*t.d-t.b*t.c)*(p.x-q.x)=0:=by grind
  grind
 ·have:(t.a*t.d-t.b*t.c)*(p.y-q.y)=0:=by grind
  grind
theorem onSeg_ap {t:Aff} (h:t.det≠0) {u v p:Pt}:onSeg (t.ap u) (t.ap v) (t.ap p)↔onSeg u v p:=by
 constructor
 ·rintro ⟨m,h0,h1,e⟩
  rw [pt_ap] at e
  exact ⟨m,h0,h1,ap_inj h e⟩
 ·rintro ⟨m,h0,h1,rfl⟩
  exact ⟨m,h0,h1,(pt_ap ..).symm⟩
theorem Common_ap {t:Aff} (h:t.det≠0) {a b u v:Pt}:Common (t.ap a) (t.ap b) (t.ap u) (t.ap v)↔Common a b u v:=by
 constructor
 ·rintro ⟨p,⟨m,h0,h1,rfl⟩,⟨k,k0,k1,e⟩⟩
  rw [pt_ap,pt_ap] at e
  exact ⟨pt a b m,⟨m,h0,h1,rfl⟩,⟨k,k0,k1,ap_inj h e⟩⟩
 ·rintro ⟨p,h1,h2⟩
  exact ⟨t.ap p,(onSeg_ap h).2 h1,(onSeg_ap h).2 h2⟩
theorem mapP_getD {l:List Pt} {g:Pt→Pt} {i:Nat} (h:i<l.length):(l.map g).getD i default=g (l.getD i default):=by
 rw [List.getD_eq_getElem?_getD,List.getElem?_map,List.getD_eq_getElem?_getD,List.getElem?_eq_getElem h];rfl
theorem Good.map {l:List Pt} (h:Good l) {t:Aff} (ht:t.det≠0):Good (l.map t.ap):=by
 have hn:(l.map t.ap).length=l.length:=List.length_map ..
 refine ⟨by rw [hn];exact h.lo,fun i hi=> ?_,fun i hi=> ?_,fun i k hi hk h0 h1 h2=> ?_⟩
 ·rw [hn] at hi ⊢
  rw [mapP_getD hi,mapP_getD (sc_lt hi)]
  exact fun e=>h.ne i hi (ap_inj ht e)
 ·rw [hn] at hi ⊢
  rw [mapP_getD hi,mapP_getD (sc_lt hi),mapP_getD (sc_lt (sc_lt hi)),ar_ap]
  have:=h.fl i hi
  intro e
  rcases Rat.mul_eq_zero.1 e with e|e
  ·exact ht e
  ·exact this e
 ·rw [hn] at hi hk h1 h2 ⊢
  rw [mapP_getD hi,mapP_getD (sc_lt hi),mapP_getD hk,mapP_getD (sc_lt hk),Common_ap ht]
  exact h.cr i k hi hk h0 h1 h2
def Sg.map (s:Sg) (g:Pt→Pt):Sg:=⟨g s.a,g s.b⟩
theorem edges_map (l:List Pt) (g:Pt→Pt):edgesL (l.map g)=(edgesL l).map fun s=>s.map g:=by
 unfold edgesL
 rw [List.length_map,List.map_map]
 refine List.map_congr_left fun i hi=> ?_
 have hi:=List.mem_range.1 hi
 unfold segOf Sg.map
 simp only [Function.comp]
 rw [nx_sc (by rw [List.length_map];exact hi),nx_sc hi,List.length_map,mapP_getD hi,mapP_getD (sc_lt hi)]
theorem area_ap (l:List Pt) (t:Aff):areaL (l.map t.ap)=t.det*areaL l:=by
 rw [area_esum,area_esum,edges_map]
 have key:∀ E:List Sg,esum (E.map fun s=>s.map t.ap)=t.det*esum E+(rsum (fun p=>t.e*(t.c*p.x+t.d*p.y)-t.f*(t.a*p.x+t.b*p.y)) (E.map Sg.b)-rsum (fun p=>t.e*(t.c*p.x+t.d*p.y)-t.f*(t.a*p.x+t.b*p.y)) (E.map Sg.a)):=by
  intro E
  induction E with
  |nil=>simp only [List.map_nil,esum,rsum];grind
  |cons s E ih=>
   simp only [List.map_cons,esum,rsum,ih]
   unfold Sg.map Aff.ap cross Aff.det
   try simp only
   grind
 rw [key,edgesL_a,rsum_perm (edgesL_b l)]
 grind
def Par (t:Aff):Prop:=t.det≠0∧∀ (L:List Pt) (p:Pt),(∀ s∈edgesL L,¬onSeg s.a s.b p)→oddTo (L.map t.ap) (t.ap p) (L.map t.ap).length=oddTo L p L.length
theorem Par.of {t:Aff} (h:t.det≠0) (hc:∀ (L:List Pt) (p:Pt),(∀ s∈edgesL L,¬onSeg s.a s.b p)→xsum (fun s=>cr (t.ap p) (t.ap s.a) (t.ap s.b)) (edgesL L)=xsum (fun s=>cr p s.a s.b) (edgesL L)):Par t:=
 ⟨h,fun L p hp=>by rw [odd_xsum,odd_xsum,edges_map,xsum_map];exact hc L p hp⟩
theorem par_upper {t:Aff} (hc:t.c=0) (ha:0<t.a) (hd:0<t.d):Par t:=by
 have hpos:0<t.det:=by
  have:=Rat.mul_pos ha hd
  unfold Aff.det;rw [hc];grind
 refine .of (fun e=>by rw [e] at hpos;exact absurd hpos Rat.lt_irrefl) fun L p _=>xsum_congr fun s _=> ?_
 have ly:∀ u v:Pt,(t.ap u).y≤(t.ap v).y↔u.y≤v.y:=by
  intro u v
  unfold Aff.ap
  simp only [hc]
  constructor
  ·intro h
   refine Rat.not_lt.1 fun k=> ?_
   have:=Rat.mul_pos hd (show 0<u.y-v.y by grind)
   grind
  ·intro h
   have:=Rat.mul_nonneg (Rat.le_of_lt hd) (show 0≤v.y-u.y by grind)
   grind
 have cu:∀ u v:Pt,decide (crU (t.ap p) (t.ap u) (t.ap v))=decide (crU p u v):=by
  intro u v
  rw [decide_eq_decide]
  unfold crU
  rw [ar_ap,mul_pos_iff' hpos,ly,←Rat.not_le,ly,Rat.not_le]
 unfold cr
 rw [cu,cu]
 by_cases h:s.a.y≤s.b.y
 ·rw [if_pos h,if_pos ((ly _ _).2 h)]
 ·rw [if_neg h,if_neg (fun k=>h ((ly _ _).1 k))]
theorem Par.comp {t s r:Aff} (ht:Par t) (hs:Par s) (hr:∀ p,r.ap p=s.ap (t.ap p)) (hd:r.det≠0):Par r:=by
 refine ⟨hd,fun L p hp=> ?_⟩
 have e:L.map r.ap=(L.map t.ap).map s.ap:=by rw [List.map_map];exact List.map_congr_left fun p _=>hr p
 rw [e,hr,hs.2 (L.map t.ap) (t.ap p) ?_,ht.2 L p hp]
 intro g hg
 rw [edges_map] at hg
 obtain ⟨g0,h0,rfl⟩:=List.mem_map.1 hg
 exact fun k=>hp g0 h0 ((onSeg_ap ht.1).1 k)
end Go.Av
namespace Go.Av
theorem cr_up {p u v:Pt} (h1:¬p.y<u.y) (h2:p.y<v.y):cr p u v=decide (0<ar u v p):=by
 have h1:=Rat.not_lt.1 h1
 unfold cr
 rw [if_pos (by grind),decide_eq_decide]
 exact ⟨fun k=>k.2.2,fun k=>⟨h1,h2,k⟩⟩
theorem cr_dn {p u v:Pt} (h1:p.y<u.y) (h2:¬p.y<v.y):cr p u v=decide (ar u v p<0):=by
 rw [cr_symm,cr_up h2 h1,decide_eq_decide,ar_rev]
 constructor<;>intro h<;>grind
theorem cr_lo {p u v:Pt} (h1:¬p.y<u.y) (h2:¬p.y<v.y):cr p u v=false:=by
 unfold cr
 split
 ·exact decide_eq_false fun k=>h2 k.2.1
 ·exact decide_eq_false fun k=>h1 k.2.1
theorem cr_hi {p u v:Pt} (h1:p.y<u.y) (h2:p.y<v.y):cr p u v=false:=by
 unfold cr
 split
 ·exact decide_eq_false fun k=>by have:=k.1;grind
 ·exact decide_eq_false fun k=>by have:=k.1;grind
def sw:Aff:=⟨0,1,1,0,0,0⟩
theorem sw_y (p:Pt):(sw.ap p).y=p.x:=by unfold Aff.ap sw;simp only;grind
theorem sw_det:sw.det= -1:=by unfold Aff.det sw;simp only;grind
theorem sw_ar (u v p:Pt):ar (sw.ap u) (sw.ap v) (sw.ap p)= -ar u v p:=by rw [ar_ap,sw_det];grind
theorem sw_up {p u v:Pt} (h1:¬p.x<u.x) (h2:p.x<v.x):cr (sw.ap p) (sw.ap u) (sw.ap v)=decide (ar u v p<0):=by
 rw [cr_up (by rw [sw_y,sw_y];exact h1) (by rw [sw_y,sw_y];exact h2),sw_ar,decide_eq_decide]
 constructor<;>intro h<;>grind
theorem sw_dn {p u v:Pt} (h1:p.x<u.x) (h2:¬p.x<v.x):cr (sw.ap p) (sw.ap u) (sw.ap v)=decide (0<ar u v p):=by
 rw [cr_dn (by rw [sw_y,sw_y];exact h1) (by rw [sw_y,sw_y];exact h2),sw_ar,decide_eq_decide]
 constructor<;>intro h<;>grind
theorem sw_lo {p u v:Pt} (h1:¬p.x<u.x) (h2:¬p.x<v.x):cr (sw.ap p) (sw.ap u) (sw.ap v)=false:=cr_lo (by rw [sw_y,sw_y];exact h1) (by rw [sw_y,sw_y];exact h2)
theorem sw_hi {p u v:Pt} (h1:p.x<u.x) (h2:p.x<v.x):cr (sw.ap p) (sw.ap u) (sw.ap v)=false:=cr_hi (by rw [sw_y,sw_y];exact h1) (by rw [sw_y,sw_y];exact h2)
def quad (p q:Pt):Bool:=decide (p.x<q.x)&&decide (p.y<q.y)
theorem ar_split (u v p:Pt):ar u v p=(v.x-p.x)*(p.y-u.y)-(v.y-p.y)*(p.x-u.x):=by unfold ar;grind
theorem nlt {p q:Rat} (h:¬p<q):0≤p-q:=by have:=Rat.not_lt.1 h;grind
theorem swap_edge {p u v:Pt} (h:¬onSeg u v p):(cr p u v^^cr (sw.ap p) (sw.ap u) (sw.ap v))=(quad p u^^quad p v):=by
 have hs:=ar_split u v p
 by_cases ux:p.x<u.x
 ·have B:0<u.x-p.x:=by grind
  by_cases uy:p.y<u.y
  ·have D:0<u.y-p.y:=by grind
   by_cases vx:p.x<v.x
   ·have A:0<v.x-p.x:=by grind
    by_cases vy:p.y<v.y
    ·rw [cr_hi uy vy,sw_hi ux vx];simp [quad,ux,uy,vx,vy]
    ·have C:=nlt vy
     have k1:=Rat.mul_pos A D
     have k2:=Rat.mul_nonneg C (Rat.le_of_lt B)
     have k:ar u v p<0:=by grind
     rw [cr_dn uy vy,sw_hi ux vx];simp [quad,ux,uy,vx,vy,k]
   ·have A:=nlt vx
    by_cases vy:p.y<v.y
    ·have C:0<v.y-p.y:=by grind
     have k1:=Rat.mul_nonneg A (Rat.le_of_lt D)
     have k2:=Rat.mul_pos C B
     have k:0<ar u v p:=by grind
     rw [cr_hi uy vy,sw_dn ux vx];simp [quad,ux,uy,vx,vy,k]
    ·have ne:ar u v p≠0:=fun e=>h (onSeg_rev (onSeg_of (by grind) (by rw [ar_rev,e];grind) (Rat.not_lt.1 vy) (Rat.le_of_lt uy)))
     rw [cr_dn uy vy,sw_dn ux vx]
     rcases lt_tri (ar u v p) 0 with k|k|k
     ·have k':¬0<ar u v p:=by grind
      simp [quad,ux,uy,vx,vy,k,k']
     ·exact absurd k ne
     ·have k':¬ar u v p<0:=by grind
      simp [quad,ux,uy,vx,vy,k,k']
  ·have D:=nlt uy
   by_cases vx:p.x<v.x
   ·have A:0<v.x-p.x:=by grind
    by_cases vy:p.y<v.y
    ·have C:0<v.y-p.y:=by grind
     have k1:=Rat.mul_nonneg (Rat.le_of_lt A) D
     have k2:=Rat.mul_pos C B
     have k:0<ar u v p:=by grind
     rw [cr_up uy vy,sw_hi ux vx];simp [quad,ux,uy,vx,vy,k]
    ·rw [cr_lo uy vy,sw_hi ux vx];simp [quad,ux,uy,vx,vy]
   ·have A:=nlt vx
    by_cases vy:p.y<v.y
    ·rw [cr_up uy vy,sw_dn ux vx];simp [quad,ux,uy,vx,vy]
    ·have C:=nlt vy
     have k1:=Rat.mul_nonneg A D
     have k2:=Rat.mul_nonneg C (Rat.le_of_lt B)
     have k:¬0<ar u v p:=by grind
     rw [cr_lo uy vy,sw_dn ux vx];simp [quad,ux,uy,vx,vy,k]
 ·have B:=nlt ux
  by_cases uy:p.y<u.y
  ·have D:0<u.y-p.y:=by grind
   by_cases vx:p.x<v.x
   ·have A:0<v.x-p.x:=by grind
    by_cases vy:p.y<v.y
    ·have C:0<v.y-p.y:=by grind
     have k1:=Rat.mul_pos A D
     have k2:=Rat.mul_nonneg (Rat.le_of_lt C) B
     have k:ar u v p<0:=by grind
     rw [cr_hi uy vy,sw_up ux vx];simp [quad,ux,uy,vx,vy,k]
    ·rw [cr_dn uy vy,sw_up ux vx];simp [quad,ux,uy,vx,vy]
   ·have A:=nlt vx
    by_cases vy:p.y<v.y
    ·rw [cr_hi uy vy,sw_lo ux vx];simp [quad,ux,uy,vx,vy]
    ·have C:=nlt vy
     have k1:=Rat.mul_nonneg A (Rat.le_of_lt D)
     have k2:=Rat.mul_nonneg C B
     have k:¬ar u v p<0:=by grind
     rw [cr_dn uy vy,sw_lo ux vx];simp [quad,ux,uy,vx,vy,k]
  ·have D:=nlt uy
   by_cases vx:p.x<v.x
   ·have A:0<v.x-p.x:=by grind
    by_cases vy:p.y<v.y
    ·have ne:ar u v p≠0:=fun e=>h (onSeg_of (by grind) e (Rat.not_lt.1 uy) (Rat.le_of_lt vy))
     rw [cr_up uy vy,sw_up ux vx]
     rcases lt_tri (ar u v p) 0 with k|k|k
     ·have k':¬0<ar u v p:=by grind
      simp [quad,ux,uy,vx,vy,k,k']
     ·exact absurd k ne
     ·have k':¬ar u v p<0:=by grind
      simp [quad,ux,uy,vx,vy,k,k']
    ·have C:=nlt vy
     have k1:=Rat.mul_nonneg (Rat.le_of_lt A) D
     have k2:=Rat.mul_nonneg C B
     have k:¬ar u v p<0:=by grind
     rw [cr_lo uy vy,sw_up ux vx];simp [quad,ux,uy,vx,vy,k]
   ·have A:=nlt vx
    by_cases vy:p.y<v.y
    ·have C:0<v.y-p.y:=by grind
     have k1:=Rat.mul_nonneg A D
     have k2:=Rat.mul_nonneg (Rat.le_of_lt C) B
     have k:¬0<ar u v p:=by grind
     rw [cr_up uy vy,sw_lo ux vx];simp [quad,ux,uy,vx,vy,k]
    ·rw [cr_lo uy vy,sw_lo ux vx];simp [quad,ux,uy,vx,vy]
theorem par_sw:Par sw:=by
 refine .of (by rw [sw_det];grind) fun L p hp=> ?_
 have e:xsum (fun s=>cr p s.a s.b^^cr (sw.ap p) (sw.ap s.a) (sw.ap s.b)) (edgesL L)=false:=by
  rw [xsum_congr (g:=fun s=>quad p s.a^^quad p s.b) fun s hs=>swap_edge (hp s hs)]
  exact xsum_ends (quad p) L
 rw [xsum_xor] at e
 revert e
 cases xsum (fun s=>cr p s.a s.b) (edgesL L)<;>cases xsum (fun s=>cr (sw.ap p) (sw.ap s.a) (sw.ap s.b)) (edgesL L)<;>simp
theorem one_pos':(0:Rat)<1:=by decide+kernel
theorem par_shx (k:Rat):Par ⟨1,k,0,1,0,0⟩:=par_upper rfl one_pos' one_pos'
theorem par_shy (k:Rat):Par ⟨1,0,k,1,0,0⟩:=by
 have h1:Par ⟨0,1,1,k,0,0⟩:=(par_shx k).comp par_sw (fun p=>by refine Pt.ext ?_ ?_<;>(unfold Aff.ap sw;simp only;grind)) (by unfold Aff.det;simp only;grind)
 exact par_sw.comp h1 (fun p=>by refine Pt.ext ?_ ?_<;>(unfold Aff.ap sw;simp only;grind)) (by unfold Aff.det;simp only;grind)
theorem par_move (e f:Rat):Par ⟨1,0,0,1,e,f⟩:=par_upper rfl one_pos' one_pos'
theorem par_rot0 {c s:Rat} (h:c*c+s*s=1) (hs:s≠0):Par ⟨c, -s,s,c,0,0⟩:=by
 obtain ⟨a,ha⟩:∃ a:Rat,a*s=c-1:=⟨(c-1)/s,by grind⟩
 have h1:Par ⟨1,a,s,c,0,0⟩:=(par_shx a).comp (par_shy s) (fun p=>by refine Pt.ext ?_ ?_<;>(unfold Aff.ap;simp only;grind)) (by unfold Aff.det;simp only;grind)
 refine h1.comp (par_shx a) (fun p=> ?_) (by unfold Aff.det;simp only;grind)
 have e:s*(a*(1+c)+s)=0:=by grind
 have e2:a*(1+c)= -s:=by grind
 refine Pt.ext ?_ ?_<;>(unfold Aff.ap;simp only;grind)
theorem par_half:Par ⟨-1,0,0, -1,0,0⟩:=by
 have h1:Par ⟨0, -1,1,0,0,0⟩:=par_rot0 (by decide+kernel) (by decide+kernel)
 exact h1.comp h1 (fun p=>by refine Pt.ext ?_ ?_<;>(unfold Aff.ap;simp only;grind)) (by unfold Aff.det;simp only;decide+kernel)
theorem par_rot {c s:Rat} (h:c*c+s*s=1):Par ⟨c, -s,s,c,0,0⟩:=by
 by_cases hs:s=0
 ·subst hs
  have e:(c-1)*(c+1)=0:=by grind
  rcases Rat.mul_eq_zero.1 e with e|e
  ·have:c=1:=by grind
   subst this
   exact (par_move 0 0).comp (par_move 0 0) (fun p=>by refine Pt.ext ?_ ?_<;>(unfold Aff.ap;simp only;grind)) (by unfold Aff.det;simp only;decide+kernel)
  ·have:c= -1:=by grind
   subst this
   exact par_half.comp (par_move 0 0) (fun p=>by refine Pt.ext ?_ ?_<;>(unfold Aff.ap;simp only;grind)) (by unfold Aff.det;simp only;decide+kernel)
 ·exact par_rot0 h hs
theorem par_place {c s:Rat} (h:c*c+s*s=1) (e f:Rat):Par ⟨c, -s,s,c,e,f⟩:=
 (par_rot h).comp (par_move e f) (fun p=>by refine Pt.ext ?_ ?_<;>(unfold Aff.ap;simp only;grind)) (by unfold Aff.det;simp only;grind)
theorem par_mirror:Par ⟨-1,0,0,1,0,0⟩:=by
 have h1:Par ⟨0,1, -1,0,0,0⟩:=(par_rot0 (c:=0) (s:= -1) (by decide+kernel) (by decide+kernel)).comp (par_move 0 0) (fun p=>by refine Pt.ext ?_ ?_<;>(unfold Aff.ap;simp only;grind)) (by unfold Aff.det;simp only;decide+kernel)
 exact h1.comp par_sw (fun p=>by refine Pt.ext ?_ ?_<;>(unfold Aff.ap sw;simp only;grind)) (by unfold Aff.det;simp only;decide+kernel)
theorem par_scale {k:Rat} (h:k≠0):Par ⟨k,0,0,k,0,0⟩:=by
 have hd:Aff.det ⟨k,0,0,k,0,0⟩≠0:=by
  unfold Aff.det;simp only
  intro e
  have:k*k=0:=by grind
  rcases Rat.mul_eq_zero.1 this with e|e<;>exact h e
 rcases lt_tri 0 k with h1|h1|h1
 ·exact par_upper rfl h1 h1
 ·exact absurd h1.symm h
 ·have h2:Par ⟨-k,0,0, -k,0,0⟩:=par_upper rfl (by simp only;grind) (by simp only;grind)
  exact h2.comp par_half (fun p=>by refine Pt.ext ?_ ?_<;>(unfold Aff.ap;simp only;grind)) hd
end Go.Av
