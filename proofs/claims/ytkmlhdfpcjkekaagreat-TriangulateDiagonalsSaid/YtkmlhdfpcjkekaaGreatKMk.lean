/- Helping texts: Mk, Ml. -/
import Derived.Test.YtkmlhdfpcjkekaaGreatKMe
set_option linter.unusedSimpArgs false
set_option linter.unusedVariables false
set_option maxRecDepth 100000
set_option maxHeartbeats 16000000
namespace Go.Av
def mN (a b w:Pt):Bool:=if a.y≤b.y then decide (chi a b w) else decide (chi b a w)
theorem tZ {a b u v:Pt} (hc:¬ez a b u v):(cr a u v^^cr b u v)=(mN a b u^^mN a b v):=by
 unfold mN
 by_cases h:a.y≤b.y
 ·rw [if_pos h,if_pos h];exact wP h hc
 ·rw [if_neg h,if_neg h,Bool.xor_comm];exact wP (ai (Rat.not_le.1 h)) (fun k=>hc k.rev1)
theorem o9 {u v p:Pt} (h:ar u v p=0):cr p u v=false:=by
 have h':ar v u p=0:=by rw [mZ,h];grind
 unfold cr
 split
 ·exact ak fun k=>by have:=k.2.2;rw [h] at this;exact aL this
 ·exact ak fun k=>by have:=k.2.2;rw [h'] at this;exact aL this
theorem xV {a b w:Pt} (h:ar a b w=0):mN a b w=false:=by
 have h':ar b a w=0:=by rw [mZ,h];grind
 unfold mN
 split
 ·exact ak fun k=>by have:=k.2.2;rw [h] at this;exact aL this
 ·exact ak fun k=>by have:=k.2.2;rw [h'] at this;exact aL this
theorem zL {f:Sg→Bool} {g:Nat→Sg}:∀ {n k:Nat},k<n→(∀ j,j<n→j≠k→f (g j)=false)→bV f ((List.range n).map g)=f (g k)
 |0,k,h,_=>by omega
 |n+1,k,h,hj=>by
  rw [List.range_succ,bz,kn]
  simp only [aY,List.map_nil,bV,Bool.xor_false]
  rcases am k n with hk|hk
  ·rw [zL hk (fun j h1 h2=>hj j (by omega) h2),hj n (by omega) (by omega),Bool.xor_false]
  ·have e:k=n:=by omega
   subst e
   have:∀ m,m≤k→bV f ((List.range m).map g)=false:=by
    intro m
    induction m with
    |zero=>intro _;rfl
    |succ m ih=>
     intro hm
     rw [List.range_succ,bz,kn,ih (by omega)]
     simp only [aY,List.map_nil,bV,Bool.xor_false,Bool.false_xor]
     exact hj m (by omega) (by omega)
   rw [this k (ax _),Bool.false_xor]
theorem JU {L:List Pt} {p v:Pt} {k:Nat} (hk:k<L.length)
 (hj:∀ j,j<L.length→j≠k→¬ez p v (b9 L j).a (b9 L j).b∨(ar (b9 L j).a (b9 L j).b p=0∧ar (b9 L j).a (b9 L j).b v=0∧ar p v (b9 L j).a=0∧ar p v (b9 L j).b=0)):
 (bW L p L.length^^bW L v L.length)=((cr p (b9 L k).a (b9 L k).b^^cr v (b9 L k).a (b9 L k).b)^^(mN p v (b9 L k).a^^mN p v (b9 L k).b)):=by
 rw [iw,iw,←m6]
 have e:bV (fun s=>(cr p s.a s.b^^cr v s.a s.b)^^(mN p v s.a^^mN p v s.b)) (aU L)=((cr p (b9 L k).a (b9 L k).b^^cr v (b9 L k).a (b9 L k).b)^^(mN p v (b9 L k).a^^mN p v (b9 L k).b)):=by
  refine zL hk fun j h1 h2=> ?_
  rcases hj j h1 h2 with h|⟨a1,a2,a3,a4⟩
  ·rw [tZ h,Bool.xor_self]
  ·rw [o9 a1,o9 a2,xV a3,xV a4];rfl
 rw [←e,m6 (fun s=>cr p s.a s.b^^cr v s.a s.b),wX (mN p v) L,Bool.xor_false]
theorem wd (u v w:Pt) (m:Rat):ar u v (pt v w m)=m*ar u v w:=by unfold ar pt;grind
theorem pt_in {u v q:Pt} {m:Rat} (m0:0<m) (m1:m<1) (h:aJ (pt u v m) v q):∃ k,m≤k∧k≤1∧q=pt u v k:=by
 obtain ⟨k,k0,k1,rfl⟩:=h
 have h1:=aj k0 (show 0≤1-m by grind)
 have h2:=aj (show 0≤1-k by grind) (show 0≤1-m by grind)
 refine ⟨m+k*(1-m),by grind,by grind,?_⟩
 refine Pt.ext ?_ ?_<;>(unfold pt;simp only;grind)
theorem Sp {u v q:Pt} {m:Rat} (m0:0<m) (m1:m<1) (h:aJ (pt u v m) u q):∃ k,0≤k∧k≤m∧q=pt u v k:=by
 obtain ⟨k,k0,k1,rfl⟩:=h
 have h1:=aj k0 (ai m0)
 have h2:=aj (show 0≤1-k by grind) (ai m0)
 refine ⟨m-k*m,by grind,by grind,?_⟩
 refine Pt.ext ?_ ?_<;>(unfold pt;simp only;grind)
theorem Sn {n i k:Nat} (hi:i<n) (hk:k<n) (h:sc n i=sc n k):i=k:=by unfold sc at h;split at h<;>split at h<;>omega
theorem kU {L:List Pt} {j:Nat} (h:j<L.length):b9 L j=⟨L.getD j default,L.getD (sc L.length j) default⟩:=by unfold b9;rw [oC h]
theorem PW {L:List Pt} (h:mj L) {i:Nat} (hi:i<L.length) {m:Rat} (m0:0<m) (m1:m<1):
 (bW L (pt (L.getD i default) (L.getD (sc L.length i) default) m) L.length^^bW L (L.getD (sc L.length i) default) L.length)=
  (cr (pt (L.getD i default) (L.getD (sc L.length i) default) m) (L.getD (sc L.length i) default) (L.getD (sc L.length (sc L.length i)) default)^^mN (pt (L.getD i default) (L.getD (sc L.length i) default) m) (L.getD (sc L.length i) default) (L.getD (sc L.length (sc L.length i)) default)):=by
 have hs:=jF hi
 have hlo:=h.lo
 have hne:sc L.length i≠i:=by unfold sc;split<;>omega
 have:=JU (L:=L) (p:=pt (L.getD i default) (L.getD (sc L.length i) default) m) (v:=L.getD (sc L.length i) default) hs (fun j hj hjk=>by
  rw [kU hj]
  try simp only
  by_cases h1:j=i
  ·subst h1
   refine .inr ⟨?_,pj ..,?_,?_⟩<;>(unfold ar pt;simp only;grind)
  ·refine .inl ?_
   rintro ⟨q,q1,q2⟩
   obtain ⟨k,k1,k2,rfl⟩:=pt_in m0 m1 q1
   by_cases h2:sc L.length j=i
   ·have fl:=h.fl j hj
    rw [h2] at q2 fl
    obtain ⟨t,_,_,e⟩:=q2
    have e2:ar (L.getD j default) (L.getD i default) (pt (L.getD i default) (L.getD (sc L.length i) default) k)=0:=by
     rw [e];unfold ar pt;simp only;grind
    rw [wd] at e2
    rcases br.1 e2 with e3|e3
    ·grind
    ·exact fl e3
   ·exact h.cr i j hi hj (fun e=>h1 e.symm) (fun e=>hjk e.symm) h2 ⟨_,⟨k,by grind,k2,rfl⟩,q2⟩)
 rw [this,kU hs]
 try simp only
 rw [o9 (pk ..),xV (a:=pt (L.getD i default) (L.getD (sc L.length i) default) m) (pj ..),Bool.xor_false,Bool.false_xor]
theorem KK {L:List Pt} (h:mj L) {i:Nat} (hi:i<L.length) {m:Rat} (m0:0<m) (m1:m<1):
 (bW L (pt (L.getD (sc L.length i) default) (L.getD (sc L.length (sc L.length i)) default) m) L.length^^bW L (L.getD (sc L.length i) default) L.length)=
  (cr (pt (L.getD (sc L.length i) default) (L.getD (sc L.length (sc L.length i)) default) m) (L.getD i default) (L.getD (sc L.length i) default)^^mN (pt (L.getD (sc L.length i) default) (L.getD (sc L.length (sc L.length i)) default) m) (L.getD (sc L.length i) default) (L.getD i default)):=by
 have hs:=jF hi
 have hs2:=jF hs
 have hlo:=h.lo
 have hne:sc L.length i≠i:=by unfold sc;split<;>omega
 have hne2:sc L.length (sc L.length i)≠sc L.length i:=by unfold sc;split<;>split<;>omega
 have hne3:sc L.length (sc L.length i)≠i:=by unfold sc;split<;>split<;>omega
 have:=JU (L:=L) (p:=pt (L.getD (sc L.length i) default) (L.getD (sc L.length (sc L.length i)) default) m) (v:=L.getD (sc L.length i) default) hi (fun j hj hjk=>by
  rw [kU hj]
  try simp only
  by_cases h1:j=sc L.length i
  ·subst h1
   refine .inr ⟨?_,pk ..,?_,?_⟩<;>(unfold ar pt;simp only;grind)
  ·refine .inl ?_
   rintro ⟨q,q1,q2⟩
   obtain ⟨k,k1,k2,rfl⟩:=Sp m0 m1 q1
   by_cases h2:j=sc L.length (sc L.length i)
   ·have fl:=h.fl _ hs
    subst h2
    obtain ⟨t,_,_,e⟩:=q2
    have e2:ar (L.getD (sc L.length (sc L.length i)) default) (L.getD (sc L.length (sc L.length (sc L.length i))) default) (pt (L.getD (sc L.length i) default) (L.getD (sc L.length (sc L.length i)) default) k)=0:=by
     rw [e];unfold ar pt;simp only;grind
    have e3:ar (L.getD (sc L.length (sc L.length i)) default) (L.getD (sc L.length (sc L.length (sc L.length i))) default) (pt (L.getD (sc L.length i) default) (L.getD (sc L.length (sc L.length i)) default) k)=
     (1-k)*ar (L.getD (sc L.length i) default) (L.getD (sc L.length (sc L.length i)) default) (L.getD (sc L.length (sc L.length (sc L.length i))) default):=by unfold ar pt;simp only;grind
    rw [e3] at e2
    rcases br.1 e2 with e4|e4
    ·grind
    ·exact fl e4
   ·exact h.cr _ j hs hj (fun e=>h1 e.symm) (fun e=>h2 e.symm) (fun e=>hjk (Sn hj hi e)) ⟨_,⟨k,k1,by grind,rfl⟩,q2⟩)
 rw [this,kU hi]
 try simp only
 rw [o9 (pj ..),xV (a:=pt (L.getD (sc L.length i) default) (L.getD (sc L.length (sc L.length i)) default) m) (pj ..),Bool.xor_false,Bool.xor_false]
theorem wm {d w:Rat} (h:0<d):d*w<0↔w<0:=by
 have:=ju (d:=d) (w:= -w) h
 constructor
 ·intro k
  have:=this.1 (by grind)
  grind
 ·intro k
  have:=this.2 (by grind)
  grind
theorem Rz {u v w:Pt} {m:Rat} (m0:0<m) (m1:m<1) (h1:u.y≠v.y) (h2:v.y≠w.y):
 (cr (pt u v m) v w^^mN (pt u v m) v w)=if u.y<v.y then (if v.y<w.y then false else decide (ar u v w<0)) else (if v.y<w.y then decide (0<ar u v w) else false):=by
 have py:(pt u v m).y=v.y+(1-m)*(u.y-v.y):=by unfold pt;simp only;grind
 have k1:ar v w (pt u v m)=(1-m)*ar u v w:=by unfold ar pt;simp only;grind
 have k1':ar w v (pt u v m)= -((1-m)*ar u v w):=by rw [mZ,k1]
 have k2:ar (pt u v m) v w=(1-m)*ar u v w:=by unfold ar pt;simp only;grind
 have k2':ar v (pt u v m) w= -((1-m)*ar u v w):=by rw [mZ,k2]
 have hm:0<1-m:=by grind
 have s1:=ju (w:=ar u v w) hm
 have s2:=wm (w:=ar u v w) hm
 generalize hp:pt u v m=p at*
 generalize ar u v w=A at*
 generalize (1-m)*A=B at*
 by_cases hu:u.y<v.y
 ·have hpv:p.y<v.y:=by
   have:=au hm (show 0<v.y-u.y by grind);grind
  rw [if_pos hu]
  by_cases hv:v.y<w.y
  ·rw [if_pos hv]
   have c1:cr p v w=false:=by
    unfold cr;rw [if_pos (ai hv)];exact ak fun k=>by have:=k.1;grind
   have c2:mN p v w=false:=by
    unfold mN;rw [if_pos (ai hpv)];exact ak fun k=>by have:=k.2.1;grind
   rw [c1,c2];rfl
  ·rw [if_neg hv]
   have hw:w.y<v.y:=by grind
   by_cases hx:w.y≤p.y
   ·have c1:cr p v w=decide (A<0):=by
     unfold cr;rw [if_neg (by grind),decide_eq_decide]
     unfold crU;rw [k1']
     constructor
     ·intro k;exact s2.1 (by have:=k.2.2;grind)
     ·intro k;have:=s2.2 k;exact ⟨hx,hpv,by grind⟩
    have c2:mN p v w=false:=by
     unfold mN;rw [if_pos (ai hpv)];exact ak fun k=>by have:=k.1;grind
    rw [c1,c2,Bool.xor_false]
   ·have c1:cr p v w=false:=by
     unfold cr;rw [if_neg (by grind)];exact ak fun k=>by have:=k.1;grind
    have c2:mN p v w=decide (A<0):=by
     unfold mN;rw [if_pos (ai hpv),decide_eq_decide]
     unfold chi;rw [k2]
     constructor
     ·intro k;exact s2.1 k.2.2
     ·intro k;exact ⟨by grind,by grind,s2.2 k⟩
    rw [c1,c2,Bool.false_xor]
 ·have hpv:v.y<p.y:=by
   have:=au hm (show 0<u.y-v.y by grind);grind
  rw [if_neg hu]
  by_cases hv:v.y<w.y
  ·rw [if_pos hv]
   by_cases hx:p.y<w.y
   ·have c1:cr p v w=decide (0<A):=by
     unfold cr;rw [if_pos (ai hv),decide_eq_decide]
     unfold crU;rw [k1]
     exact ⟨fun k=>s1.1 k.2.2,fun k=>⟨ai hpv,hx,s1.2 k⟩⟩
    have c2:mN p v w=false:=by
     unfold mN;rw [if_neg (by grind)];exact ak fun k=>by have:=k.2.1;grind
    rw [c1,c2,Bool.xor_false]
   ·have c1:cr p v w=false:=by
     unfold cr;rw [if_pos (ai hv)];exact ak fun k=>by have:=k.2.1;grind
    have c2:mN p v w=decide (0<A):=by
     unfold mN;rw [if_neg (by grind),decide_eq_decide]
     unfold chi;rw [k2']
     exact ⟨fun k=>s1.1 (by have:=k.2.2;grind),fun k=>⟨hv,by grind,by have:=s1.2 k;grind⟩⟩
    rw [c1,c2,Bool.false_xor]
  ·rw [if_neg hv]
   have c1:cr p v w=false:=by
    unfold cr;rw [if_neg (by grind)];exact ak fun k=>by have:=k.2.1;grind
   have c2:mN p v w=false:=by
    unfold mN;rw [if_neg (by grind)];exact ak fun k=>by have:=k.1;grind
   rw [c1,c2];rfl
theorem turn2 {u v w:Pt} {m:Rat} (m0:0<m) (m1:m<1) (h1:u.y≠v.y) (h2:v.y≠w.y):
 (cr (pt v w m) u v^^mN (pt v w m) v u)=if u.y<v.y then (if v.y<w.y then false else decide (0<ar u v w)) else (if v.y<w.y then decide (ar u v w<0) else false):=by
 have e:=Rz (u:=w) (v:=v) (w:=u) (m:=1-m) (by grind) (by grind) (fun e=>h2 e.symm) (fun e=>h1 e.symm)
 have ep:pt w v (1-m)=pt v w m:=by refine Pt.ext ?_ ?_<;>(unfold pt;simp only;grind)
 have ea:ar w v u= -ar u v w:=by unfold ar;grind
 rw [ep,mL,ea] at e
 rw [e]
 have d1:decide (-ar u v w<0)=decide (0<ar u v w):=by rw [decide_eq_decide];constructor<;>intro k<;>grind
 have d2:decide (0< -ar u v w)=decide (ar u v w<0):=by rw [decide_eq_decide];constructor<;>intro k<;>grind
 rw [d1,d2]
 by_cases a:u.y<v.y
 ·have a':¬v.y<u.y:=by grind
  by_cases b:v.y<w.y
  ·have b':¬w.y<v.y:=by grind
   rw [if_neg b',if_neg a',if_pos a,if_pos b]
  ·have b':w.y<v.y:=by grind
   rw [if_pos b',if_neg a',if_pos a,if_neg b]
 ·have a':v.y<u.y:=by grind
  by_cases b:v.y<w.y
  ·have b':¬w.y<v.y:=by grind
   rw [if_neg b',if_pos a',if_neg a,if_pos b]
  ·have b':w.y<v.y:=by grind
   rw [if_pos b',if_pos a',if_neg a,if_neg b]
def ud (E:List Sg):Prop:=∀ s∈E,s.a.y≠s.b.y
theorem xd {L:List Pt} (h:mj L) (hz:ud (aU L)) {i:Nat} (hi:i<L.length) {m k:Rat} (m0:0<m) (m1:m<1) (k0:0<k) (k1:k<1):
 (bW L (pt (L.getD i default) (L.getD (sc L.length i) default) m) L.length^^decide ((L.getD i default).y<(L.getD (sc L.length i) default).y))=
 (bW L (pt (L.getD (sc L.length i) default) (L.getD (sc L.length (sc L.length i)) default) k) L.length^^decide ((L.getD (sc L.length i) default).y<(L.getD (sc L.length (sc L.length i)) default).y)):=by
 have hs:=jF hi
 have w1:=PW h hi m0 m1
 have w2:=KK h hi k0 k1
 have fl:=h.fl i hi
 have z1:=hz _ (av.2 ⟨i,dz.2 hi,kU hi⟩)
 have z2:=hz _ (av.2 ⟨_,dz.2 hs,kU hs⟩)
 simp only at z1 z2
 rw [Rz m0 m1 z1 z2] at w1
 rw [turn2 k0 k1 z1 z2] at w2
 generalize L.getD i default=u at*
 generalize L.getD (sc L.length i) default=v at*
 generalize L.getD (sc L.length (sc L.length i)) default=w at*
 generalize bW L (pt u v m) L.length=x at*
 generalize bW L (pt v w k) L.length=y at*
 generalize bW L v L.length=z at*
 have ar2:decide (ar u v w<0)= !decide (0<ar u v w):=by
  rcases eH (ar u v w) 0 with q|q|q
  ·rw [an q,ak (by grind)];rfl
  ·exact absurd q fl
  ·rw [ak (by grind),an q];rfl
 rw [ar2] at w1 w2
 generalize decide (0<ar u v w)=d at*
 by_cases a:u.y<v.y<;>by_cases b:v.y<w.y<;>simp only [a,b,if_true,if_false,decide_true,decide_false] at w1 w2 ⊢<;>revert w1 w2<;>cases x<;>cases y<;>cases z<;>cases d<;>simp
theorem NA {L:List Pt} (h:mj L) (hz:ud (aU L)):∃ c:Bool,∀ s∈aU L,∀ m:Rat,0<m→m<1→bW L (pt s.a s.b m) L.length=(c^^decide (s.a.y<s.b.y)):=by
 have hlo:=h.lo
 have h0:(0:Rat)<1/2:=by decide+kernel
 have h1:(1/2:Rat)<1:=by decide+kernel
 have key:∀ i,i<L.length→∀ m:Rat,0<m→m<1→(bW L (pt (L.getD i default) (L.getD (sc L.length i) default) m) L.length^^decide ((L.getD i default).y<(L.getD (sc L.length i) default).y))=
  (bW L (pt (L.getD 0 default) (L.getD (sc L.length 0) default) (1/2)) L.length^^decide ((L.getD 0 default).y<(L.getD (sc L.length 0) default).y)):=by
  intro i
  induction i with
  |zero=>intro hi m m0 m1;rw [xd h hz hi m0 m1 h0 h1,xd h hz hi h0 h1 h0 h1]
  |succ i ih=>
   intro hi m m0 m1
   have e:sc L.length i=i+1:=by unfold sc;rw [if_neg (by omega)]
   have:=xd h hz (show i<L.length by omega) h0 h1 m0 m1
   rw [e] at this
   rw [←this,←e]
   exact ih (by omega) _ h0 h1
 refine ⟨(bW L (pt (L.getD 0 default) (L.getD (sc L.length 0) default) (1/2)) L.length^^decide ((L.getD 0 default).y<(L.getD (sc L.length 0) default).y)),fun s hs m m0 m1=> ?_⟩
 obtain ⟨i,hi,rfl⟩:=nq hs
 rw [kU hi]
 try simp only
 rw [←key i hi m m0 m1,Bool.xor_assoc,Bool.xor_self,Bool.xor_false]
end Go.Av
namespace Go.Av
def li (g:Sg→Rat):List Sg→Rat
 |[]=>0
 |s::t=>g s+li g t
theorem LT {g:Sg→Rat} {a b:List Sg} (h:a.Perm b):li g a=li g b:=by
 induction h with
 |nil=>rfl
 |cons s _ ih=>simp only [li,ih]
 |swap s t l=>simp only [li];grind
 |trans _ _ h1 h2=>exact h1.trans h2
theorem A8 {f g:Sg→Rat} {a:List Sg} (h:∀ s∈a,f s=g s):li f a=li g a:=by
 induction a with
 |nil=>rfl
 |cons s t ih=>simp only [li,h s (ah ..),ih fun s hs=>h s (ag _ hs)]
theorem OW (f g:Sg→Rat) (a:List Sg):li f a-li g a=li (fun s=>f s-g s) a:=by
 induction a with
 |nil=>simp only [li];grind
 |cons s t ih=>simp only [li,←ih];grind
theorem GX (k:Rat) (p:Sg→Bool) (g:Sg→Rat) (a:List Sg):li (fun s=>if p s=true then k*g s else 0) a=k*li g (a.filter p):=by
 induction a with
 |nil=>simp only [List.filter_nil,li];grind
 |cons s t ih=>
  rw [List.filter_cons]
  simp only [li,ih]
  split
  ·simp only [li];grind
  ·grind
theorem yf (p f:Sg→Bool) (a:List Sg):bV (fun s=>p s&&f s) a=bV f (a.filter p):=by
 induction a with
 |nil=>rfl
 |cons s t ih=>
  rw [List.filter_cons]
  simp only [bV,ih]
  cases p s<;>simp [bV]
theorem FH (a:List Sg):bV (fun _=>true) a=decide (a.length%2=1):=by
 induction a with
 |nil=>rfl
 |cons s t ih=>
  simp only [bV,ih,aC]
  rcases Nat.mod_two_eq_zero_or_one t.length with h|h
  ·rw [ak (by omega),an (by omega)];rfl
  ·rw [an h,ak (by omega)];rfl
theorem Eh {x:Sg→Rat} {u:Sg→Bool}:∀ (n:Nat) (l:List Sg),l.length=n→n%2=0→l.Pairwise (fun e f=>x f<x e)→(∀ e∈l,u e=(true^^bV (fun f=>decide (x e<x f)) l))→
 0≤li (fun e=>if u e=true then x e else-x e) l∧(l≠[]→0<li (fun e=>if u e=true then x e else-x e) l)
 |_,[],_,_,_,_=>⟨Rat.le_refl,fun h=>absurd rfl h⟩
 |_,[e],hn,h2,_,_=>by simp at hn;omega
 |n,e::f::t,hn,h2,hp,hu=>by
  have hp1:=qo.1 hp
  have hp2:=qo.1 hp1.2
  have he:x f<x e:=hp1.1 f (ah ..)
  have none:∀ (y:Rat) (m:List Sg),(∀ g∈m,x g≤y)→bV (fun g=>decide (y<x g)) m=false:=by
   intro y m
   induction m with
   |nil=>intro _;rfl
   |cons g m ih=>
    intro h
    simp only [bV]
    rw [ak (Rat.not_lt.2 (h g (ah ..))),ih fun g hg=>h g (ag _ hg)];rfl
  have ue:u e=true:=by
   rw [hu e (ah ..),none (x e) _ ?_];rfl
   intro g hg
   rcases ay.1 hg with rfl|hg
   ·exact Rat.le_refl
   ·exact ai (hp1.1 g hg)
  have uf:u f=false:=by
   rw [hu f (ag _ (ah ..))]
   simp only [bV]
   rw [an he,ak aL,none (x f) t fun g hg=>ai (hp2.1 g hg)];rfl
  have ih:=Eh (x:=x) (u:=u) (n-2) t (by simp at hn;omega) (by simp at hn;omega) hp2.2 (fun g hg=>by
   have:=hu g (ag _ (ag _ hg))
   rw [this]
   simp only [bV]
   rw [an (hp1.1 g (ag _ hg)),an (hp2.1 g hg)]
   cases bV (fun f=>decide (x g<x f)) t<;>rfl)
  simp only [li,ue,uf,if_true,Bool.false_eq_true,if_false]
  have h0:=ih.1
  exact ⟨by grind,fun _=>by grind⟩
theorem Jf {x:Sg→Rat} {u:Sg→Bool} (l:List Sg) (h2:l.length%2=0) (hp:l.Pairwise (fun e f=>x e≠x f)) (hu:∀ e∈l,u e=(true^^bV (fun f=>decide (x e<x f)) l)):
 0≤li (fun e=>if u e=true then x e else-x e) l∧(l≠[]→0<li (fun e=>if u e=true then x e else-x e) l):=by
 have pm:=List.mergeSort_perm l (fun e f=>decide (x f≤x e))
 have sm:=List.pairwise_mergeSort (le:=fun e f=>decide (x f≤x e)) (fun a b c h1 h2=>by simp only [aE] at*;exact iy h2 h1)
  (fun a b=>by simp only [Bool.or_eq_true,aE];exact Rat.le_total) l
 have pp:(l.mergeSort (fun e f=>decide (x f≤x e))).Pairwise (fun e f=>x e≠x f):=(pm.symm.pairwise_iff (fun h e=>h e.symm)).1 hp
 generalize l.mergeSort (fun e f=>decide (x f≤x e))=m at*
 have hs:m.Pairwise (fun e f=>x f<x e):=by
  refine (sm.and pp).imp fun {e f} h=> ?_
  have h1:=of_decide_eq_true h.1
  rcases cf h1 with k|k
  ·exact k
  ·exact absurd k.symm h.2
 have:=Eh (x:=x) (u:=u) m.length m rfl (by rw [pm.length_eq];exact h2) hs (fun e he=>by rw [hu e (pm.mem_iff.1 he),oE pm])
 rw [LT pm] at this
 refine ⟨this.1,fun hne=>this.2 fun e=>hne ?_⟩
 subst e
 exact List.length_eq_zero_iff.1 (by rw [←pm.length_eq];rfl)
def Sg.up (s:Sg):Bool:=decide (s.a.y<s.b.y)
def Sg.sl (s:Sg):Rat:=(s.b.x-s.a.x)/(s.b.y-s.a.y)
def Sg.X (s:Sg) (y:Rat):Rat:=s.a.x+(y-s.a.y)*s.sl
def Sg.lo (s:Sg):Rat:=if s.up=true then s.a.y else s.b.y
def Sg.hi (s:Sg):Rat:=if s.up=true then s.b.y else s.a.y
def Sg.F (s:Sg) (y:Rat):Rat:=2*(s.a.x-s.a.y*s.sl)*y+s.sl*(y*y)
def Sg.clip (s:Sg) (t:Rat):Rat:=if t≤s.lo then s.lo else if s.hi≤t then s.hi else t
def Sg.sg (s:Sg):Rat:=if s.up=true then 1 else-1
def Sg.T (t:Rat) (s:Sg):Rat:=s.sg*(s.F (s.clip t)-s.F s.lo)
def Sg.cov (y:Rat) (s:Sg):Bool:=decide (s.lo≤y)&&decide (y<s.hi)
theorem Sg.sl_mul {s:Sg} (h:s.a.y≠s.b.y):s.sl*(s.b.y-s.a.y)=s.b.x-s.a.x:=by
 have:s.b.y-s.a.y≠0:=fun e=>h (by grind)
 unfold Sg.sl
 grind
theorem Sg.lo_hi {s:Sg} (h:s.a.y≠s.b.y):s.lo<s.hi:=by
 unfold Sg.lo Sg.hi Sg.up
 by_cases k:s.a.y<s.b.y
 ·rw [an k,if_pos rfl,if_pos rfl];exact k
 ·rw [ak k,if_neg (by simp),if_neg (by simp)];grind
theorem Sg.F_sub (s:Sg) (t t':Rat):s.F t'-s.F t=(t'-t)*(2*s.X ((t+t')/2)):=by
 unfold Sg.F Sg.X
 have:(t+t')/2*2=t+t':=by grind
 generalize (t+t')/2=m at*
 grind
theorem Sg.T_step {s:Sg} (hz:s.a.y≠s.b.y) {t t':Rat} (h:t<t') (n1:¬(t<s.a.y∧s.a.y<t')) (n2:¬(t<s.b.y∧s.b.y<t')):
 s.T t'-s.T t=if s.cov ((t+t')/2)=true then (2*(t'-t))*(if s.up=true then s.X ((t+t')/2) else-s.X ((t+t')/2)) else 0:=by
 have lh:=Sg.lo_hi hz
 have m1:¬(t<s.lo∧s.lo<t'):=by unfold Sg.lo;split<;>assumption
 have m2:¬(t<s.hi∧s.hi<t'):=by unfold Sg.hi;split<;>assumption
 have hm1:t<(t+t')/2:=by grind
 have hm2:(t+t')/2<t':=by grind
 have F:=s.F_sub t t'
 unfold Sg.T Sg.cov
 by_cases c1:s.lo≤(t+t')/2
 ·have d1:s.lo≤t:=by grind
  by_cases c2:(t+t')/2<s.hi
  ·have d2:t'≤s.hi:=by grind
   have e1:s.clip t=t:=by unfold Sg.clip;split<;>(try split)<;>grind
   have e2:s.clip t'=t':=by unfold Sg.clip;split<;>(try split)<;>grind
   rw [an c1,an c2,e1,e2,Bool.and_self,if_pos rfl]
   unfold Sg.sg
   by_cases hu:s.up=true
   ·rw [if_pos hu,if_pos hu];grind
   ·rw [if_neg hu,if_neg hu];grind
  ·have d2:s.hi≤t:=by grind
   have e1:s.clip t=s.hi:=by unfold Sg.clip;split<;>(try split)<;>grind
   have e2:s.clip t'=s.hi:=by unfold Sg.clip;split<;>(try split)<;>grind
   rw [ak c2,Bool.and_false,e1,e2,if_neg (by simp)]
   grind
 ·have d1:t'≤s.lo:=by grind
  have e1:s.clip t=s.lo:=by unfold Sg.clip;split<;>(try split)<;>grind
  have e2:s.clip t'=s.lo:=by unfold Sg.clip;split<;>(try split)<;>grind
  rw [ak c1,Bool.false_and,e1,e2,if_neg (by simp)]
  grind
theorem Sg.T_low {s:Sg} {t:Rat} (h1:t≤s.a.y) (h2:t≤s.b.y):s.T t=0:=by
 have:t≤s.lo:=by unfold Sg.lo;split<;>assumption
 unfold Sg.T Sg.clip
 rw [if_pos this]
 grind
theorem Sg.T_high {s:Sg} (hz:s.a.y≠s.b.y) {t:Rat} (h1:s.a.y≤t) (h2:s.b.y≤t):s.T t=cross s.a s.b-s.a.x*s.a.y+s.b.x*s.b.y:=by
 have lh:=Sg.lo_hi hz
 have d:s.hi≤t:=by unfold Sg.hi;split<;>assumption
 have e:s.clip t=s.hi:=by unfold Sg.clip;split<;>(try split)<;>grind
 have k:=Sg.sl_mul hz
 have F:s.F s.b.y-s.F s.a.y=cross s.a s.b-s.a.x*s.a.y+s.b.x*s.b.y:=by
  unfold Sg.F cross
  have:s.sl*s.b.y=s.b.x-s.a.x+s.sl*s.a.y:=by grind
  grind
 unfold Sg.T
 rw [e]
 unfold Sg.sg Sg.hi Sg.lo
 by_cases hu:s.up=true
 ·rw [if_pos hu,if_pos hu,if_pos hu];grind
 ·rw [if_neg hu,if_neg hu,if_neg hu];grind
theorem Sg.X_pt {s:Sg} (hz:s.a.y≠s.b.y) {y:Rat} (hc:s.cov y=true) (h1:y≠s.a.y) (h2:y≠s.b.y):∃ m:Rat,0<m∧m<1∧(⟨s.X y,y⟩:Pt)=pt s.a s.b m:=by
 have hd:s.b.y-s.a.y≠0:=fun e=>hz (by grind)
 have k:=Sg.sl_mul hz
 unfold Sg.cov Sg.lo Sg.hi Sg.up at hc
 simp only [Bool.and_eq_true,aE] at hc
 obtain ⟨m,hm⟩:∃ m:Rat,m*(s.b.y-s.a.y)=y-s.a.y:=⟨(y-s.a.y)/(s.b.y-s.a.y),by grind⟩
 have e:(⟨s.X y,y⟩:Pt)=pt s.a s.b m:=by
  refine Pt.ext ?_ ?_
  ·unfold Sg.X pt;simp only
   rw [←hm,←k];grind
  ·unfold pt;simp only;grind
 refine ⟨m,?_,?_,e⟩
 ·rcases eH 0 m with q|q|q
  ·exact q
  ·exact absurd (show y=s.a.y by rw [←q] at hm;grind) h1
  ·by_cases hu:s.a.y<s.b.y
   ·have:=au (show 0< -m by grind) (show 0<s.b.y-s.a.y by grind)
    rw [if_pos hu,if_pos hu] at hc
    grind
   ·have:=au (show 0< -m by grind) (show 0<s.a.y-s.b.y by grind)
    rw [if_neg hu,if_neg hu] at hc
    grind
 ·rcases eH m 1 with q|q|q
  ·exact q
  ·exact absurd (show y=s.b.y by rw [q] at hm;grind) h2
  ·by_cases hu:s.a.y<s.b.y
   ·have:=au (show 0<m-1 by grind) (show 0<s.b.y-s.a.y by grind)
    rw [if_pos hu,if_pos hu] at hc
    grind
   ·have:=au (show 0<m-1 by grind) (show 0<s.a.y-s.b.y by grind)
    rw [if_neg hu,if_neg hu] at hc
    grind
theorem Sg.cr_X {f:Sg} (hz:f.a.y≠f.b.y) (x y:Rat):Av.cr ⟨x,y⟩ f.a f.b=(f.cov y&&decide (x<f.X y)):=by
 have k:=Sg.sl_mul hz
 unfold Sg.cov Sg.lo Sg.hi Sg.up Av.cr
 by_cases hu:f.a.y<f.b.y
 ·rw [if_pos (ai hu),an hu,if_pos rfl,if_pos rfl]
  have hd:0<f.b.y-f.a.y:=by grind
  have e:ar f.a f.b ⟨x,y⟩=(f.b.y-f.a.y)*(f.X y-x):=by unfold ar Sg.X;simp only;rw [←k];grind
  have:=ju (w:=f.X y-x) hd
  rw [←Bool.decide_and,←Bool.decide_and,decide_eq_decide]
  unfold crU
  rw [e,this]
  try simp only
  constructor
  ·intro h;exact ⟨⟨h.1,h.2.1⟩,by have:=h.2.2;grind⟩
  ·intro h;exact ⟨h.1.1,h.1.2,by have:=h.2;grind⟩
 ·rw [if_neg (by grind),ak hu,if_neg (by simp),if_neg (by simp)]
  have hd:0<f.a.y-f.b.y:=by grind
  have e:ar f.b f.a ⟨x,y⟩=(f.a.y-f.b.y)*(f.X y-x):=by
   have k2:f.a.x=f.b.x+f.sl*(f.a.y-f.b.y):=by grind
   unfold ar Sg.X;simp only;grind
  have:=ju (w:=f.X y-x) hd
  rw [←Bool.decide_and,←Bool.decide_and,decide_eq_decide]
  unfold crU
  rw [e,this]
  try simp only
  constructor
  ·intro h;exact ⟨⟨h.1,h.2.1⟩,by have:=h.2.2;grind⟩
  ·intro h;exact ⟨h.1.1,h.1.2,by have:=h.2;grind⟩
theorem Sg.cov_xor {s:Sg} {y:Rat} (h1:y≠s.a.y) (h2:y≠s.b.y):s.cov y=(decide (s.a.y≤y)^^decide (s.b.y≤y)):=by
 unfold Sg.cov Sg.lo Sg.hi Sg.up
 by_cases hu:s.a.y<s.b.y
 ·rw [an hu,if_pos rfl,if_pos rfl]
  by_cases k1:s.a.y≤y<;>by_cases k2:s.b.y≤y
  ·rw [an k1,an k2,ak (by grind)];rfl
  ·rw [an k1,ak k2,an (by grind)];rfl
  ·exact absurd (iy (ai hu) k2) k1
  ·rw [ak k1,ak k2];rfl
 ·rw [ak hu,if_neg (by simp),if_neg (by simp)]
  by_cases k1:s.a.y≤y<;>by_cases k2:s.b.y≤y
  ·rw [an k1,an k2,ak (by grind)];rfl
  ·exact absurd (iy (Rat.not_lt.1 hu) k1) k2
  ·rw [ak k1,an k2,an (by grind)];rfl
  ·rw [ak k1,ak k2];rfl
structure ug (E:List Sg):Prop where
 steep:ud E
 closed:(E.map Sg.b).Perm (E.map Sg.a)
 apart:E.Pairwise fun e f=>∀ q,aJ e.a e.b q→aJ f.a f.b q→q=e.a∨q=e.b
 left:∀ e∈E,∀ m:Rat,0<m→m<1→bV (fun s=>cr (pt e.a e.b m) s.a s.b) E=(true^^e.up)
theorem ug.xends {E:List Sg} (h:ug E) (w:Pt→Bool):bV (fun s=>w s.a^^w s.b) E=false:=by
 rw [m6,←wg w Sg.a,←wg w Sg.b,C3 h.closed,Bool.xor_self]
def zj (E:List Sg):List Rat:=E.map (fun s=>s.a.y)++E.map (fun s=>s.b.y)
theorem qX {E:List Sg} {s:Sg} (h:s∈E):s.a.y∈zj E:=aF.2 (.inl (av.2 ⟨s,h,rfl⟩))
theorem qW {E:List Sg} {s:Sg} (h:s∈E):s.b.y∈zj E:=aF.2 (.inr (av.2 ⟨s,h,rfl⟩))
theorem ug.slab {E:List Sg} (h:ug E) {t t':Rat} (ht:t<t') (hn:∀ y∈zj E,¬(t<y∧y<t')):
 li (Sg.T t) E≤li (Sg.T t') E∧((∃ s∈E,s.cov ((t+t')/2)=true)→li (Sg.T t) E<li (Sg.T t') E):=by
 have hm1:t<(t+t')/2:=by grind
 have hm2:(t+t')/2<t':=by grind
 have ny:∀ y∈zj E,(t+t')/2≠y:=fun y hy e=>hn y hy (by rw [←e];exact ⟨hm1,hm2⟩)
 have d:li (Sg.T t') E-li (Sg.T t) E=(2*(t'-t))*li (fun s=>if s.up=true then s.X ((t+t')/2) else-s.X ((t+t')/2)) (E.filter (Sg.cov ((t+t')/2))):=by
  rw [OW,←GX]
  exact A8 fun s hs=>Sg.T_step (h.steep s hs) ht (hn _ (qX hs)) (hn _ (qW hs))
 generalize (t+t')/2=y at*
 have ev:(E.filter (Sg.cov y)).length%2=0:=by
  have e1:bV (Sg.cov y) E=false:=by
   rw [jl (g:=fun s=>decide (s.a.y≤y)^^decide (s.b.y≤y)) fun s hs=>Sg.cov_xor (ny _ (qX hs)) (ny _ (qW hs))]
   exact h.xends fun p=>decide (p.y≤y)
  have e2:=yf (Sg.cov y) (fun _=>true) E
  simp only [Bool.and_true] at e2
  rw [show (fun s=>Sg.cov y s)=Sg.cov y from rfl,e1,FH] at e2
  have:=of_decide_eq_false e2.symm
  omega
 have al:=Jf (x:=fun s=>s.X y) (u:=Sg.up) (E.filter (Sg.cov y)) ev (by
  refine (List.Pairwise.and_mem.1 (h.apart.filter _)).imp ?_
  rintro e f ⟨he,hf,hq⟩ hx
  obtain ⟨e1,e2⟩:=iD.1 he
  obtain ⟨f1,f2⟩:=iD.1 hf
  obtain ⟨m,m0,m1,em⟩:=Sg.X_pt (h.steep e e1) e2 (ny _ (qX e1)) (ny _ (qW e1))
  obtain ⟨k,k0,k1,ek⟩:=Sg.X_pt (h.steep f f1) f2 (ny _ (qX f1)) (ny _ (qW f1))
  rcases hq ⟨e.X y,y⟩ ⟨m,ai m0,ai m1,em⟩ (by rw [hx];exact ⟨k,ai k0,ai k1,ek⟩) with q|q
  ·exact ny _ (qX e1) (congrArg Pt.y q)
  ·exact ny _ (qW e1) (congrArg Pt.y q)) (fun e he=>by
  obtain ⟨e1,e2⟩:=iD.1 he
  obtain ⟨m,m0,m1,em⟩:=Sg.X_pt (h.steep e e1) e2 (ny _ (qX e1)) (ny _ (qW e1))
  have l:=h.left e e1 m m0 m1
  rw [←em,jl (g:=fun f=>f.cov y&&decide (e.X y<f.X y)) fun f hf=>Sg.cr_X (h.steep f hf) _ _,yf] at l
  rw [l]
  cases e.up<;>rfl)
 generalize li (fun s=>if s.up=true then s.X y else-s.X y) (E.filter (Sg.cov y))=S at*
 have hd:0<2*(t'-t):=by grind
 constructor
 ·have:=aj (ai hd) al.1
  grind
 ·rintro ⟨s,hs,hc⟩
  have:=au hd (al.2 fun e=>by
   have:s∈E.filter (Sg.cov y):=iD.2 ⟨hs,hc⟩
   rw [e] at this;cases this)
  grind
theorem t5 {p q:Rat→Bool} {s:Rat}:∀ {Y:List Rat},(∀ y,p y=true→q y=true)→s∈Y→q s=true→p s=false→Y.countP p<Y.countP q
 |y::Y,h,hs,h1,h2=>by
  have le:Y.countP p≤Y.countP q:=List.countP_mono_left fun y _ hy=>h y hy
  rw [List.countP_cons,List.countP_cons]
  rcases ay.1 hs with rfl|hs
  ·rw [h1,h2,if_pos rfl,if_neg (by simp)];omega
  ·have:=t5 h hs h1 h2
   by_cases hp:p y=true
   ·rw [if_pos hp,if_pos (h y hp)];omega
   ·rw [if_neg hp];split<;>omega
theorem ug.mono {E:List Sg} (h:ug E):∀ (n:Nat) (t t':Rat),t<t'→(zj E).countP (fun y=>decide (t<y)&&decide (y<t'))≤n→
 li (Sg.T t) E≤li (Sg.T t') E∧((∃ s∈E,s.lo≤t∧t'≤s.hi)→li (Sg.T t) E<li (Sg.T t') E)
 |n,t,t',ht,hn=>by
  by_cases hx:∃ y∈zj E,t<y∧y<t'
  ·obtain ⟨y,hy,h1,h2⟩:=hx
   have c1:(zj E).countP (fun z=>decide (t<z)&&decide (z<y))<(zj E).countP (fun z=>decide (t<z)&&decide (z<t')):=
    t5 (s:=y) (fun z hz=>by simp only [Bool.and_eq_true,aE] at*;grind) hy (by simp [h1,h2]) (by simp [aL])
   have c2:(zj E).countP (fun z=>decide (y<z)&&decide (z<t'))<(zj E).countP (fun z=>decide (t<z)&&decide (z<t')):=
    t5 (s:=y) (fun z hz=>by simp only [Bool.and_eq_true,aE] at*;grind) hy (by simp [h1,h2]) (by simp [aL])
   match n,hn with
   |0,hn=>omega
   |n+1,hn=>
    obtain ⟨a1,a2⟩:=h.mono n t y h1 (by omega)
    obtain ⟨b1,b2⟩:=h.mono n y t' h2 (by omega)
    refine ⟨iy a1 b1,?_⟩
    rintro ⟨s,hs,k1,k2⟩
    have:=a2 ⟨s,hs,k1,by grind⟩
    grind
  ·obtain ⟨a1,a2⟩:=h.slab ht (fun y hy k=>hx ⟨y,hy,k⟩)
   refine ⟨a1,?_⟩
   rintro ⟨s,hs,k1,k2⟩
   refine a2 ⟨s,hs,?_⟩
   unfold Sg.cov
   rw [an (by grind),an (by grind)];rfl
theorem Ec:∀ l:List Rat,∃ t,∀ y∈l,t<y
 |[]=>⟨0,fun _ h=>by cases h⟩
 |y::l=>by
  obtain ⟨t,ht⟩:=Ec l
  by_cases h:t<y
  ·exact ⟨t,fun z hz=>by
    rcases ay.1 hz with rfl|hz
    ·exact h
    ·exact ht z hz⟩
  ·exact ⟨y-1,fun z hz=>by
    rcases ay.1 hz with rfl|hz
    ·grind
    ·have:=ht z hz;grind⟩
theorem sG:∀ l:List Rat,∃ t,∀ y∈l,y<t
 |[]=>⟨0,fun _ h=>by cases h⟩
 |y::l=>by
  obtain ⟨t,ht⟩:=sG l
  by_cases h:y<t
  ·exact ⟨t,fun z hz=>by
    rcases ay.1 hz with rfl|hz
    ·exact h
    ·exact ht z hz⟩
  ·exact ⟨y+1,fun z hz=>by
    rcases ay.1 hz with rfl|hz
    ·grind
    ·have:=ht z hz;grind⟩
theorem DN {g:Sg→Rat}:∀ {E:List Sg},(∀ s∈E,g s=0)→li g E=0
 |[],_=>rfl
 |s::E,h=>by simp only [li];rw [h s (ah ..),DN fun s hs=>h s (ag _ hs)];grind
theorem LU {E:List Sg}:li (fun s=>cross s.a s.b-s.a.x*s.a.y+s.b.x*s.b.y) E=oi E-xg (fun p=>p.x*p.y) (E.map Sg.a)+xg (fun p=>p.x*p.y) (E.map Sg.b):=by
 induction E with
 |nil=>simp only [li,oi,List.map_nil,xg];grind
 |cons s E ih=>simp only [li,oi,aY,xg,ih];grind
theorem ug.pos {E:List Sg} (h:ug E) (hne:E≠[]):0<oi E:=by
 obtain ⟨s,hs⟩:=List.exists_mem_of_ne_nil E hne
 obtain ⟨t,ht⟩:=Ec (zj E)
 obtain ⟨t',ht'⟩:=sG (zj E)
 have e0:li (Sg.T t) E=0:=DN fun s hs=>Sg.T_low (ai (ht _ (qX hs))) (ai (ht _ (qW hs)))
 have e1:li (Sg.T t') E=oi E:=by
  rw [A8 (g:=fun s=>cross s.a s.b-s.a.x*s.a.y+s.b.x*s.b.y) fun s hs=>Sg.T_high (h.steep s hs) (ai (ht' _ (qX hs))) (ai (ht' _ (qW hs))),LU,C0 h.closed]
  grind
 have l1:t<s.lo:=by unfold Sg.lo;split;exact ht _ (qX hs);exact ht _ (qW hs)
 have l2:s.hi<t':=by unfold Sg.hi;split;exact ht' _ (qW hs);exact ht' _ (qX hs)
 have lh:=Sg.lo_hi (h.steep s hs)
 have k1:=(h.mono _ t s.lo l1 (ax _)).1
 have k2:=(h.mono _ s.lo s.hi lh (ax _)).2 ⟨s,hs,Rat.le_refl,Rat.le_refl⟩
 have k3:=(h.mono _ s.hi t' l2 (ax _)).1
 grind
end Go.Av
