/- Helping texts: Sg, Sh, Si, Sk, Sj, Sl, Sp, Sq, Ua, Ub. -/
import Derived.Test.YtbidkolaahnbiaaGreatKSe
import Derived.Test.YtbidkolaahnbiaaGreatKFa
import Derived.Test.YtbidkolaahnbiaaGreatKSm
import Derived.Test.YtbidkolaahnbiaaGreatKMm
import Derived.Test.YtbidkolaahnbiaaGreatKDs
import Derived.Test.YtbidkolaahnbiaaGreatKMb
set_option linter.unusedSimpArgs false
set_option linter.unusedVariables false
set_option maxRecDepth 100000
set_option maxHeartbeats 16000000
namespace Go.Av
open Go.RowKit
open Go.Proofs.Tryz (prog)
end Go.Av
namespace Go.Av
open Go.RowKit
open Go.Proofs.Tryz (prog)
variable {P:Program} {K:V→Hp→Prop} {H:Hp} {ei:TyI} {b:Nat} {ys:List (List V)}
end Go.Av
namespace Go.Av
open Go.RowKit
open Go.Proofs.Tryz (prog)
end Go.Av
namespace Go.Av
open Go.RowKit
open Go.Proofs.Tryz (prog)
variable {L:List Pt} {Hs:List (List Pt)}
theorem Valid.rcheck_pc (h:Valid L Hs):PC prog 75 [cgV L Hs] (.prim (.int .i64 (0))):=by
 have hf:=h.fine
 have:=rcheckP_pc (L.map Pt.rp) (Hs.map fun l=>l.map Pt.rp) (by rw [List.length_map];have:=h.few;omega) (by rw [List.length_map];have:=h.out.hi;omega) hf.kO (fun l hl=>by
  obtain ⟨m,hm,rfl⟩:=List.mem_map.1 hl
  exact ⟨by rw [List.length_map];have:=(h.holes m hm).hi;omega,(hf.kh _ hl).2⟩)
 rw [hf.chk,←cg_pg] at this
 exact this
end Go.Av
namespace Go.Av
open Go.RowKit
open Go.Proofs.Tryz (prog)
structure Small (O:List Rp) (hs:List (List Rp)):Prop where
 n:hs.length<2^40
 nO:O.length<2^40
 kO:∀ p∈O,p.le (2^16)
 kh:∀ l∈hs,l.length<2^40∧∀ p∈l,p.le (2^16)
theorem Small.check {O:List Rp} {hs:List (List Rp)} (h:Small O hs):PC prog 74 [pgV O hs] (.prim (.int .i64 (chkP O hs))):=
 Pcheck_pc O hs (by have:=h.n;omega) (by have:=h.nO;omega) h.kO fun l hl=>⟨by have:=(h.kh l hl).1;omega,(h.kh l hl).2⟩
end Go.Av
namespace Go.Av
open Go.RowKit
open Go.Proofs.Tryz (prog)
variable {L:List Pt} {Hs:List (List Pt)}
end Go.Av
namespace Go.Av
open Go.RowKit
open Go.Proofs.Tryz (prog)
def Rp.can (p:Rp):Prop:=p.x=Av.can p.x.val∧p.y=Av.can p.y.val
variable {O:List Rp} {hs:List (List Rp)}
theorem Small.rcheck (h:Small O hs):PC prog 75 [pgV O hs] (.prim (.int .i64 (chkP O hs))):=rcheckP_pc O hs h.n h.nO h.kO h.kh
theorem Rp.le32 {p:Rp} (h:p.le (2^20)):p.x.le (2^32)∧p.y.le (2^32):=⟨Rt.le_mono h.1 (by omega),Rt.le_mono h.2 (by omega)⟩
end Go.Av
namespace Go.Av
open Go.RowKit
open Go.Proofs.Tryz (prog)
def Both (f g:FuncId) (args:List V):Prop:=∃ A B z,PC prog f args (.tup [.agg [.lst 6 A,.lst 1 B],.prim (.int .i64 (z))])∧PC prog g args (.tup [.agg [.lst 6 A,.lst 1 B],.prim (.int .i64 (z))])∧
 PC prog 24 [.agg [.lst 6 A,.lst 1 B],.agg [.lst 6 A,.lst 1 B]] (.prim (.bool true))
theorem Both.good {f g:FuncId} {args:List V} {L:List Pt} {Hs:List (List Pt)} (hv:Valid L Hs) (h1:PC prog f args (.tup [cgV L Hs,.prim (.int .i64 (0))])) (h2:PC prog g args (.tup [cgV L Hs,.prim (.int .i64 (0))])):Both f g args:=
 ⟨_,_,0,h1,h2,rsameC_pc L Hs (by have:=hv.out.hi;omega) (by have:=hv.few;omega) fun l hl=>by have:=(hv.holes l hl).hi;omega⟩
variable {O:List Rp} {hs:List (List Rp)}
theorem good_of (hg:greatP O hs=false) (z:chkP O hs=0):Fine O hs∧hs.length≤3∧hlP (pts O) (hs.map pts) 12:=by
 obtain ⟨h1,h2,h3,h4⟩:=greatP_small hg
 obtain ⟨l1,l2⟩:=greatP_12 hg
 have hf:Fine O hs:=⟨z,h2,h4⟩
 have h8:=hf.few
 refine ⟨hf,?_,?_⟩
 ·unfold greatP at hg
  simp only [Bool.or_eq_false_iff,decide_eq_false_iff_not] at hg
  omega
 ·intro l hl
  rcases List.mem_cons.1 hl with rfl|hl
  ·exact hl_pts (chkR_ok hf.o0) l1 (by omega)
  ·obtain ⟨l0,h0,rfl⟩:=List.mem_map.1 hl
   refine hl_pts (chkR_ok (hf.hr l0 h0)) (fun p hp=> ?_) (by omega)
   obtain ⟨i,hi,rfl⟩:=List.mem_iff_getElem.1 h0
   refine l2 i hi (by omega) p ?_
   rw [List.getD_eq_getElem?_getD,List.getElem?_eq_getElem hi];exact hp
theorem small_of (hg:greatP O hs=false):Small O hs:=by
 obtain ⟨h1,h2,h3,h4⟩:=greatP_small hg
 refine ⟨by omega,by omega,h2,fun l hl=>⟨?_,(h4 l hl).2⟩⟩
 obtain ⟨i,hi,rfl⟩:=List.mem_iff_getElem.1 hl
 unfold greatP at hg
 simp only [Bool.or_eq_false_iff,decide_eq_false_iff_not] at hg
 obtain ⟨_,_,_,k4,_⟩:=hg
 have:=anyTo_get k4 (i:=i) (by omega)
 simp only [Bool.or_eq_false_iff,decide_eq_false_iff_not] at this
 have:=this.1
 rw [List.getD_eq_getElem?_getD,List.getElem?_eq_getElem hi] at this
 simp only [Option.getD_some] at this
 omega
end Go.Av
namespace Go.Av
def swp (l:List Rat) (i j:Nat):List Rat:=(l.set i (l.getD j 0)).set j (l.getD i 0)
theorem swp_length (l:List Rat) (i j:Nat):(swp l i j).length=l.length:=by simp [swp]
theorem swp_get {l:List Rat} {i j k:Nat} (hi:i<l.length) (hj:j<l.length):(swp l i j).getD k 0=if k=j then l.getD i 0 else if k=i then l.getD j 0 else l.getD k 0:=by
 unfold swp
 rw [getD_set (by rw [List.length_set];exact hj),getD_set hi]
theorem ext_q {l m:List Rat} (h:l.length=m.length) (he:∀ i,i<l.length→l.getD i 0=m.getD i 0):l=m:=by
 refine List.ext_getElem h fun i h1 h2=> ?_
 have:=he i h1
 rwa [List.getD_eq_getElem?_getD,List.getD_eq_getElem?_getD,List.getElem?_eq_getElem h1,List.getElem?_eq_getElem h2] at this
theorem perm_set_cons {l:List Rat} {i:Nat} {x:Rat} (h:i<l.length):(l.getD i 0::l.set i x).Perm (x::l):=by
 induction l generalizing i with
 |nil=>simp at h
 |cons a l ih=>
  cases i with
  |zero=>simp only [List.set_cons_zero,List.getD_cons_zero];exact List.Perm.swap x a l
  |succ i=>
   simp only [List.set_cons_succ,List.getD_cons_succ]
   exact ((List.Perm.swap a _ _).trans ((ih (by simpa using h)).cons a)).trans (List.Perm.swap x a l)
theorem swp_perm {l:List Rat} {i j:Nat} (hi:i<l.length) (hj:j<l.length):(swp l i j).Perm l:=by
 have h1:=perm_set_cons (l:=l) (i:=i) (x:=l.getD j 0) hi
 have h2:=perm_set_cons (l:=l.set i (l.getD j 0)) (i:=j) (x:=l.getD i 0) (by rw [List.length_set];exact hj)
 have e:(l.set i (l.getD j 0)).getD j 0=l.getD j 0:=by
  rw [getD_set hi];split<;>rfl
 rw [e] at h2
 exact (List.perm_cons _).1 (h2.trans h1)
inductive Sw (a b:Nat):List Rat→List Rat→Prop
 |refl (l:List Rat):Sw a b l l
 |step {l m:List Rat} (i j:Nat):a≤i→i<b→a≤j→j<b→b≤l.length→Sw a b l m→Sw a b l (swp m i j)
theorem Sw.length {a b:Nat} {l m:List Rat} (h:Sw a b l m):m.length=l.length:=by
 induction h with
 |refl=>rfl
 |step i j _ _ _ _ _ _ ih=>rw [swp_length,ih]
theorem Sw.trans {a b:Nat} {l m k:List Rat} (h1:Sw a b l m) (h2:Sw a b m k):Sw a b l k:=by
 induction h2 with
 |refl=>exact h1
 |step i j p1 p2 p3 p4 p5 _ ih=>exact .step i j p1 p2 p3 p4 (by rw [h1.length] at p5;exact p5) ih
theorem Sw.mono {a b a' b':Nat} {l m:List Rat} (h:Sw a b l m) (ha:a'≤a) (hb:b≤b') (hl:b'≤l.length):Sw a' b' l m:=by
 induction h with
 |refl=>exact .refl _
 |step i j p1 p2 p3 p4 p5 _ ih=>exact .step i j (by omega) (by omega) (by omega) (by omega) hl ih
theorem Sw.out {a b:Nat} {l m:List Rat} (h:Sw a b l m) {k:Nat} (hk:k<a∨b≤k):m.getD k 0=l.getD k 0:=by
 induction h with
 |refl=>rfl
 |step i j p1 p2 p3 p4 p5 h ih=>
  have:=h.length
  rw [swp_get (by omega) (by omega),if_neg (by omega),if_neg (by omega),ih]
theorem Sw.perm {a b:Nat} {l m:List Rat} (h:Sw a b l m):m.Perm l:=by
 induction h with
 |refl=>exact .refl _
 |step i j p1 p2 p3 p4 p5 h ih=>
  have:=h.length
  exact (swp_perm (by omega) (by omega)).trans ih
theorem Sw.all {a b:Nat} {l m:List Rat} (h:Sw a b l m) {P:Rat→Prop} (hP:∀ k,a≤k→k<b→P (l.getD k 0)):∀ k,a≤k→k<b→P (m.getD k 0):=by
 induction h with
 |refl=>exact hP
 |step i j p1 p2 p3 p4 p5 h ih=>
  have:=h.length
  intro k h1 h2
  rw [swp_get (by omega) (by omega)]
  split
  ·exact ih i p1 p2
  ·split
   ·exact ih j p3 p4
   ·exact ih k h1 h2
theorem Sw.hq {a b:Nat} {l m:List Rat} (h:Sw a b l m) {k:Nat} (hl:hq l k):hq m k:=by
 induction h with
 |refl=>exact hl
 |step i j p1 p2 p3 p4 p5 h ih=>
  have:=h.length
  intro x hx
  rw [swp_length] at hx
  rw [swp_get (by omega) (by omega)]
  split
  ·exact ih i (by omega)
  ·split
   ·exact ih j (by omega)
   ·exact ih x hx
def Srt (a b:Nat) (l:List Rat):Prop:=∀ k,a<k→k<b→l.getD (k-1) 0≤l.getD k 0
theorem Srt.le {a b:Nat} {l:List Rat} (h:Srt a b l) {i:Nat} (hi:a≤i):∀ {j},i≤j→j<b→l.getD i 0≤l.getD j 0
 |0,hij,_=>by rw [show i=0 by omega];exact Rat.le_refl
 |j+1,hij,hj=>by
  rcases Nat.lt_or_ge i (j+1) with h1|h1
  ·exact Rat.le_trans (h.le hi (j:=j) (by omega) (by omega)) (h (j+1) (by omega) hj)
  ·rw [show i=j+1 by omega];exact Rat.le_refl
structure InsI (a i j:Nat) (m:List Rat):Prop where
 lo:a≤j
 hi:j≤i
 ord:∀ k,a<k→k≤i→k≠j→m.getD (k-1) 0≤m.getD k 0
 skip:a<j→j<i→m.getD (j-1) 0≤m.getD (j+1) 0
theorem InsI.start {a i:Nat} {m:List Rat} (h:Srt a i m) (hi:a≤i):InsI a i i m:=⟨hi,Nat.le_refl _,fun k h1 h2 h3=>h k h1 (by omega),fun _ h=>absurd h (Nat.lt_irrefl _)⟩
theorem InsI.stop {a i j:Nat} {m:List Rat} (h:InsI a i j m) (hs:j=a∨m.getD (j-1) 0≤m.getD j 0):Srt a (i+1) m:=by
 intro k h1 h2
 by_cases hk:k=j
 ·subst hk
  rcases hs with hs|hs
  ·omega
  ·exact hs
 ·exact h.ord k h1 (by omega) hk
theorem InsI.down {a i j:Nat} {m:List Rat} (h:InsI a i j m) (hj:a<j) (hl:i<m.length) (hlt:m.getD j 0<m.getD (j-1) 0):InsI a i (j-1) (swp m j (j-1)):=by
 have g:∀ k,(swp m j (j-1)).getD k 0=if k=j-1 then m.getD j 0 else if k=j then m.getD (j-1) 0 else m.getD k 0:=fun k=>swp_get (by have:=h.hi;omega) (by have:=h.hi;omega)
 have hji:=h.hi
 refine ⟨by omega,by omega,fun k h1 h2 h3=> ?_,fun h1 h2=> ?_⟩
 ·rw [g,g]
  by_cases e1:k=j
  ·rw [if_pos (by omega),if_neg (by omega),if_pos e1];exact Rat.le_of_lt hlt
  ·rw [if_neg (show ¬k-1=j-1 by omega),if_neg (show ¬k=j-1 from h3),if_neg e1]
   by_cases e2:k-1=j
   ·rw [if_pos e2]
    have:=h.skip hj (by omega)
    rwa [show k=j+1 by omega]
   ·rw [if_neg e2];exact h.ord k h1 h2 e1
 ·rw [g,g,if_neg (by omega),if_neg (by omega),if_neg (by omega),if_pos (by omega)]
  exact h.ord (j-1) h1 (by omega) (by omega)
def Hep (f lo n:Nat) (l:List Rat):Prop:=∀ i c,lo≤i→(c=2*i+1∨c=2*i+2)→c<n→l.getD (f+c) 0≤l.getD (f+i) 0
structure SiftI (f lo n r:Nat) (l:List Rat):Prop where
 rl:lo≤r
 ord:∀ i c,lo≤i→i≠r→(c=2*i+1∨c=2*i+2)→c<n→l.getD (f+c) 0≤l.getD (f+i) 0
 par:∀ p c,lo≤p→(r=2*p+1∨r=2*p+2)→(c=2*r+1∨c=2*r+2)→c<n→l.getD (f+c) 0≤l.getD (f+p) 0
theorem SiftI.start {f lo n:Nat} {l:List Rat} (h:Hep f (lo+1) n l):SiftI f lo n lo l:=⟨Nat.le_refl _,fun i c h1 h2 h3 h4=>h i c (by omega) h3 h4,fun p c h1 h2 _ _=>by omega⟩
theorem SiftI.stop {f lo n r:Nat} {l:List Rat} (h:SiftI f lo n r l) (hs:∀ c,(c=2*r+1∨c=2*r+2)→c<n→l.getD (f+c) 0≤l.getD (f+r) 0):Hep f lo n l:=by
 intro i c h1 h2 h3
 by_cases e:i=r
 ·subst e;exact hs c h2 h3
 ·exact h.ord i c h1 e h2 h3
theorem SiftI.down {f lo n r c:Nat} {l:List Rat} (h:SiftI f lo n r l) (hc:c=2*r+1∨c=2*r+2) (hn:c<n) (hl:f+n≤l.length) (hlt:l.getD (f+r) 0<l.getD (f+c) 0)
 (hm:∀ d,(d=2*r+1∨d=2*r+2)→d<n→l.getD (f+d) 0≤l.getD (f+c) 0):SiftI f lo n c (swp l (f+r) (f+c)):=by
 have hlo:=h.rl
 have g:∀ k,(swp l (f+r) (f+c)).getD (f+k) 0=if k=c then l.getD (f+r) 0 else if k=r then l.getD (f+c) 0 else l.getD (f+k) 0:=fun k=>by
  rw [swp_get (by omega) (by omega)]
  by_cases e1:k=c
  ·rw [if_pos (by omega),if_pos e1]
  ·rw [if_neg (by omega),if_neg e1]
   by_cases e2:k=r
   ·rw [if_pos (by omega),if_pos e2]
   ·rw [if_neg (by omega),if_neg e2]
 refine ⟨by omega,fun i d h1 h2 h3 h4=> ?_,fun p d h1 h2 h3 h4=> ?_⟩
 ·rw [g,g]
  by_cases ei:i=r
  ·subst ei
   rw [if_neg (show ¬i=c by omega),if_pos rfl]
   by_cases ed:d=c
   ·rw [if_pos ed];exact Rat.le_of_lt hlt
   ·rw [if_neg ed,if_neg (by omega)];exact hm d h3 h4
  ·rw [if_neg (show ¬d=c by omega),if_neg (show ¬i=c from h2),if_neg ei]
   by_cases ed:d=r
   ·rw [if_pos ed]
    subst ed
    exact h.par i c h1 h3 hc hn
   ·rw [if_neg ed];exact h.ord i d h1 ei h3 h4
 ·have ep:p=r:=by omega
  subst ep
  rw [g,g,if_neg (show ¬d=c by omega),if_neg (show ¬d=p by omega),if_neg (show ¬p=c by omega),if_pos rfl]
  exact h.ord c d (by omega) (by omega) h3 h4
theorem Hep.top {f n:Nat} {l:List Rat} (h:Hep f 0 n l):∀ c,c<n→l.getD (f+c) 0≤l.getD f 0:=by
 intro c
 induction c using Nat.strongRecOn with
 |ind c ih=>
  intro hc
  rcases Nat.eq_zero_or_pos c with h0|h0
  ·subst h0;exact Rat.le_refl
  ·exact Rat.le_trans (h ((c-1)/2) c (Nat.zero_le _) (by omega) hc) (by
    have:=ih ((c-1)/2) (by omega) (by omega)
    exact this)
theorem Hep.late {f n lo:Nat} {l:List Rat} (h:n≤2*lo+1):Hep f lo n l:=fun i c h1 h2 h3=>by omega
structure PopI (f n i:Nat) (l:List Rat):Prop where
 hep:Hep f 0 i l
 srt:Srt (f+i) (f+n) l
 le:∀ k d,k<i→i≤d→d<n→l.getD (f+k) 0≤l.getD (f+d) 0
theorem PopI.start {f n:Nat} {l:List Rat} (h:Hep f 0 n l):PopI f n n l:=⟨h,fun k h1 h2=>by omega,fun k d h1 h2 h3=>by omega⟩
theorem PopI.swap {f n k:Nat} {l:List Rat} (h:PopI f n (k+1) l) (hl:f+n≤l.length) (hk:k<n):Hep f (0+1) k (swp l f (f+k)):=by
 have g:∀ i,(swp l f (f+k)).getD (f+i) 0=if i=k then l.getD f 0 else if i=0 then l.getD (f+k) 0 else l.getD (f+i) 0:=fun i=>by
  rw [swp_get (by omega) (by omega)]
  by_cases e1:i=k
  ·rw [if_pos (by omega),if_pos e1]
  ·rw [if_neg (by omega),if_neg e1]
   by_cases e2:i=0
   ·rw [if_pos (by omega),if_pos e2]
   ·rw [if_neg (by omega),if_neg e2]
 intro i c h1 h2 h3
 rw [g,g,if_neg (show ¬c=k by omega),if_neg (show ¬c=0 by omega),if_neg (show ¬i=k by omega),if_neg (show ¬i=0 by omega)]
 exact h.hep i c (Nat.zero_le _) h2 (by omega)
theorem PopI.step {f n k:Nat} {l m:List Rat} (h:PopI f n (k+1) l) (hl:f+n≤l.length) (hk:k<n) (hsw:Sw f (f+k) (swp l f (f+k)) m) (hh:Hep f 0 k m):PopI f n k m:=by
 have g:∀ i,(swp l f (f+k)).getD (f+i) 0=if i=k then l.getD f 0 else if i=0 then l.getD (f+k) 0 else l.getD (f+i) 0:=fun i=>by
  rw [swp_get (by omega) (by omega)]
  by_cases e1:i=k
  ·rw [if_pos (by omega),if_pos e1]
  ·rw [if_neg (by omega),if_neg e1]
   by_cases e2:i=0
   ·rw [if_pos (by omega),if_pos e2]
   ·rw [if_neg (by omega),if_neg e2]
 have o:∀ d,k≤d→m.getD (f+d) 0=if d=k then l.getD f 0 else l.getD (f+d) 0:=fun d hd=>by
  rw [hsw.out (by omega),g]
  by_cases e:d=k
  ·rw [if_pos e,if_pos e]
  ·rw [if_neg e,if_neg e,if_neg (show ¬d=0 by omega)]
 have top:=h.hep.top
 refine ⟨hh,fun j h1 h2=> ?_,fun j d h1 h2 h3=> ?_⟩
 ·obtain ⟨d,rfl⟩:∃ d,j=f+d:=⟨j-f,by omega⟩
  rw [show f+d-1=f+(d-1) by omega,o _ (by omega),o _ (by omega),if_neg (show ¬d=k by omega)]
  by_cases e:d-1=k
  ·rw [if_pos e]
   have:=h.le 0 d (by omega) (by omega) (by omega)
   rwa [Nat.add_zero] at this
  ·rw [if_neg e]
   have:=h.srt (f+d) (by omega) h2
   rwa [show f+d-1=f+(d-1) by omega] at this
 ·refine hsw.all (P:=fun x=>x≤m.getD (f+d) 0) (fun i h4 h5=> ?_) (f+j) (by omega) (by omega)
  obtain ⟨e,rfl⟩:∃ e,i=f+e:=⟨i-f,by omega⟩
  rw [g,if_neg (show ¬e=k by omega),o _ h2]
  by_cases ed:d=k
  ·rw [if_pos ed]
   split
   ·exact top k (by omega)
   ·exact top e (by omega)
  ·rw [if_neg ed]
   split
   ·exact h.le k d (by omega) (by omega) h3
   ·exact h.le e d (by omega) (by omega) h3
end Go.Av
namespace Go.Av
open Go.RowKit
open Go.Proofs.Tryz (prog)
def CmpF (F:FuncId):Prop:=∀ p q,ht p≤2^30→ht q≤2^30→PC prog F [qV p,qV q] (.prim (.int .i64 (cmpQ p q)))
theorem swp_qc {m:List Rat} {i j:Nat}:((m.map qc).set i (qc (m.getD j 0))).set j (qc (m.getD i 0))=(swp m i j).map qc:=by
 unfold swp;rw [List.map_set,List.map_set]
theorem cmpQ_lt {p q:Rat}:cmpQ p q<0↔p<q:=by
 unfold cmpQ
 by_cases h1:p<q
 ·rw [if_pos h1];exact ⟨fun _=>h1,fun _=>by decide⟩
 ·rw [if_neg h1]
  split
  ·exact ⟨fun h=>absurd h (by decide),fun h=>absurd h h1⟩
  ·exact ⟨fun h=>absurd h (by decide),fun h=>absurd h h1⟩
theorem isortG_sc {F:FuncId} (hF:CmpF F) (l:List Rat) (a b:Nat) (hab:a≤b) (hbl:b≤l.length) (hn:l.length≤2^20) (hl0:hq l (2^30)) {blk:Nat} {fx:Bool} {H:Hp} {K:V→Hp→Prop} (hb:get H blk=some (.row 3 true (l.map qc)))
 (hK:∀ m,Sw a b l m→Srt a b m→K (.tup []) (H.set blk (some (.row 3 true (m.map qc))))):
 SC prog 254 [.sref blk 0 l.length l.length 3 fx,.prim (.int .i64 ((a:Nat):Int)),.prim (.int .i64 ((b:Nat):Int)),.clo F [] []] H K:=by
 have hbk:=get_lt_len hb
 have s1:∀ x,get (H.set blk x) blk=x:=fun x=>get_eq hbk
 have s2:∀ x y,(H.set blk x).set blk y=H.set blk y:=fun x y=>List.set_set ..
 refine SCi ?_
 conv in trip _ _=>cbv
 simp only [runT,RN,simprocAttr]
 simp (disch:=omega) only [↓RS,RZ,simprocAttr]
 refine wp_lp (fun (i:Nat) J=>ov [(0,.sref blk 0 l.length l.length 3 fx),(1,.prim (.int .i64 ((a:Nat):Int))),(2,.prim (.int .i64 ((b:Nat):Int))),(3,.clo F [] []),(8,.prim (.int .i64 ((i:Nat):Int)))] J 0 53) (fun i H'=>∃ m:List Rat,((a+1≤i∧(i≤b∨i=a+1))∧Sw a b l m∧Srt a i m)∧H'=H.set blk (some (.row 3 true (m.map qc)))) (fun i=>b-i) (a+1) rfl ⟨l,⟨⟨Nat.le_refl _,.inr rfl⟩,.refl l,fun k h1 h2=>by omega⟩,(set_self hb).symm⟩ ?_
 rintro i J _ ⟨m,⟨⟨hi1,hi⟩,hsw,hs⟩,rfl⟩
 try conv in ov _ _ _ _=>simp only [ov,List.lookup,RO,simprocAttr]
 have hml:=hsw.length
 rcases Nat.lt_or_ge i b with hlt|hge
 ·simp (disch:=omega) only [↓RS,RZ,simprocAttr]
  refine wp_lp (fun (j:Nat) J=>ov [(0,.sref blk 0 l.length l.length 3 fx),(1,.prim (.int .i64 ((a:Nat):Int))),(2,.prim (.int .i64 ((b:Nat):Int))),(3,.clo F [] []),(8,.prim (.int .i64 ((i:Nat):Int))),(9,.prim (.int .i64 ((j:Nat):Int)))] J 0 53) (fun j H'=>∃ m:List Rat,(Sw a b l m∧InsI a i j m)∧H'=H.set blk (some (.row 3 true (m.map qc)))) (fun j=>j) i rfl ⟨m,⟨hsw,.start hs (by omega)⟩,rfl⟩ ?_
  rintro j J' _ ⟨m',⟨hsw',hI⟩,rfl⟩
  try conv in ov _ _ _ _=>simp only [ov,List.lookup,RO,simprocAttr]
  have hml':=hsw'.length
  have q:=hsw'.hq hl0
  have h1:=hI.lo
  have h2:=hI.hi
  by_cases hj:j=a
  ·simp (disch:=omega) only [↓RS,RZ,simprocAttr]
   exact lp_next (i+1) rfl ⟨m',⟨⟨by omega,.inl hlt⟩,hsw',hI.stop (.inl hj)⟩,rfl⟩ (by omega)
  ·obtain ⟨k,rfl⟩:∃ k,j=k+1:=⟨j-1,by omega⟩
   have g1:=qc_get (l:=m') (i:=k) (by omega)
   have g2:=qc_get (l:=m') (i:=k+1) (by omega)
   have c:=hF (m'.getD (k+1) 0) (m'.getD k 0) (q _ (by omega)) (q _ (by omega))
   have hst:=hI.stop
   have hdn:=fun h=>hI.down (by omega) (by omega) h
   rw [Nat.add_sub_cancel] at hst hdn
   simp (disch:=omega) only [↓RS,RZ,simprocAttr,s1,g1,g2,qc,Nat.add_sub_cancel,Nat.zero_add]
   refine cX c ?_
   by_cases hc:cmpQ (m'.getD (k+1) 0) (m'.getD k 0)<0
   ·have g3:∀ x,((m'.map qc).set (k+1) x)[k]? =some (qc (m'.getD k 0)):=fun x=>by rw [List.getElem?_set_ne (by omega)];exact g1
    have es:= @swp_qc m' (k+1) k
    simp only [qc] at es
    simp (disch:=omega) only [↓RS,RZ,simprocAttr,s1,s2,g1,g2,g3,qc,Nat.add_sub_cancel,Nat.zero_add,es]
    exact lp_next k rfl ⟨swp m' (k+1) k,⟨hsw'.trans (.step _ _ (by omega) (by omega) (by omega) (by omega) (by omega) (.refl _)),hdn (cmpQ_lt.1 hc)⟩,rfl⟩ (Nat.lt_succ_self k)
   ·simp (disch:=omega) only [↓RS,RZ,simprocAttr]
    exact lp_next (i+1) rfl ⟨m',⟨⟨by omega,.inl hlt⟩,hsw',hst (.inr (Rat.not_lt.1 fun h=>hc (cmpQ_lt.2 h)))⟩,rfl⟩ (by omega)
 ·simp (disch:=omega) only [↓RS,RZ,simprocAttr]
  exact hK m hsw (fun k h1 h2=>hs k h1 (by omega))
theorem sift_sc {F:FuncId} (hF:CmpF F) (l:List Rat) (f lo n:Nat) (hfn:f+n≤l.length) (hlo:lo≤n) (hn:l.length≤2^20) (hl0:hq l (2^30)) (hh:Hep f (lo+1) n l) {blk:Nat} {fx:Bool} {H:Hp} {K:V→Hp→Prop} (hb:get H blk=some (.row 3 true (l.map qc)))
 (hK:∀ m,Sw f (f+n) l m→Hep f lo n m→K (.tup []) (H.set blk (some (.row 3 true (m.map qc))))):
 SC prog 299 [.sref blk 0 l.length l.length 3 fx,.prim (.int .i64 ((lo:Nat):Int)),.prim (.int .i64 ((n:Nat):Int)),.prim (.int .i64 ((f:Nat):Int)),.clo F [] []] H K:=by
 have hbk:=get_lt_len hb
 have s1:∀ x,get (H.set blk x) blk=x:=fun x=>get_eq hbk
 have s2:∀ x y,(H.set blk x).set blk y=H.set blk y:=fun x y=>List.set_set ..
 refine SCi ?_
 conv in trip _ _=>cbv
 simp only [runT,RN,simprocAttr]
 simp (disch:=omega) only [↓RS,RZ,simprocAttr]
 refine wp_lp (fun (r:Nat) J=>ov [(0,.sref blk 0 l.length l.length 3 fx),(2,.prim (.int .i64 ((n:Nat):Int))),(3,.prim (.int .i64 ((f:Nat):Int))),(4,.clo F [] []),(10,.prim (.int .i64 ((r:Nat):Int)))] J 0 82) (fun r H'=>∃ m:List Rat,(r≤n∧Sw f (f+n) l m∧SiftI f lo n r m)∧H'=H.set blk (some (.row 3 true (m.map qc)))) (fun r=>n-r) lo rfl ⟨l,⟨hlo,.refl l,.start hh⟩,(set_self hb).symm⟩ ?_
 rintro r J _ ⟨m,⟨hrn,hsw,hI⟩,rfl⟩
 try conv in ov _ _ _ _=>simp only [ov,List.lookup,RO,simprocAttr]
 have hml:=hsw.length
 have q:=hsw.hq hl0
 have e2:(2:Int)*(r:Int)=((2*r:Nat):Int):=by omega
 by_cases hc0:n≤2*r+1
 ·simp (disch:=omega) only [↓RS,RZ,simprocAttr,e2]
  exact hK m hsw (hI.stop fun c h1 h2=>by omega)
 ·have g0:=qc_get (l:=m) (i:=f+r) (by omega)
  have g1:=qc_get (l:=m) (i:=f+(2*r+1)) (by omega)
  have fin:∀ c,(c=2*r+1∨c=2*r+2)→c<n→(∀ d,(d=2*r+1∨d=2*r+2)→d<n→m.getD (f+d) 0≤m.getD (f+c) 0)→¬m.getD (f+r) 0<m.getD (f+c) 0→Hep f lo n m:=fun c h1 h2 h3 h4=>
   hI.stop fun d k1 k2=>Rat.le_trans (h3 d k1 k2) (Rat.not_lt.1 h4)
  by_cases hc1:2*r+2<n
  ·have g2:=qc_get (l:=m) (i:=f+(2*r+1)+1) (by omega)
   have c1:=hF (m.getD (f+(2*r+1)) 0) (m.getD (f+(2*r+1)+1) 0) (q _ (by omega)) (q _ (by omega))
   simp (disch:=omega) only [↓RS,RZ,simprocAttr,e2,s1,g1,g2,qc,Nat.zero_add]
   refine cX c1 ?_
   by_cases hz:cmpQ (m.getD (f+(2*r+1)) 0) (m.getD (f+(2*r+1)+1) 0)<0
   ·have hz':=cmpQ_lt.1 hz
    have gc:=qc_get (l:=m) (i:=f+(2*r+1+1)) (by omega)
    have c2:=hF (m.getD (f+r) 0) (m.getD (f+(2*r+1+1)) 0) (q _ (by omega)) (q _ (by omega))
    have hmx:∀ d,(d=2*r+1∨d=2*r+2)→d<n→m.getD (f+d) 0≤m.getD (f+(2*r+1+1)) 0:=by
     rintro d (rfl|rfl) hd
     ·exact Rat.le_of_lt hz'
     ·exact Rat.le_refl
    have gx:∀ x,((m.map qc).set (f+r) x)[f+(2*r+1+1)]? =some (qc (m.getD (f+(2*r+1+1)) 0)):=fun x=>by rw [List.getElem?_set_ne (by omega)];exact gc
    have es:= @swp_qc m (f+r) (f+(2*r+1+1))
    simp only [qc] at es
    simp (disch:=omega) only [↓RS,RZ,simprocAttr,s1,g0,gc,qc,Nat.zero_add]
    refine cX c2 ?_
    by_cases hk:cmpQ (m.getD (f+r) 0) (m.getD (f+(2*r+1+1)) 0)<0
    ·simp (disch:=omega) only [↓RS,RZ,simprocAttr,s1,s2,g0,gc,gx,qc,Nat.zero_add,es]
     exact lp_next (2*r+1+1) rfl ⟨_,⟨by omega,hsw.trans (.step (f+r) (f+(2*r+1+1)) (by omega) (by omega) (by omega) (by omega) (by omega) (.refl _)),hI.down (by omega) (by omega) (by omega) (cmpQ_lt.1 hk) hmx⟩,rfl⟩ (by omega)
    ·simp (disch:=omega) only [↓RS,RZ,simprocAttr]
     exact hK m hsw (fin (2*r+1+1) (by omega) (by omega) hmx fun h=>hk (cmpQ_lt.2 h))
   ·have hz':=Rat.not_lt.1 (fun h=>hz (cmpQ_lt.2 h))
    have gc:=qc_get (l:=m) (i:=f+(2*r+1)) (by omega)
    have c2:=hF (m.getD (f+r) 0) (m.getD (f+(2*r+1)) 0) (q _ (by omega)) (q _ (by omega))
    have hmx:∀ d,(d=2*r+1∨d=2*r+2)→d<n→m.getD (f+d) 0≤m.getD (f+(2*r+1)) 0:=by
     rintro d (rfl|rfl) hd
     ·exact Rat.le_refl
     ·exact hz'
    have gx:∀ x,((m.map qc).set (f+r) x)[f+(2*r+1)]? =some (qc (m.getD (f+(2*r+1)) 0)):=fun x=>by rw [List.getElem?_set_ne (by omega)];exact gc
    have es:= @swp_qc m (f+r) (f+(2*r+1))
    simp only [qc] at es
    simp (disch:=omega) only [↓RS,RZ,simprocAttr,s1,g0,gc,qc,Nat.zero_add]
    refine cX c2 ?_
    by_cases hk:cmpQ (m.getD (f+r) 0) (m.getD (f+(2*r+1)) 0)<0
    ·simp (disch:=omega) only [↓RS,RZ,simprocAttr,s1,s2,g0,gc,gx,qc,Nat.zero_add,es]
     exact lp_next (2*r+1) rfl ⟨_,⟨by omega,hsw.trans (.step (f+r) (f+(2*r+1)) (by omega) (by omega) (by omega) (by omega) (by omega) (.refl _)),hI.down (by omega) (by omega) (by omega) (cmpQ_lt.1 hk) hmx⟩,rfl⟩ (by omega)
    ·simp (disch:=omega) only [↓RS,RZ,simprocAttr]
     exact hK m hsw (fin (2*r+1) (by omega) (by omega) hmx fun h=>hk (cmpQ_lt.2 h))
  ·simp (disch:=omega) only [↓RS,RZ,simprocAttr,e2]
   have gc:=qc_get (l:=m) (i:=f+(2*r+1)) (by omega)
   have c2:=hF (m.getD (f+r) 0) (m.getD (f+(2*r+1)) 0) (q _ (by omega)) (q _ (by omega))
   have hmx:∀ d,(d=2*r+1∨d=2*r+2)→d<n→m.getD (f+d) 0≤m.getD (f+(2*r+1)) 0:=by
    rintro d (rfl|rfl) hd
    ·exact Rat.le_refl
    ·omega
   have gx:∀ x,((m.map qc).set (f+r) x)[f+(2*r+1)]? =some (qc (m.getD (f+(2*r+1)) 0)):=fun x=>by rw [List.getElem?_set_ne (by omega)];exact gc
   have es:= @swp_qc m (f+r) (f+(2*r+1))
   simp only [qc] at es
   simp (disch:=omega) only [↓RS,RZ,simprocAttr,s1,g0,gc,qc,Nat.zero_add]
   refine cX c2 ?_
   by_cases hk:cmpQ (m.getD (f+r) 0) (m.getD (f+(2*r+1)) 0)<0
   ·simp (disch:=omega) only [↓RS,RZ,simprocAttr,s1,s2,g0,gc,gx,qc,Nat.zero_add,es]
    exact lp_next (2*r+1) rfl ⟨_,⟨by omega,hsw.trans (.step (f+r) (f+(2*r+1)) (by omega) (by omega) (by omega) (by omega) (by omega) (.refl _)),hI.down (by omega) (by omega) (by omega) (cmpQ_lt.1 hk) hmx⟩,rfl⟩ (by omega)
   ·simp (disch:=omega) only [↓RS,RZ,simprocAttr]
    exact hK m hsw (fin (2*r+1) (by omega) (by omega) hmx fun h=>hk (cmpQ_lt.2 h))
theorem heap_sc {F:FuncId} (hF:CmpF F) (l:List Rat) (a b:Nat) (hab:a<b) (hbl:b≤l.length) (hn:l.length≤2^20) (hl0:hq l (2^30)) {blk:Nat} {fx:Bool} {H:Hp} {K:V→Hp→Prop} (hb:get H blk=some (.row 3 true (l.map qc)))
 (hK:∀ m,Sw a b l m→Srt a b m→K (.tup []) (H.set blk (some (.row 3 true (m.map qc))))):
 SC prog 255 [.sref blk 0 l.length l.length 3 fx,.prim (.int .i64 ((a:Nat):Int)),.prim (.int .i64 ((b:Nat):Int)),.clo F [] []] H K:=by
 have hbk:=get_lt_len hb
 have s1:∀ x,get (H.set blk x) blk=x:=fun x=>get_eq hbk
 have s2:∀ x y,(H.set blk x).set blk y=H.set blk y:=fun x y=>List.set_set ..
 obtain ⟨n,rfl⟩:∃ n,b=a+n:=⟨b-a,by omega⟩
 have ed:((a+n:Nat):Int)-(a:Int)=((n:Nat):Int):=by omega
 have e1:((n:Nat):Int)-1=((n-1:Nat):Int):=by omega
 have e2:(((n-1:Nat):Int)).tdiv 2=(((n-1)/2:Nat):Int):=tdivN (n-1) 2
 refine SCi ?_
 conv in trip _ _=>cbv
 simp only [runT,RN,simprocAttr]
 simp (disch:=omega) only [↓RS,RZ,simprocAttr,ed,e1,e2]
 refine wp_lp (fun (s:Nat) J=>ov [(0,.sref blk 0 l.length l.length 3 fx),(3,.clo F [] []),(8,.prim (.int .i64 ((a:Nat):Int))),(9,.prim (.int .i64 (0))),(10,.prim (.int .i64 ((n:Nat):Int))),(11,.prim (.int .i64 ((s:Int)-1)))] J 0 60) (fun s H'=>∃ m:List Rat,(s≤(n-1)/2+1∧Sw a (a+n) l m∧Hep a s n m)∧H'=H.set blk (some (.row 3 true (m.map qc)))) (fun s=>s) ((n-1)/2+1) (by rw [show (((n-1)/2+1:Nat):Int)-1=(((n-1)/2:Nat):Int) by omega];rfl) ⟨l,⟨Nat.le_refl _,.refl l,.late (by omega)⟩,(set_self hb).symm⟩ ?_
 rintro s J _ ⟨m,⟨hs,hsw,hh⟩,rfl⟩
 try conv in ov _ _ _ _=>simp only [ov,List.lookup,RO,simprocAttr]
 have hml:=hsw.length
 have q:=hsw.hq hl0
 rcases s with _|k
 ·simp (disch:=omega) only [↓RS,RZ,simprocAttr,e1]
  refine wp_lp (fun (s:Nat) J=>ov [(0,.sref blk 0 l.length l.length 3 fx),(3,.clo F [] []),(8,.prim (.int .i64 ((a:Nat):Int))),(9,.prim (.int .i64 (0))),(10,.prim (.int .i64 ((n:Nat):Int))),(12,.prim (.int .i64 ((s:Int)-1)))] J 0 60) (fun s H'=>∃ m:List Rat,(s≤n∧Sw a (a+n) l m∧PopI a n s m)∧H'=H.set blk (some (.row 3 true (m.map qc)))) (fun s=>s) n (by rw [e1];rfl) ⟨m,⟨Nat.le_refl _,hsw,.start hh⟩,rfl⟩ ?_
  rintro s J' _ ⟨m',⟨hs',hsw',hp⟩,rfl⟩
  try conv in ov _ _ _ _=>simp only [ov,List.lookup,RO,simprocAttr]
  have hml':=hsw'.length
  have q':=hsw'.hq hl0
  rcases s with _|k
  ·simp (disch:=omega) only [↓RS,RZ,simprocAttr]
   exact hK m' hsw' (by have:=hp.srt;rwa [Nat.add_zero] at this)
  ·have ek:((k+1:Nat):Int)-1=((k:Nat):Int):=by omega
   rw [ek]
   have g1:=qc_get (l:=m') (i:=a) (by omega)
   have g2:=qc_get (l:=m') (i:=a+k) (by omega)
   have gx:((m'.map qc).set a (qc (m'.getD (a+k) 0)))[a+k]? =some (qc (m'.getD (a+k) 0)):=by
    rcases Nat.eq_zero_or_pos k with h0|h0
    ·subst h0;rw [Nat.add_zero,List.getElem?_set_self (by rw [List.length_map];omega)]
    ·rw [List.getElem?_set_ne (by omega)];exact g2
   have es:= @swp_qc m' a (a+k)
   simp only [qc] at es gx
   have hsl:=swp_length m' a (a+k)
   have st:Sw a (a+n) m' (swp m' a (a+k)):= .step _ _ (by omega) (by omega) (by omega) (by omega) (by omega) (.refl _)
   have sf:=fun H0 K0 hb0 hK0=> @sift_sc F hF (swp m' a (a+k)) a 0 k (by omega) (Nat.zero_le _) (by omega) (st.hq q') (hp.swap (by omega) (by omega)) blk fx H0 K0 hb0 hK0
   rw [hsl,hml'] at sf
   simp (disch:=omega) only [↓RS,RZ,simprocAttr,s1,s2,g1,g2,gx,qc,Nat.zero_add,es]
   refine call_sc (sf _ _ (s1 _) fun m2 hw2 hh2=> ?_)
   rw [s2]
   simp (disch:=omega) only [↓RS,RZ,simprocAttr]
   exact lp_next k rfl ⟨m2,⟨by omega,(hsw'.trans st).trans (hw2.mono (Nat.le_refl _) (by omega) (by omega)),hp.step (by omega) (by omega) hw2 hh2⟩,rfl⟩ (Nat.lt_succ_self k)
 ·have ek:((k+1:Nat):Int)-1=((k:Nat):Int):=by omega
  rw [ek]
  have sf:=fun H0 K0 hb0 hK0=> @sift_sc F hF m a k n (by omega) (by omega) (by omega) q hh blk fx H0 K0 hb0 hK0
  rw [hml] at sf
  simp (disch:=omega) only [↓RS,RZ,simprocAttr]
  refine call_sc (sf _ _ (s1 _) fun m2 hw2 hh2=> ?_)
  rw [s2]
  simp (disch:=omega) only [↓RS,RZ,simprocAttr]
  exact lp_next k rfl ⟨m2,⟨by omega,hsw.trans hw2,hh2⟩,rfl⟩ (Nat.lt_succ_self k)
end Go.Av
