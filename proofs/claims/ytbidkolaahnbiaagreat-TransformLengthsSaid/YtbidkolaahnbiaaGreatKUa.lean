/- Helping texts: Ua. -/
import Derived.Test.YtbidkolaahnbiaaGreatKDq
import Derived.Test.YtbidkolaahnbiaaGreatKMc
set_option linter.unusedSimpArgs false
set_option linter.unusedVariables false
set_option maxRecDepth 100000
set_option maxHeartbeats 16000000
namespace Go.Av
def swp (l:List Rat) (i j:Nat):List Rat:=(l.set i (l.getD j 0)).set j (l.getD i 0)
theorem swp_length (l:List Rat) (i j:Nat):(swp l i j).length=l.length:=by simp [swp]
theorem swp_get {l:List Rat} {i j k:Nat} (hi:i<l.length) (hj:j<l.length):(swp l i j).getD k 0=if k=j then l.getD i 0 else if k=i then l.getD j 0 else l.getD k 0:=by
 unfold swp
 rw [getD_set (by rw [List.length_set];exact hj),getD_set hi]
theorem ext_q {l m:List Rat} (h:l.length=m.length) (he:∀ i,i<l.length→l.getD i 0=m.getD i 0):l=m:=by
 refine List.ext_getElem h fun i h1 h2=> ?_
 have:=he i h1
 rwa [List.getD_eq_getElem?_getD,List.getD_eq_getElem?_getD,List.getElem?_eq_getElem h1,List.getElem?_eq_getElem h2] at this
theorem perm_set_cons {l:List Rat} {i:Nat} {x:Rat} (h:i<l.length):(l.getD i 0::l.set i x).Perm (x::l):=by
 induction l generalizing i with
 |nil=>simp at h
 |cons a l ih=>
  cases i with
  |zero=>simp only [List.set_cons_zero,List.getD_cons_zero];exact List.Perm.swap x a l
  |succ i=>
   simp only [List.set_cons_succ,List.getD_cons_succ]
   exact ((List.Perm.swap a _ _).trans ((ih (by simpa using h)).cons a)).trans (List.Perm.swap x a l)
theorem swp_perm {l:List Rat} {i j:Nat} (hi:i<l.length) (hj:j<l.length):(swp l i j).Perm l:=by
 have h1:=perm_set_cons (l:=l) (i:=i) (x:=l.getD j 0) hi
 have h2:=perm_set_cons (l:=l.set i (l.getD j 0)) (i:=j) (x:=l.getD i 0) (by rw [List.length_set];exact hj)
 have e:(l.set i (l.getD j 0)).getD j 0=l.getD j 0:=by
  rw [getD_set hi];split<;>rfl
 rw [e] at h2
 exact (List.perm_cons _).1 (h2.trans h1)
inductive Sw (a b:Nat):List Rat→List Rat→Prop
 |refl (l:List Rat):Sw a b l l
 |step {l m:List Rat} (i j:Nat):a≤i→i<b→a≤j→j<b→b≤l.length→Sw a b l m→Sw a b l (swp m i j)
theorem Sw.length {a b:Nat} {l m:List Rat} (h:Sw a b l m):m.length=l.length:=by
 induction h with
 |refl=>rfl
 |step i j _ _ _ _ _ _ ih=>rw [swp_length,ih]
theorem Sw.trans {a b:Nat} {l m k:List Rat} (h1:Sw a b l m) (h2:Sw a b m k):Sw a b l k:=by
 induction h2 with
 |refl=>exact h1
 |step i j p1 p2 p3 p4 p5 _ ih=>exact .step i j p1 p2 p3 p4 (by rw [h1.length] at p5;exact p5) ih
theorem Sw.mono {a b a' b':Nat} {l m:List Rat} (h:Sw a b l m) (ha:a'≤a) (hb:b≤b') (hl:b'≤l.length):Sw a' b' l m:=by
 induction h with
 |refl=>exact .refl _
 |step i j p1 p2 p3 p4 p5 _ ih=>exact .step i j (by omega) (by omega) (by omega) (by omega) hl ih
theorem Sw.out {a b:Nat} {l m:List Rat} (h:Sw a b l m) {k:Nat} (hk:k<a∨b≤k):m.getD k 0=l.getD k 0:=by
 induction h with
 |refl=>rfl
 |step i j p1 p2 p3 p4 p5 h ih=>
  have:=h.length
  rw [swp_get (by omega) (by omega),if_neg (by omega),if_neg (by omega),ih]
theorem Sw.perm {a b:Nat} {l m:List Rat} (h:Sw a b l m):m.Perm l:=by
 induction h with
 |refl=>exact .refl _
 |step i j p1 p2 p3 p4 p5 h ih=>
  have:=h.length
  exact (swp_perm (by omega) (by omega)).trans ih
theorem Sw.all {a b:Nat} {l m:List Rat} (h:Sw a b l m) {P:Rat→Prop} (hP:∀ k,a≤k→k<b→P (l.getD k 0)):∀ k,a≤k→k<b→P (m.getD k 0):=by
 induction h with
 |refl=>exact hP
 |step i j p1 p2 p3 p4 p5 h ih=>
  have:=h.length
  intro k h1 h2
  rw [swp_get (by omega) (by omega)]
  split
  ·exact ih i p1 p2
  ·split
   ·exact ih j p3 p4
   ·exact ih k h1 h2
theorem Sw.hq {a b:Nat} {l m:List Rat} (h:Sw a b l m) {k:Nat} (hl:hq l k):hq m k:=by
 induction h with
 |refl=>exact hl
 |step i j p1 p2 p3 p4 p5 h ih=>
  have:=h.length
  intro x hx
  rw [swp_length] at hx
  rw [swp_get (by omega) (by omega)]
  split
  ·exact ih i (by omega)
  ·split
   ·exact ih j (by omega)
   ·exact ih x hx
def Srt (a b:Nat) (l:List Rat):Prop:=∀ k,a<k→k<b→l.getD (k-1) 0≤l.getD k 0
theorem Srt.le {a b:Nat} {l:List Rat} (h:Srt a b l) {i:Nat} (hi:a≤i):∀ {j},i≤j→j<b→l.getD i 0≤l.getD j 0
 |0,hij,_=>by rw [show i=0 by omega];exact Rat.le_refl
 |j+1,hij,hj=>by
  rcases Nat.lt_or_ge i (j+1) with h1|h1
  ·exact Rat.le_trans (h.le hi (j:=j) (by omega) (by omega)) (h (j+1) (by omega) hj)
  ·rw [show i=j+1 by omega];exact Rat.le_refl
structure InsI (a i j:Nat) (m:List Rat):Prop where
 lo:a≤j
 hi:j≤i
 ord:∀ k,a<k→k≤i→k≠j→m.getD (k-1) 0≤m.getD k 0
 skip:a<j→j<i→m.getD (j-1) 0≤m.getD (j+1) 0
theorem InsI.start {a i:Nat} {m:List Rat} (h:Srt a i m) (hi:a≤i):InsI a i i m:=⟨hi,Nat.le_refl _,fun k h1 h2 h3=>h k h1 (by omega),fun _ h=>absurd h (Nat.lt_irrefl _)⟩
theorem InsI.stop {a i j:Nat} {m:List Rat} (h:InsI a i j m) (hs:j=a∨m.getD (j-1) 0≤m.getD j 0):Srt a (i+1) m:=by
 intro k h1 h2
 by_cases hk:k=j
 ·subst hk
  rcases hs with hs|hs
  ·omega
  ·exact hs
 ·exact h.ord k h1 (by omega) hk
theorem InsI.down {a i j:Nat} {m:List Rat} (h:InsI a i j m) (hj:a<j) (hl:i<m.length) (hlt:m.getD j 0<m.getD (j-1) 0):InsI a i (j-1) (swp m j (j-1)):=by
 have g:∀ k,(swp m j (j-1)).getD k 0=if k=j-1 then m.getD j 0 else if k=j then m.getD (j-1) 0 else m.getD k 0:=fun k=>swp_get (by have:=h.hi;omega) (by have:=h.hi;omega)
 have hji:=h.hi
 refine ⟨by omega,by omega,fun k h1 h2 h3=> ?_,fun h1 h2=> ?_⟩
 ·rw [g,g]
  by_cases e1:k=j
  ·rw [if_pos (by omega),if_neg (by omega),if_pos e1];exact Rat.le_of_lt hlt
  ·rw [if_neg (show ¬k-1=j-1 by omega),if_neg (show ¬k=j-1 from h3),if_neg e1]
   by_cases e2:k-1=j
   ·rw [if_pos e2]
    have:=h.skip hj (by omega)
    rwa [show k=j+1 by omega]
   ·rw [if_neg e2];exact h.ord k h1 h2 e1
 ·rw [g,g,if_neg (by omega),if_neg (by omega),if_neg (by omega),if_pos (by omega)]
  exact h.ord (j-1) h1 (by omega) (by omega)
def Hep (f lo n:Nat) (l:List Rat):Prop:=∀ i c,lo≤i→(c=2*i+1∨c=2*i+2)→c<n→l.getD (f+c) 0≤l.getD (f+i) 0
structure SiftI (f lo n r:Nat) (l:List Rat):Prop where
 rl:lo≤r
 ord:∀ i c,lo≤i→i≠r→(c=2*i+1∨c=2*i+2)→c<n→l.getD (f+c) 0≤l.getD (f+i) 0
 par:∀ p c,lo≤p→(r=2*p+1∨r=2*p+2)→(c=2*r+1∨c=2*r+2)→c<n→l.getD (f+c) 0≤l.getD (f+p) 0
theorem SiftI.start {f lo n:Nat} {l:List Rat} (h:Hep f (lo+1) n l):SiftI f lo n lo l:=⟨Nat.le_refl _,fun i c h1 h2 h3 h4=>h i c (by omega) h3 h4,fun p c h1 h2 _ _=>by omega⟩
theorem SiftI.stop {f lo n r:Nat} {l:List Rat} (h:SiftI f lo n r l) (hs:∀ c,(c=2*r+1∨c=2*r+2)→c<n→l.getD (f+c) 0≤l.getD (f+r) 0):Hep f lo n l:=by
 intro i c h1 h2 h3
 by_cases e:i=r
 ·subst e;exact hs c h2 h3
 ·exact h.ord i c h1 e h2 h3
theorem SiftI.down {f lo n r c:Nat} {l:List Rat} (h:SiftI f lo n r l) (hc:c=2*r+1∨c=2*r+2) (hn:c<n) (hl:f+n≤l.length) (hlt:l.getD (f+r) 0<l.getD (f+c) 0)
 (hm:∀ d,(d=2*r+1∨d=2*r+2)→d<n→l.getD (f+d) 0≤l.getD (f+c) 0):SiftI f lo n c (swp l (f+r) (f+c)):=by
 have hlo:=h.rl
 have g:∀ k,(swp l (f+r) (f+c)).getD (f+k) 0=if k=c then l.getD (f+r) 0 else if k=r then l.getD (f+c) 0 else l.getD (f+k) 0:=fun k=>by
  rw [swp_get (by omega) (by omega)]
  by_cases e1:k=c
  ·rw [if_pos (by omega),if_pos e1]
  ·rw [if_neg (by omega),if_neg e1]
   by_cases e2:k=r
   ·rw [if_pos (by omega),if_pos e2]
   ·rw [if_neg (by omega),if_neg e2]
 refine ⟨by omega,fun i d h1 h2 h3 h4=> ?_,fun p d h1 h2 h3 h4=> ?_⟩
 ·rw [g,g]
  by_cases ei:i=r
  ·subst ei
   rw [if_neg (show ¬i=c by omega),if_pos rfl]
   by_cases ed:d=c
   ·rw [if_pos ed];exact Rat.le_of_lt hlt
   ·rw [if_neg ed,if_neg (by omega)];exact hm d h3 h4
  ·rw [if_neg (show ¬d=c by omega),if_neg (show ¬i=c from h2),if_neg ei]
   by_cases ed:d=r
   ·rw [if_pos ed]
    subst ed
    exact h.par i c h1 h3 hc hn
   ·rw [if_neg ed];exact h.ord i d h1 ei h3 h4
 ·have ep:p=r:=by omega
  subst ep
  rw [g,g,if_neg (show ¬d=c by omega),if_neg (show ¬d=p by omega),if_neg (show ¬p=c by omega),if_pos rfl]
  exact h.ord c d (by omega) (by omega) h3 h4
theorem Hep.top {f n:Nat} {l:List Rat} (h:Hep f 0 n l):∀ c,c<n→l.getD (f+c) 0≤l.getD f 0:=by
 intro c
 induction c using Nat.strongRecOn with
 |ind c ih=>
  intro hc
  rcases Nat.eq_zero_or_pos c with h0|h0
  ·subst h0;exact Rat.le_refl
  ·exact Rat.le_trans (h ((c-1)/2) c (Nat.zero_le _) (by omega) hc) (by
    have:=ih ((c-1)/2) (by omega) (by omega)
    exact this)
theorem Hep.late {f n lo:Nat} {l:List Rat} (h:n≤2*lo+1):Hep f lo n l:=fun i c h1 h2 h3=>by omega
structure PopI (f n i:Nat) (l:List Rat):Prop where
 hep:Hep f 0 i l
 srt:Srt (f+i) (f+n) l
 le:∀ k d,k<i→i≤d→d<n→l.getD (f+k) 0≤l.getD (f+d) 0
theorem PopI.start {f n:Nat} {l:List Rat} (h:Hep f 0 n l):PopI f n n l:=⟨h,fun k h1 h2=>by omega,fun k d h1 h2 h3=>by omega⟩
theorem PopI.swap {f n k:Nat} {l:List Rat} (h:PopI f n (k+1) l) (hl:f+n≤l.length) (hk:k<n):Hep f (0+1) k (swp l f (f+k)):=by
 have g:∀ i,(swp l f (f+k)).getD (f+i) 0=if i=k then l.getD f 0 else if i=0 then l.getD (f+k) 0 else l.getD (f+i) 0:=fun i=>by
  rw [swp_get (by omega) (by omega)]
  by_cases e1:i=k
  ·rw [if_pos (by omega),if_pos e1]
  ·rw [if_neg (by omega),if_neg e1]
   by_cases e2:i=0
   ·rw [if_pos (by omega),if_pos e2]
   ·rw [if_neg (by omega),if_neg e2]
 intro i c h1 h2 h3
 rw [g,g,if_neg (show ¬c=k by omega),if_neg (show ¬c=0 by omega),if_neg (show ¬i=k by omega),if_neg (show ¬i=0 by omega)]
 exact h.hep i c (Nat.zero_le _) h2 (by omega)
theorem PopI.step {f n k:Nat} {l m:List Rat} (h:PopI f n (k+1) l) (hl:f+n≤l.length) (hk:k<n) (hsw:Sw f (f+k) (swp l f (f+k)) m) (hh:Hep f 0 k m):PopI f n k m:=by
 have g:∀ i,(swp l f (f+k)).getD (f+i) 0=if i=k then l.getD f 0 else if i=0 then l.getD (f+k) 0 else l.getD (f+i) 0:=fun i=>by
  rw [swp_get (by omega) (by omega)]
  by_cases e1:i=k
  ·rw [if_pos (by omega),if_pos e1]
  ·rw [if_neg (by omega),if_neg e1]
   by_cases e2:i=0
   ·rw [if_pos (by omega),if_pos e2]
   ·rw [if_neg (by omega),if_neg e2]
 have o:∀ d,k≤d→m.getD (f+d) 0=if d=k then l.getD f 0 else l.getD (f+d) 0:=fun d hd=>by
  rw [hsw.out (by omega),g]
  by_cases e:d=k
  ·rw [if_pos e,if_pos e]
  ·rw [if_neg e,if_neg e,if_neg (show ¬d=0 by omega)]
 have top:=h.hep.top
 refine ⟨hh,fun j h1 h2=> ?_,fun j d h1 h2 h3=> ?_⟩
 ·obtain ⟨d,rfl⟩:∃ d,j=f+d:=⟨j-f,by omega⟩
  rw [show f+d-1=f+(d-1) by omega,o _ (by omega),o _ (by omega),if_neg (show ¬d=k by omega)]
  by_cases e:d-1=k
  ·rw [if_pos e]
   have:=h.le 0 d (by omega) (by omega) (by omega)
   rwa [Nat.add_zero] at this
  ·rw [if_neg e]
   have:=h.srt (f+d) (by omega) h2
   rwa [show f+d-1=f+(d-1) by omega] at this
 ·refine hsw.all (P:=fun x=>x≤m.getD (f+d) 0) (fun i h4 h5=> ?_) (f+j) (by omega) (by omega)
  obtain ⟨e,rfl⟩:∃ e,i=f+e:=⟨i-f,by omega⟩
  rw [g,if_neg (show ¬e=k by omega),o _ h2]
  by_cases ed:d=k
  ·rw [if_pos ed]
   split
   ·exact top k (by omega)
   ·exact top e (by omega)
  ·rw [if_neg ed]
   split
   ·exact h.le k d (by omega) (by omega) h3
   ·exact h.le e d (by omega) (by omega) h3
end Go.Av
