/- Helping texts: Od. -/
import Derived.Test.YtkmlhdfpcjkekaaGreatKOc
import Derived.Test.YtkmlhdfpcjkekaaGreatKNg
import Derived.Test.YtkmlhdfpcjkekaaGreatKLi
set_option linter.unusedSimpArgs false
set_option linter.unusedVariables false
set_option maxRecDepth 100000
set_option maxHeartbeats 16000000
namespace Go.Av
theorem swapAt_mid (A:List Pt) (a x:Pt) (B:List Pt):swapAtP (A++a::x::B) A.length=A++x::a::B:=by
 unfold swapAtP
 have e1:(A++a::x::B).getD A.length default=a:=by simp [List.getD_eq_getElem?_getD]
 have e2:(A++a::x::B).getD (A.length+1) default=x:=by simp [List.getD_eq_getElem?_getD,List.getElem?_append_right]
 rw [e1,e2,List.set_append_right _ _ (by omega),List.set_append_right _ _ (by omega)]
 simp
theorem bubble_mid:∀ (n:Nat) (A:List Pt) (x:Pt) (B:List Pt),A.length=n→A.Pairwise (fun p q=>cmpP p q≤0)→∃ A2,bubbleP (A++x::B) A.length=A2++B∧A2.Perm (A++[x])∧A2.Pairwise fun p q=>cmpP p q≤0
 |0,A,x,B,hn,hs=>by
  have:A=[]:=List.length_eq_zero_iff.1 hn
  subst this
  exact ⟨[x],rfl,List.Perm.refl _,List.pairwise_singleton _ _⟩
 |n+1,A,x,B,hn,hs=>by
  obtain ⟨A',a,rfl⟩:∃ A' a,A=A'++[a]:=by
   have hne:A≠[]:=fun h=>by subst h;simp at hn
   exact ⟨A.dropLast,A.getLast hne,(List.dropLast_concat_getLast hne).symm⟩
  have hl:(A'++[a]).length=A'.length+1:=by simp
  have hA':A'.length=n:=by omega
  rw [hl]
  unfold bubbleP
  have e:A'++[a]++x::B=A'++a::x::B:=by simp
  rw [e]
  have e1:(A'++a::x::B).getD A'.length default=a:=by simp [List.getD_eq_getElem?_getD]
  have e2:(A'++a::x::B).getD (A'.length+1) default=x:=by simp [List.getD_eq_getElem?_getD,List.getElem?_append_right]
  rw [e1,e2]
  rw [List.pairwise_append] at hs
  split
  ·rename_i hx
   rw [swapAt_mid]
   obtain ⟨A2,h1,h2,h3⟩:=bubble_mid n A' x (a::B) hA' hs.1
   refine ⟨A2++[a],by rw [h1];simp,?_,?_⟩
   ·refine (h2.append_right [a]).trans ?_
    rw [List.append_assoc,List.append_assoc]
    exact List.Perm.append_left _ (List.Perm.swap _ _ _)
   ·rw [List.pairwise_append]
    refine ⟨h3,List.pairwise_singleton _ _,fun p hp q hq=> ?_⟩
    rw [List.mem_singleton.1 hq]
    rcases List.mem_append.1 (h2.mem_iff.1 hp) with k|k
    ·exact hs.2.2 p k a (List.mem_singleton.2 rfl)
    ·rw [List.mem_singleton.1 k];omega
  ·rename_i hx
   refine ⟨A'++[a,x],by simp,by simp,?_⟩
   have hax:cmpP a x≤0:=by have:= @cmpP_flip a x;omega
   rw [List.pairwise_append]
   refine ⟨hs.1,by simp [hax],fun p hp q hq=> ?_⟩
   have hpa:=hs.2.2 p hp a (List.mem_singleton.2 rfl)
   simp only [List.mem_cons,List.not_mem_nil,or_false] at hq
   rcases hq with rfl|rfl
   ·exact hpa
   ·exact cmpP_le_trans hpa hax
theorem isort_mid (l:List Pt):∀ i,i<l.length→∃ A,isortToP l i=A++l.drop (i+1)∧A.Perm (l.take (i+1))∧A.Pairwise fun p q=>cmpP p q≤0
 |0,h=>by
  obtain ⟨a,l',rfl⟩:∃ a l',l=a::l':=by cases l with
   |nil=>simp at h
   |cons a l'=>exact ⟨a,l',rfl⟩
  exact ⟨[a],rfl,by simp,List.pairwise_singleton _ _⟩
 |i+1,h=>by
  obtain ⟨A,h1,h2,h3⟩:=isort_mid l i (by omega)
  have hA:A.length=i+1:=by rw [h2.length_eq,List.length_take];omega
  have hd:l.drop (i+1)=l[i+1]::l.drop (i+1+1):=List.drop_eq_getElem_cons h
  have ht:l.take (i+1+1)=l.take (i+1)++[l[i+1]]:=by rw [List.take_add_one,List.getElem?_eq_getElem h];rfl
  rw [isortToP,h1,hd,ht]
  generalize l[i+1]=y
  obtain ⟨A2,k1,k2,k3⟩:=bubble_mid _ A y (l.drop (i+1+1)) rfl h3
  rw [hA] at k1
  exact ⟨A2,k1,k2.trans (h2.append_right _),k3⟩
theorem srtC_ok {C:List Pt} (h:C≠[]):(srtC C).Perm C∧(srtC C).Pairwise fun p q=>cmpP p q≤0:=by
 have hp:=List.length_pos_iff.2 h
 obtain ⟨A,h1,h2,h3⟩:=isort_mid C (C.length-1) (by omega)
 have e:C.length-1+1=C.length:=by omega
 rw [e,List.drop_length,List.append_nil] at h1
 rw [e,List.take_length] at h2
 unfold srtC
 rw [h1]
 exact ⟨h2,h3⟩
variable {L:List Pt} {Hs:List (List Pt)}
theorem cornP_ne (h:Valid L Hs):cornP L Hs≠[]:=cornersTo_ne h.rgs Hs.length
theorem cornP_nodup (h:Valid L Hs):(cornP L Hs).Nodup:=by
 have hap:Apart (L::Hs):=by
  refine ⟨fun i hi=> ?_,fun i j hij hi=> ?_⟩
  ·rw [List.getD_eq_getElem?_getD,List.getElem?_eq_getElem hi];exact vring_of h (List.getElem_mem hi)
  ·rw [meetB_noMeet]
   ·cases i with
    |zero=>omega
    |succ i=>
     have hi':i<Hs.length:=by simpa using hi
     have gi:(L::Hs).getD (i+1) []=Hs[i]:=by rw [List.getD_cons_succ,List.getD_eq_getElem?_getD,List.getElem?_eq_getElem hi'];rfl
     rw [gi]
     cases j with
     |zero=>exact h.mo _ (List.getElem_mem hi')
     |succ j=>
      have hj':j<Hs.length:=by omega
      have gj:(L::Hs).getD (j+1) []=Hs[j]:=by rw [List.getD_cons_succ,List.getD_eq_getElem?_getD,List.getElem?_eq_getElem hj'];rfl
      rw [gj]
      exact (List.pairwise_iff_getElem.1 h.pw j i hj' hi' (by omega)).nm.symm
   ·rw [List.getD_eq_getElem?_getD,List.getElem?_eq_getElem hi];exact vring_of h (List.getElem_mem hi)
   ·rw [List.getD_eq_getElem?_getD,List.getElem?_eq_getElem (by omega)];exact vring_of h (List.getElem_mem _)
 exact hap.nodup _ (Nat.le_refl _)
def ordP (L:List Pt) (Hs:List (List Pt)):List Pt:=srtC (cornP L Hs)
theorem ordP_perm (h:Valid L Hs):(ordP L Hs).Perm (cornP L Hs):=(srtC_ok (cornP_ne h)).1
theorem ordP_asc (h:Valid L Hs):(ordP L Hs).Pairwise fun p q=>cmpP p q<0:=by
 have h1:=(srtC_ok (cornP_ne h)).2
 have h2:(ordP L Hs).Nodup:=(ordP_perm h).nodup_iff.2 (cornP_nodup h)
 refine (h1.and h2).imp ?_
 rintro p q ⟨k1,k2⟩
 have:cmpP p q≠0:=fun e=>k2 (cmpP_zero.1 e)
 omega
theorem ordP_mem (h:Valid L Hs) {c:Pt}:c∈ordP L Hs↔c∈cornP L Hs:=(ordP_perm h).mem_iff
theorem pair_of (h:Valid L Hs) {u v:Pt} (hu:u∈cornP L Hs) (hv:v∈cornP L Hs) (hlt:cmpP u v<0):∃ x∈pairsTo (ordP L Hs).length (ordP L Hs).length,prS (ordP L Hs) x=⟨u,v⟩:=by
 obtain ⟨i,hi,rfl⟩:=List.mem_iff_getElem.1 ((ordP_mem h).2 hu)
 obtain ⟨k,hk,rfl⟩:=List.mem_iff_getElem.1 ((ordP_mem h).2 hv)
 have hik:i<k:=by
  rcases Nat.lt_trichotomy i k with j|j|j
  ·exact j
  ·subst j;rw [cmpP_self] at hlt;omega
  ·have:=List.pairwise_iff_getElem.1 (ordP_asc h) k i hk hi j
   have:= @cmpP_flip (ordP L Hs)[k] (ordP L Hs)[i]
   omega
 refine ⟨(i,k),mem_pairsTo.2 ⟨hi,hik,hk⟩,?_⟩
 unfold prS
 simp only [List.getD_eq_getElem?_getD,List.getElem?_eq_getElem hi,List.getElem?_eq_getElem hk,Option.getD_some]
theorem pair_lt (h:Valid L Hs) {x:Nat×Nat} (hx:x∈pairsTo (ordP L Hs).length (ordP L Hs).length):cmpP (prS (ordP L Hs) x).a (prS (ordP L Hs) x).b<0∧(prS (ordP L Hs) x).a∈cornP L Hs∧(prS (ordP L Hs) x).b∈cornP L Hs:=by
 obtain ⟨h1,h2,h3⟩:=mem_pairsTo.1 hx
 unfold prS
 simp only [List.getD_eq_getElem?_getD,List.getElem?_eq_getElem h1,List.getElem?_eq_getElem h3,Option.getD_some]
 exact ⟨List.pairwise_iff_getElem.1 (ordP_asc h) _ _ h1 h3 h2,(ordP_mem h).1 (List.getElem_mem h1),(ordP_mem h).1 (List.getElem_mem h3)⟩
theorem side_one' {l:List Pt} (h:Ring l) {q:Pt}:sideS l q=1↔¬onE l q∧oddTo l q l.length=true:=by
 unfold sideS
 by_cases k:onB l q=true
 ·rw [if_pos k];exact ⟨fun e=>(by cases e),fun e=>absurd ((onB_onE h q).1 k) e.1⟩
 ·have k':¬onE l q:=fun j=>k ((onB_onE h q).2 j)
  rw [if_neg k]
  by_cases o:oddTo l q l.length=true
  ·rw [if_pos o];exact ⟨fun _=>⟨k',o⟩,fun _=>rfl⟩
  ·rw [if_neg o];exact ⟨fun e=>(by cases e),fun e=>absurd e.2 o⟩
theorem side_neg' {l:List Pt} (h:Ring l) {q:Pt}:sideS l q= -1↔¬onE l q∧oddTo l q l.length=false:=by
 unfold sideS
 by_cases k:onB l q=true
 ·rw [if_pos k];exact ⟨fun e=>(by cases e),fun e=>absurd ((onB_onE h q).1 k) e.1⟩
 ·have k':¬onE l q:=fun j=>k ((onB_onE h q).2 j)
  rw [if_neg k]
  by_cases o:oddTo l q l.length=true
  ·rw [if_pos o];exact ⟨fun e=>(by cases e),fun e=>(by rw [o] at e;cases e.2)⟩
  ·rw [if_neg o];exact ⟨fun _=>⟨k',by simpa using o⟩,fun _=>rfl⟩
def inP (L:List Pt) (Hs:List (List Pt)) (q:Pt):Prop:=whereS L Hs q=1
theorem inP_iff (h:Valid L Hs) {q:Pt}:inP L Hs q↔(∀ e∈edgeP L Hs,¬onSeg e.a e.b q)∧oddTo L q L.length=true∧∀ x∈Hs,oddTo x q x.length=false:=by
 unfold inP
 rw [where_one h,side_one' h.out]
 constructor
 ·rintro ⟨⟨h1,h2⟩,h3⟩
  have h4:=fun x hx=>(side_neg' (h.holes x hx)).1 (h3 x hx)
  refine ⟨fun e he k=> ?_,h2,fun x hx=>(h4 x hx).2⟩
  obtain ⟨l,hl,he'⟩:=edgeP_mem he
  rcases List.mem_cons.1 hl with e1|e1
  ·rw [e1] at he';exact h1 ⟨e,he',k⟩
  ·exact (h4 l e1).1 ⟨e,he',k⟩
 ·rintro ⟨h1,h2,h3⟩
  exact ⟨⟨fun ⟨e,he,k⟩=>h1 e (edgeP_of (List.mem_cons_self ..) he) k,h2⟩,fun x hx=>(side_neg' (h.holes x hx)).2 ⟨fun ⟨e,he,k⟩=>h1 e (edgeP_of (List.mem_cons_of_mem _ hx) he) k,h3 x hx⟩⟩
theorem odd_seg {l:List Pt} {p q:Pt} (hc:∀ e∈edgesL l,¬Common p q e.a e.b):oddTo l p l.length=oddTo l q l.length:=
 odd_same fun j hj=>hc (segOf l j) (seg_mem hj)
theorem inP_stay (h:Valid L Hs) {p q:Pt} (hc:∀ e∈edgeP L Hs,¬Common p q e.a e.b) (hp:inP L Hs p):inP L Hs q:=by
 rw [inP_iff h] at*
 refine ⟨fun e he k=>hc e he ⟨q,onSeg_r _ _,k⟩,?_,fun x hx=> ?_⟩
 ·rw [←odd_seg fun e he=>hc e (edgeP_of (List.mem_cons_self ..) he)];exact hp.2.1
 ·rw [←odd_seg fun e he=>hc e (edgeP_of (List.mem_cons_of_mem _ hx) he)];exact hp.2.2 x hx
theorem onSeg_lo {u v P:Pt} (h:onSeg u v P):(P.x≤u.x∨P.x≤v.x)∧(u.x≤P.x∨v.x≤P.x)∧(P.y≤u.y∨P.y≤v.y)∧(u.y≤P.y∨v.y≤P.y):=by
 obtain ⟨m,m0,m1,rfl⟩:=h
 unfold pt
 try simp only
 have key:∀ a b:Rat,(a+m*(b-a)≤a∨a+m*(b-a)≤b)∧(a≤a+m*(b-a)∨b≤a+m*(b-a)):=by
  intro a b
  by_cases k:a≤b
  ·have h1:=Rat.mul_nonneg m0 (show 0≤b-a by grind)
   have h2:=Rat.mul_nonneg (show 0≤1-m by grind) (show 0≤b-a by grind)
   exact ⟨.inr (by grind),.inl (by grind)⟩
  ·have h1:=Rat.mul_nonneg m0 (show 0≤a-b by grind)
   have h2:=Rat.mul_nonneg (show 0≤1-m by grind) (show 0≤a-b by grind)
   exact ⟨.inl (by grind),.inr (by grind)⟩
 exact ⟨(key _ _).1,(key _ _).2,(key _ _).1,(key _ _).2⟩
theorem odd_beside {l:List Pt} {p:Pt} (hx:(∀ v∈l,v.x<p.x)∨(∀ v∈l,p.x<v.x)):oddTo l p l.length=false:=by
 obtain ⟨Y,hY⟩:=avoid (p.y::l.map Pt.y)
 have hY1:=hY _ (List.mem_cons_self ..)
 have hY2:∀ v∈l,v.y<Y:=fun v hv=>hY _ (List.mem_cons_of_mem _ (List.mem_map.2 ⟨v,hv,rfl⟩))
 rw [odd_seg (q:=⟨p.x,Y⟩)]
 ·exact odd_top fun v hv=>Rat.le_of_lt (hY2 v hv)
 ·rintro e he ⟨P,p1,p2⟩
  obtain ⟨ea,eb⟩:=edges_mem he
  have b1:=onSeg_lo p1
  have b2:=onSeg_lo p2
  simp only at b1
  rcases hx with hx|hx
  ·have:=hx _ ea;have:=hx _ eb
   grind
  ·have:=hx _ ea;have:=hx _ eb
   grind
theorem odd_below {l:List Pt} {p:Pt} (hy:∀ v∈l,p.y<v.y):oddTo l p l.length=false:=by
 obtain ⟨X,hX⟩:=avoid (l.map Pt.x)
 have hX2:∀ v∈l,v.x<X:=fun v hv=>hX _ (List.mem_map.2 ⟨v,hv,rfl⟩)
 rw [odd_seg (q:=⟨X,p.y⟩)]
 ·exact odd_beside (.inl fun v hv=>hX2 v hv)
 ·rintro e he ⟨P,p1,p2⟩
  obtain ⟨ea,eb⟩:=edges_mem he
  have b1:=onSeg_lo p1
  have b2:=onSeg_lo p2
  simp only at b1
  have:=hy _ ea;have:=hy _ eb
  grind
theorem inP_odd (h:Valid L Hs) {q:Pt} (ho:oddTo L q L.length=false):¬inP L Hs q:=fun k=>by
 have:=((inP_iff h).1 k).2.1
 rw [ho] at this;cases this
theorem inP_far (h:Valid L Hs) (p v:Pt) (hv:v≠⟨0,0⟩):∃ t:Rat,0≤t∧¬inP L Hs ⟨p.x+t*v.x,p.y+t*v.y⟩:=by
 obtain ⟨X,hX⟩:=avoid (p.x::L.map Pt.x)
 obtain ⟨X',hX'⟩:=avoid ((-p.x)::L.map fun q=> -q.x)
 obtain ⟨Y,hY⟩:=avoid (p.y::L.map Pt.y)
 obtain ⟨Y',hY'⟩:=avoid ((-p.y)::L.map fun q=> -q.y)
 have x1:=hX _ (List.mem_cons_self ..);have x2:∀ q∈L,q.x<X:=fun q hq=>hX _ (List.mem_cons_of_mem _ (List.mem_map.2 ⟨q,hq,rfl⟩))
 have x3:=hX' _ (List.mem_cons_self ..);have x4:∀ q∈L, -q.x<X':=fun q hq=>hX' _ (List.mem_cons_of_mem _ (List.mem_map.2 ⟨q,hq,rfl⟩))
 have y1:=hY _ (List.mem_cons_self ..);have y2:∀ q∈L,q.y<Y:=fun q hq=>hY _ (List.mem_cons_of_mem _ (List.mem_map.2 ⟨q,hq,rfl⟩))
 have y3:=hY' _ (List.mem_cons_self ..);have y4:∀ q∈L, -q.y<Y':=fun q hq=>hY' _ (List.mem_cons_of_mem _ (List.mem_map.2 ⟨q,hq,rfl⟩))
 have dv:∀ {a b:Rat},0<a→b≠0→(0<b)→0≤a/b∧a/b*b=a:=fun {a b} ha hb hp=>⟨Rat.le_of_lt (by rw [Rat.lt_div_iff hp];grind),Rat.div_mul_cancel hb⟩
 by_cases k1:0<v.x
 ·obtain ⟨d1,d2⟩:=dv (a:=X-p.x) (by grind) (by grind) k1
  refine ⟨_,d1,inP_odd h (odd_beside (.inl fun q hq=> ?_))⟩
  simp only [d2]
  have:=x2 q hq;grind
 by_cases k2:v.x<0
 ·obtain ⟨d1,d2⟩:=dv (a:=X'+p.x) (b:= -v.x) (by grind) (by grind) (by grind)
  refine ⟨_,d1,inP_odd h (odd_beside (.inr fun q hq=> ?_))⟩
  try simp only
  have:(X'+p.x)/ -v.x*v.x= -(X'+p.x):=by grind
  rw [this]
  have:=x4 q hq;grind
 have kx:v.x=0:=by grind
 by_cases k3:0<v.y
 ·obtain ⟨d1,d2⟩:=dv (a:=Y-p.y) (by grind) (by grind) k3
  refine ⟨_,d1,inP_odd h (odd_top fun q hq=> ?_)⟩
  simp only [d2]
  have:=y2 q hq;grind
 by_cases k4:v.y<0
 ·obtain ⟨d1,d2⟩:=dv (a:=Y'+p.y) (b:= -v.y) (by grind) (by grind) (by grind)
  refine ⟨_,d1,inP_odd h (odd_below fun q hq=> ?_)⟩
  try simp only
  have:(Y'+p.y)/ -v.y*v.y= -(Y'+p.y):=by grind
  rw [this]
  have:=y4 q hq;grind
 exact absurd (Pt.ext (by simp only;grind) (by simp only;grind)) hv
theorem inP_max (h:Valid L Hs) {u v:Pt} (hu:u∈cornP L Hs) (hv:v∈cornP L Hs) (hlt:cmpP u v<0) (hf:Free (sideP L Hs) u v) (hm:inP L Hs (pt u v (1/2))):(⟨u,v⟩:Sg)∈diagP L Hs:=by
 have hne:u≠v:=fun e=>by subst e;rw [cmpP_self] at hlt;omega
 have ok:(⟨u,v⟩:Sg).ok:=ok_iff.2 hne
 have half:∀ {s:Sg} {P Q:Pt},s∈sideP L Hs→P≠Q→onSeg s.a s.b P→onSeg u v P→onSeg s.a s.b Q→onSeg u v Q→False:=by
  intro s P Q hs hPQ p1 p2 q1 q2
  have mid:onSeg s.a s.b (pt P Q (1/2))∧onSeg u v (pt P Q (1/2)):=by
   have cv:∀ {a b:Pt},onSeg a b P→onSeg a b Q→onSeg a b (pt P Q (1/2)):=by
    rintro a b ⟨m,m0,m1,rfl⟩ ⟨n,n0,n1,rfl⟩
    exact ⟨m+1/2*(n-m),by grind,by grind,pt_pt ..⟩
   exact ⟨cv p1 q1,cv p2 q2⟩
  have ep:=hf s hs P p1 p2
  have eq:=hf s hs Q q1 q2
  have em:=hf s hs _ mid.1 mid.2
  have m1:pt P Q (1/2)=P→False:=fun e=>hPQ (by
   have h1:=congrArg Pt.x e;have h2:=congrArg Pt.y e
   unfold pt at h1 h2;simp only at h1 h2
   exact Pt.ext (by grind) (by grind))
  have m2:pt P Q (1/2)=Q→False:=fun e=>hPQ (by
   have h1:=congrArg Pt.x e;have h2:=congrArg Pt.y e
   unfold pt at h1 h2;simp only at h1 h2
   exact Pt.ext (by grind) (by grind))
  rcases ep with rfl|rfl<;>rcases eq with rfl|rfl
  ·exact hPQ rfl
  ·rcases em with e|e
   ·exact m1 e
   ·exact m2 e
  ·rcases em with e|e
   ·exact m2 e
   ·exact m1 e
  ·exact hPQ rfl
 have hb:blockedP (edgeP L Hs) ⟨u,v⟩=false:=by
  refine anyTo_false fun i hi=> ?_
  rw [List.getD_eq_getElem?_getD,List.getElem?_eq_getElem hi]
  simp only [Option.getD_some]
  have he:=List.getElem_mem hi
  generalize (edgeP L Hs)[i]=e at he
  have hs:e∈sideP L Hs:=List.mem_append_left _ he
  unfold blockB
  cases hm:meetM ⟨u,v⟩ e with
  |none=>rfl
  |some m=>
   obtain ⟨⟨a1,a2⟩,b1,b2⟩:=meet_mem hm
   simp only [Option.isSome_some,Option.getD_some,Bool.true_and]
   have e1:m.a=m.b:=Classical.byContradiction fun hn=>half hs hn a2 a1 b2 b1
   rw [decide_eq_false (fun k=>k e1),Bool.false_or]
   rcases hf e hs m.a a2 a1 with k|k
   ·rw [decide_eq_false (fun j=>j k),Bool.false_and]
   ·rw [decide_eq_false (fun j:m.a≠v=>j k),Bool.and_false]
 have hD:diagS L Hs ⟨u,v⟩=(true,0):=by
  unfold diagS
  rw [if_neg ok,if_pos ⟨hu,hv⟩]
  have:blockedP (edgesTo (L::Hs) (Hs.length+1)) ⟨u,v⟩=false:=hb
  rw [this]
  have hw:whereS L Hs (u.at v (1/2))=1:=by rw [at_pt];exact hm
  simp only [hw]
  rfl
 obtain ⟨x,hx,e⟩:=pair_of h hu hv hlt
 have:=diags_max (diagS L Hs) (ordP L Hs) (x:=x) (by rw [e];exact hD) _ [] hx
 rw [e] at this
 rcases this with k|⟨t,ht,hc⟩
 ·exact k
 ·exfalso
  have ht:t∈diagP L Hs:=ht
  obtain ⟨P,p1,p2,n1,n2,_⟩:=cross_mid hc
  rcases hf t (List.mem_append_right _ ht) P p2 p1 with k|k
  ·exact n1 k
  ·exact n2 k
theorem region (h:Valid L Hs):Region (cornP L Hs) (sideP L Hs) (inP L Hs):=by
 refine ⟨sideP_net h,fun p q hc hp=>inP_stay h (fun e he=>hc e (List.mem_append_left _ he)) hp,inP_far h,fun u hu v hv hne hf hm=> ?_⟩
 have hz:cmpP u v≠0:=fun e=>hne (cmpP_zero.1 e)
 by_cases hlt:cmpP u v<0
 ·exact ⟨_,List.mem_append_right _ (inP_max h hu hv hlt hf hm),.inl rfl⟩
 ·have hlt':cmpP v u<0:=by have:= @cmpP_flip u v;omega
  refine ⟨⟨v,u⟩,List.mem_append_right _ (inP_max h hv hu hlt' (fun s hs P p1 p2=>(hf s hs P p1 (onSeg_rev p2)).symm) ?_),.inr rfl⟩
  have e:pt v u (1/2)=pt u v (1/2):=Pt.ext (by unfold pt;simp only;grind) (by unfold pt;simp only;grind)
  rw [e];exact hm
end Go.Av
