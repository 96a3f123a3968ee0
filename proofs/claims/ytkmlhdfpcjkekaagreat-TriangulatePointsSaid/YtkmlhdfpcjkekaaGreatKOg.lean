/- Helping texts: Og, Oh, Oi. -/
import Derived.Test.YtkmlhdfpcjkekaaGreatKOe
set_option linter.unusedSimpArgs false
set_option linter.unusedVariables false
set_option maxRecDepth 100000
set_option maxHeartbeats 16000000
namespace Go.Av
variable {L:List Pt} {Hs:List (List Pt)}
theorem orient_eq (a b c:Pt):orient a b c=cmpQ (ar a b c) 0:=rfl
theorem orient_p {a b c:Pt}:0<orient a b c↔0<ar a b c:=by rw [orient_eq,cmpQ_pos]
theorem orient_n {a b c:Pt}:orient a b c<0↔ar a b c<0:=by rw [orient_eq,cmpQ_lt]
theorem orient_bd (a b c:Pt): -1≤orient a b c∧orient a b c≤1:=by rw [orient_eq];exact cmpQ_abs _ _
theorem between_ar {a b f:Pt} (h:between a b f=true):ar a b f=0:=onSeg_ar (between_onSeg h)
theorem ar_total (a b c f:Pt):ar a b c=ar a b f+ar b c f+ar c a f:=by unfold ar;grind
theorem inside_pos {t:Tri} (ht:0<ar t.a t.b t.c) (f:Pt):0<insideT t f↔InO t.a t.b t.c f:=by
 have tot:=ar_total t.a t.b t.c f
 have o1:=orient_bd t.a t.b f;have o2:=orient_bd t.b t.c f;have o3:=orient_bd t.c t.a f
 unfold insideT
 constructor
 ·intro h
  split at h
  ·omega
  ·split at h
   ·rename_i hn hc
    have p:0<orient t.a t.b f:=by
     apply Classical.byContradiction;intro k
     have n1:=orient_n.1 (show orient t.a t.b f<0 by omega)
     have n2:=orient_n.1 (show orient t.b t.c f<0 by omega)
     have n3:=orient_n.1 (show orient t.c t.a f<0 by omega)
     grind
    exact ⟨orient_p.1 p,orient_p.1 (by omega),orient_p.1 (by omega)⟩
   ·omega
 ·intro h
  have p1:=orient_p.2 h.a;have p2:=orient_p.2 h.b;have p3:=orient_p.2 h.c
  rw [if_neg,if_pos ⟨by omega,by omega,by omega⟩]
  ·omega
  ·rintro (k|k|k)
   ·have:=between_ar k;have:=h.a;grind
   ·have:=between_ar k;have:=h.b;grind
   ·have:=between_ar k;have:=h.c;grind
theorem inside_nn {t:Tri} (ht:0<ar t.a t.b t.c) (f:Pt):0≤insideT t f↔InT t.a t.b t.c f:=by
 have hab:t.a≠t.b:=fun e=>by rw [e] at ht;unfold ar at ht;grind
 have hbc:t.b≠t.c:=fun e=>by rw [e] at ht;unfold ar at ht;grind
 have hca:t.c≠t.a:=fun e=>by rw [e] at ht;unfold ar at ht;grind
 have h2:0<ar t.b t.c t.a:=by rw [ar_cyc];exact ht
 have h3:0<ar t.c t.a t.b:=by rw [ar_cyc];exact h2
 have side:∀ {p q r:Pt},0<ar p q r→onSeg p q f→InT p q r f:=by
  rintro p q r hp ⟨m,m0,m1,rfl⟩
  refine ⟨by rw [ar_pt,ar_l,ar_r];grind,?_,?_⟩
  ·have e:ar q r (pt p q m)=(1-m)*ar p q r:=by unfold ar pt;simp only;grind
   rw [e];exact Rat.mul_nonneg (by grind) (Rat.le_of_lt hp)
  ·have e:ar r p (pt p q m)=m*ar p q r:=by unfold ar pt;simp only;grind
   rw [e];exact Rat.mul_nonneg m0 (Rat.le_of_lt hp)
 constructor
 ·intro h
  by_cases hb:between t.a t.b f=true∨between t.b t.c f=true∨between t.c t.a f=true
  ·rcases hb with k|k|k
   ·exact side ht (between_onSeg k)
   ·exact (side h2 (between_onSeg k)).rot.rot
   ·exact (side h3 (between_onSeg k)).rot
  ·have:0<insideT t f:=by
    unfold insideT at h ⊢
    rw [if_neg hb] at h ⊢
    split at h
    ·rename_i hc;rw [if_pos hc];omega
    ·omega
   exact ((inside_pos ht f).1 this).le
 ·intro h
  have z:∀ {x:Prop},x→insideT t f=0∨0<insideT t f→0≤insideT t f:=fun _ k=>by omega
  by_cases hb:between t.a t.b f=true∨between t.b t.c f=true∨between t.c t.a f=true
  ·unfold insideT;rw [if_pos hb];omega
  ·have n1:ar t.a t.b f≠0:=fun e=>hb (.inl (onSeg_between (on_side ht e h.b h.c) hab))
   have n2:ar t.b t.c f≠0:=fun e=>hb (.inr (.inl (onSeg_between (on_side h2 e h.c h.a) hbc)))
   have n3:ar t.c t.a f≠0:=fun e=>hb (.inr (.inr (onSeg_between (on_side h3 e h.a h.b) hca)))
   have:=(inside_pos ht f).2 ⟨by have:=h.a;grind,by have:=h.b;grind,by have:=h.c;grind⟩
   omega
theorem ctr_in {t:Tri} (ht:0<ar t.a t.b t.c):InO t.a t.b t.c (ctr t):=by
 have e1:ar t.a t.b (ctr t)=1/3*ar t.a t.b t.c:=by unfold ctr Pt.add Pt.smul ar;simp only;grind
 have e2:ar t.b t.c (ctr t)=1/3*ar t.a t.b t.c:=by unfold ctr Pt.add Pt.smul ar;simp only;grind
 have e3:ar t.c t.a (ctr t)=1/3*ar t.a t.b t.c:=by unfold ctr Pt.add Pt.smul ar;simp only;grind
 have:=Rat.mul_pos (show (0:Rat)<1/3 by decide+kernel) ht
 exact ⟨by rw [e1];exact this,by rw [e2];exact this,by rw [e3];exact this⟩
theorem where_one_of {q:Pt} (h:0<whereS L Hs q):whereS L Hs q=1:=by
 have hp:=firstLe_pos h
 exact firstLe_none hp
def keyP (L:List Pt) (Hs:List (List Pt)):List Sg:=sidesOf (edgeP L Hs) (diagP L Hs)
theorem order_same (s:Sg):SameS s s.order:=by
 unfold Sg.order;split
 ·exact .inr rfl
 ·exact .inl rfl
theorem SameS.symm {s t:Sg} (h:SameS s t):SameS t s:=by
 rcases h with rfl|rfl
 ·exact .inl rfl
 ·exact .inr rfl
theorem keyP_side (h:Valid L Hs) {s:Sg} (hs:s∈keyP L Hs):(∃ t∈sideP L Hs,SameS t s)∧cmpP s.a s.b<0:=by
 rcases mem_sidesOf.1 hs with k|k
 ·obtain ⟨e,he,rfl⟩:=List.mem_map.1 k
  refine ⟨⟨e,List.mem_append_left _ he,order_same e⟩,?_⟩
  have hne:cmpP e.a e.b≠0:=fun q=>edge_ne h he (cmpP_zero.1 q)
  have:= @cmpP_flip e.a e.b
  unfold Sg.order;split<;>first|omega|(simp only;omega)
 ·refine ⟨⟨s,List.mem_append_right _ k,.inl rfl⟩,?_⟩
  rcases diags_from _ _ _ [] k with j|⟨x,hx,rfl⟩
  ·cases j
  ·exact (pair_lt h hx).1
theorem keyP_of (h:Valid L Hs) {u v:Pt} (hs:∃ t∈sideP L Hs,SameS t ⟨u,v⟩) (hlt:cmpP u v<0):(⟨u,v⟩:Sg)∈keyP L Hs:=by
 obtain ⟨t,ht,hst⟩:=hs
 have hf:= @cmpP_flip u v
 refine mem_sidesOf.2 ?_
 rcases List.mem_append.1 ht with k|k
 ·left
  refine List.mem_map.2 ⟨t,k,?_⟩
  rcases hst with rfl|rfl
  ·unfold Sg.order;rw [if_neg (by simp only;omega)]
  ·unfold Sg.order Sg.rev;rw [if_pos (by simp only;omega)]
 ·right
  rcases hst with rfl|rfl
  ·exact k
  ·exfalso
   rcases diags_from _ _ _ [] k with j|⟨x,hx,e⟩
   ·cases j
   ·have:=(pair_lt h hx).1
    rw [show prS (ordP L Hs) x=Sg.rev ⟨u,v⟩ from e.symm] at this
    unfold Sg.rev at this;simp only at this;omega
theorem mem_addTs {K:List Sg} {l:List Pt} {W:Pt→Int} {s:Sg} {t:Tri}:∀ {r:List Pt} {out:List Tri},t∈r.foldl (addT K l W s) out↔t∈out∨∃ q∈r,(linkT K s q∧goodT l W (triOf s q))∧t=triOf s q
 |[],out=>by simp
 |q::r,out=>by
  rw [List.foldl_cons,mem_addTs]
  have e:t∈addT K l W s out q↔t∈out∨((linkT K s q∧goodT l W (triOf s q))∧t=triOf s q):=by
   unfold addT;split
   ·rename_i hc;simp [hc]
   ·rename_i hc;simp [hc]
  rw [e]
  simp only [List.mem_cons,exists_eq_or_imp,or_assoc]
theorem mem_build {K:List Sg} {l:List Pt} {W:Pt→Int} {t:Tri} (m:List (Nat×Nat)):t∈buildOf K l W m↔∃ x∈m,prS l x∈K∧∃ q∈l,(linkT K (prS l x) q∧goodT l W (triOf (prS l x) q))∧t=triOf (prS l x) q:=by
 have:∀ (m:List (Nat×Nat)) (out:List Tri),t∈m.foldl (fun out x=>addS K l W out (prS l x)) out↔t∈out∨∃ x∈m,prS l x∈K∧∃ q∈l,(linkT K (prS l x) q∧goodT l W (triOf (prS l x) q))∧t=triOf (prS l x) q:=by
  intro m
  induction m with
  |nil=>intro out;simp
  |cons x m ih=>
   intro out
   rw [List.foldl_cons,ih]
   have e:t∈addS K l W out (prS l x)↔t∈out∨(prS l x∈K∧∃ q∈l,(linkT K (prS l x) q∧goodT l W (triOf (prS l x) q))∧t=triOf (prS l x) q):=by
    unfold addS;split
    ·rename_i hc;rw [mem_addTs];simp [hc]
    ·rename_i hc;simp [hc]
   rw [e]
   simp only [List.mem_cons,exists_eq_or_imp,or_assoc]
 have:=this m []
 simpa [buildOf] using this
def trisP (L:List Pt) (Hs:List (List Pt)):List Tri:=buildOf (keyP L Hs) (ordP L Hs) (whereS L Hs) (pairsTo (ordP L Hs).length (ordP L Hs).length)
structure InTri (L:List Pt) (Hs:List (List Pt)) (t:Tri):Prop where
 tr:TrS (cornP L Hs) (sideP L Hs) t.a t.b t.c
 i:∀ x,InO t.a t.b t.c x→inP L Hs x
 ab:cmpP t.a t.b<0
 ac:cmpP t.a t.c<0
theorem inTri_build (h:Valid L Hs) {t:Tri} (ht:InTri L Hs t):t∈trisP L Hs:=by
 obtain ⟨tr,hi,ab,ac⟩:=ht
 have good:goodT (ordP L Hs) (whereS L Hs) t:=by
  refine ⟨orient_p.2 tr.pos,by have:=hi _ (ctr_in tr.pos);unfold inP at this;omega,anyTo_false fun i hil=>decide_eq_false fun k=> ?_⟩
  rw [List.getD_eq_getElem?_getD,List.getElem?_eq_getElem hil] at k
  simp only [Option.getD_some] at k
  have hm:=(ordP_mem h).1 (List.getElem_mem hil)
  generalize (ordP L Hs)[i]=f at k hm
  have hin:=(inside_pos tr.pos f).1 k
  rcases tr.emp f hm hin.le with e|e|e
  ·rw [e] at hin;have:=hin.a;rw [ar_l] at this;exact absurd this Rat.lt_irrefl
  ·rw [e] at hin;have:=hin.a;rw [ar_r] at this;exact absurd this Rat.lt_irrefl
  ·rw [e] at hin;have:=hin.b;rw [ar_r] at this;exact absurd this Rat.lt_irrefl
 have hz:cmpP t.b t.c≠0:=fun e=>by have:=cmpP_zero.1 e;have hp:=tr.pos;rw [this] at hp;unfold ar at hp;grind
 have s3:∃ s∈sideP L Hs,SameS s ⟨t.a,t.c⟩:=by
  obtain ⟨s,hs,k⟩:=tr.s3
  refine ⟨s,hs,?_⟩
  rcases k with k|k
  ·exact .inr k
  ·exact .inl k
 have kab:=keyP_of h tr.s1 ab
 have kac:=keyP_of h s3 ac
 unfold trisP
 rw [mem_build]
 by_cases bc:cmpP t.b t.c<0
 ·obtain ⟨x,hx,e⟩:=pair_of h tr.mp tr.mq ab
  have kbc:=keyP_of h tr.s2 bc
  have et:triOf ⟨t.a,t.b⟩ t.c=t:=by
   unfold triOf
   rw [if_neg (by have:=orient_p.2 tr.pos;simp only;omega)]
  refine ⟨x,hx,by rw [e];exact kab,t.c,(ordP_mem h).2 tr.mr,⟨by rw [e];exact ⟨bc,kac,kbc⟩,by rw [e,et];exact good⟩,by rw [e,et]⟩
 ·have cb:cmpP t.c t.b<0:=by have:= @cmpP_flip t.b t.c;omega
  obtain ⟨x,hx,e⟩:=pair_of h tr.mp tr.mr ac
  have s2:∃ s∈sideP L Hs,SameS s ⟨t.c,t.b⟩:=by
   obtain ⟨s,hs,k⟩:=tr.s2
   refine ⟨s,hs,?_⟩
   rcases k with k|k
   ·exact .inr k
   ·exact .inl k
  have kcb:=keyP_of h s2 cb
  have et:triOf ⟨t.a,t.c⟩ t.b=t:=by
   unfold triOf
   rw [if_pos (by rw [orient_n];have:=tr.pos;have e:ar t.a t.c t.b= -ar t.a t.b t.c:=by unfold ar;grind
                  simp only;rw [e];grind)]
  refine ⟨x,hx,by rw [e];exact kac,t.b,(ordP_mem h).2 tr.mq,⟨by rw [e];exact ⟨cb,kab,kcb⟩,by rw [e,et];exact good⟩,by rw [e,et]⟩
theorem build_inTri (h:Valid L Hs) {t:Tri} (ht:t∈trisP L Hs):InTri L Hs t:=by
 obtain ⟨x,hx,hk,q,hq,⟨⟨l1,l2,l3⟩,g1,g2,g3⟩,rfl⟩:=(mem_build _).1 ht
 obtain ⟨_,ma,mb⟩:=pair_lt h hx
 have hq':=(ordP_mem h).1 hq
 generalize prS (ordP L Hs) x=s at*
 obtain ⟨k1,ab⟩:=keyP_side h hk
 obtain ⟨k2,aq⟩:=keyP_side h l2
 obtain ⟨k3,bq⟩:=keyP_side h l3
 have n:=sideP_net h
 have pos:=orient_p.1 g1
 have rv:∀ {u v:Pt},(∃ t∈sideP L Hs,SameS t ⟨u,v⟩)→∃ t∈sideP L Hs,SameS t ⟨v,u⟩:=by
  rintro u v ⟨t,ht,k⟩
  refine ⟨t,ht,?_⟩
  rcases k with k|k
  ·exact .inr k
  ·exact .inl k
 have main:∀ (t:Tri),t=triOf s q→t.a∈cornP L Hs→t.b∈cornP L Hs→t.c∈cornP L Hs→(∃ s∈sideP L Hs,SameS s ⟨t.a,t.b⟩)→(∃ s∈sideP L Hs,SameS s ⟨t.b,t.c⟩)→(∃ s∈sideP L Hs,SameS s ⟨t.c,t.a⟩)→cmpP t.a t.b<0→cmpP t.a t.c<0→InTri L Hs (triOf s q):=by
  intro t ht m1 m2 m3 s1 s2 s3 lab lac
  rw [←ht] at pos g1 g2 g3 ⊢
  have p2:0<ar t.b t.c t.a:=by rw [ar_cyc];exact pos
  have p3:0<ar t.c t.a t.b:=by rw [ar_cyc];exact p2
  have onS:∀ {u v f:Pt},(∃ s∈sideP L Hs,SameS s ⟨u,v⟩)→f∈cornP L Hs→onSeg u v f→f=u∨f=v:=by
   rintro u v f ⟨s,hs,k⟩ hf ho
   rcases k with rfl|rfl
   ·exact n.on _ hs f hf ho
   ·exact (n.on _ hs f hf (onSeg_rev ho)).symm
  have emp:∀ f∈cornP L Hs,InT t.a t.b t.c f→f=t.a∨f=t.b∨f=t.c:=by
   intro f hf hin
   have hno:¬InO t.a t.b t.c f:=fun k=>by
    have:=(inside_pos pos f).2 k
    obtain ⟨i,hi,rfl⟩:=List.mem_iff_getElem.1 ((ordP_mem h).2 hf)
    have g:=anyTo_get g3 hi
    rw [List.getD_eq_getElem?_getD,List.getElem?_eq_getElem hi] at g
    exact of_decide_eq_false g this
   by_cases z1:ar t.a t.b f=0
   ·rcases onS s1 hf (on_side pos z1 hin.b hin.c) with e|e
    ·exact .inl e
    ·exact .inr (.inl e)
   by_cases z2:ar t.b t.c f=0
   ·rcases onS s2 hf (on_side p2 z2 hin.c hin.a) with e|e
    ·exact .inr (.inl e)
    ·exact .inr (.inr e)
   by_cases z3:ar t.c t.a f=0
   ·rcases onS s3 hf (on_side p3 z3 hin.a hin.b) with e|e
    ·exact .inr (.inr e)
    ·exact .inl e
   exact absurd ⟨by have:=hin.a;grind,by have:=hin.b;grind,by have:=hin.c;grind⟩ hno
  have tr:TrS (cornP L Hs) (sideP L Hs) t.a t.b t.c:=⟨⟨pos,m1,m2,m3,leg_side n s1,leg_side n s2,leg_side n s3,emp⟩,s1,s2,s3⟩
  have hI:inP L Hs (ctr t):=by
   exact where_one_of g2
  exact ⟨tr,fun x hx=>tr.toTrE.allI (region h) (ctr_in pos) hI hx,lab,lac⟩
 unfold triOf at main ⊢ pos
 split
 ·rename_i ho
  rw [if_pos ho] at main
  exact main _ rfl ma hq' mb k2 (rv k3) (rv k1) aq ab
 ·rename_i ho
  rw [if_neg ho] at main
  exact main _ rfl ma mb hq' k1 k3 (rv k2) ab aq
end Go.Av
namespace Go.Av
variable {L:List Pt} {Hs:List (List Pt)}
def dsT (t:Tri):List (Pt×Pt):=[(t.a,t.b),(t.b,t.c),(t.c,t.a)]
theorem InTri.third (h:Valid L Hs) {s t:Tri} (hs:InTri L Hs s) (ht:InTri L Hs t) {x:Pt×Pt} (h1:x∈dsT s) (h2:x∈dsT t):s=t:=by
 have n:=sideP_net h
 have fin:(s.a=t.a∧s.b=t.b∧s.c=t.c)∨(s.a=t.b∧s.b=t.c∧s.c=t.a)∨(s.a=t.c∧s.b=t.a∧s.c=t.b)→s=t:=by
  rintro (⟨e1,e2,e3⟩|⟨e1,e2,e3⟩|⟨e1,e2,e3⟩)
  ·exact Tri.ext e1 e2 e3
  ·exfalso
   have a:=ht.ab;have b:=hs.ac
   rw [e1,e3] at b
   have:= @cmpP_flip t.a t.b;omega
  ·exfalso
   have a:=ht.ac;have b:=hs.ab
   rw [e1,e2] at b
   have:= @cmpP_flip t.a t.c;omega
 have T1:=hs.tr;have T2:=hs.tr.rot;have T3:=hs.tr.rot.rot
 have U1:=ht.tr;have U2:=ht.tr.rot;have U3:=ht.tr.rot.rot
 simp only [dsT,List.mem_cons,List.not_mem_nil,or_false] at h1 h2
 have eq:∀ {a b c a' b' c':Pt},TrS (cornP L Hs) (sideP L Hs) a b c→TrS (cornP L Hs) (sideP L Hs) a' b' c'→(a,b)=(a',b')→a=a'∧b=b'∧c=c':=by
  intro a b c a' b' c' k1 k2 e
  obtain ⟨rfl,rfl⟩:=Prod.mk.injEq ..▸e
  exact ⟨rfl,rfl,(k1.third n k2).symm⟩
 rcases h1 with rfl|rfl|rfl<;>rcases h2 with e|e|e
 ·obtain ⟨a,b,c⟩:=eq T1 U1 e;exact fin (.inl ⟨a,b,c⟩)
 ·obtain ⟨a,b,c⟩:=eq T1 U2 e;exact fin (.inr (.inl ⟨a,b,c⟩))
 ·obtain ⟨a,b,c⟩:=eq T1 U3 e;exact fin (.inr (.inr ⟨a,b,c⟩))
 ·obtain ⟨a,b,c⟩:=eq T2 U1 e;exact fin (.inr (.inr ⟨c,a,b⟩))
 ·obtain ⟨a,b,c⟩:=eq T2 U2 e;exact fin (.inl ⟨c,a,b⟩)
 ·obtain ⟨a,b,c⟩:=eq T2 U3 e;exact fin (.inr (.inl ⟨c,a,b⟩))
 ·obtain ⟨a,b,c⟩:=eq T3 U1 e;exact fin (.inr (.inl ⟨b,c,a⟩))
 ·obtain ⟨a,b,c⟩:=eq T3 U2 e;exact fin (.inr (.inr ⟨b,c,a⟩))
 ·obtain ⟨a,b,c⟩:=eq T3 U3 e;exact fin (.inl ⟨b,c,a⟩)
theorem triOf_inj {s s':Sg} {q q':Pt} (h1:cmpP s.b q<0) (h2:cmpP s'.b q'<0) (e:triOf s q=triOf s' q'):s=s'∧q=q':=by
 have f1:= @cmpP_flip s.b q
 unfold triOf at e
 split at e<;>split at e<;>(simp only [Tri.mk.injEq] at e;obtain ⟨a,b,c⟩:=e)
 ·exact ⟨Sg.ext a c,b⟩
 ·rw [←c,←b] at h2;omega
 ·rw [←c,←b] at h2;omega
 ·exact ⟨Sg.ext a b,c⟩
theorem addTs_eq (K:List Sg) (l:List Pt) (W:Pt→Int) (s:Sg):∀ (r:List Pt) (out:List Tri),r.foldl (addT K l W s) out=out++(r.filter fun q=>decide (linkT K s q∧goodT l W (triOf s q))).map (triOf s)
 |[],out=>by simp
 |q::r,out=>by
  rw [List.foldl_cons,addTs_eq K l W s r]
  unfold addT
  by_cases hc:linkT K s q∧goodT l W (triOf s q)
  ·rw [if_pos hc,List.filter_cons,if_pos (decide_eq_true hc)];simp
  ·rw [if_neg hc,List.filter_cons,if_neg (by simpa using hc)]
theorem build_nodup {K:List Sg} {l:List Pt} {W:Pt→Int} (hl:l.Nodup):∀ (m:List (Nat×Nat)) (out:List Tri),(m.Pairwise fun x y=>prS l x≠prS l y)→out.Nodup→
 (∀ x∈m,∀ q,cmpP (prS l x).b q<0→triOf (prS l x) q∉out)→(m.foldl (fun out x=>addS K l W out (prS l x)) out).Nodup
 |[],out,_,h,_=>h
 |x::m,out,hm,ho,hn=>by
  rw [List.pairwise_cons] at hm
  rw [List.foldl_cons]
  have key:addS K l W out (prS l x)=out∨addS K l W out (prS l x)=out++(l.filter fun q=>decide (linkT K (prS l x) q∧goodT l W (triOf (prS l x) q))).map (triOf (prS l x)):=by
   unfold addS;split
   ·exact .inr (addTs_eq ..)
   ·exact .inl rfl
  rcases key with e|e
  ·rw [e]
   exact build_nodup hl m out hm.2 ho fun y hy=>hn y (List.mem_cons_of_mem _ hy)
  ·rw [e]
   have inF:∀ {q},q∈(l.filter fun q=>decide (linkT K (prS l x) q∧goodT l W (triOf (prS l x) q)))→cmpP (prS l x).b q<0:=fun {q} hq=>by
    have:=(List.mem_filter.1 hq).2
    exact (of_decide_eq_true this).1.1
   refine build_nodup hl m _ hm.2 ?_ ?_
   ·rw [List.nodup_append]
    refine ⟨ho,?_,?_⟩
    ·refine List.pairwise_map.2 ((List.Pairwise.and_mem.1 (hl.filter _)).imp ?_)
     rintro p q ⟨hp,hq,hpq⟩ e
     exact hpq (triOf_inj (inF hp) (inF hq) e).2
    ·rintro a ha b hb rfl
     obtain ⟨q,hq,rfl⟩:=List.mem_map.1 hb
     exact hn x (List.mem_cons_self ..) q (inF hq) ha
   ·intro y hy q hq k
    rcases List.mem_append.1 k with k|k
    ·exact hn y (List.mem_cons_of_mem _ hy) q hq k
    ·obtain ⟨q',hq',e⟩:=List.mem_map.1 k
     exact hm.1 y hy (triOf_inj (inF hq') hq e).1
theorem pairsTo_nodup (n:Nat):∀ i,(pairsTo n i).Nodup
 |0=>List.Pairwise.nil
 |i+1=>by
  rw [pairsTo,List.nodup_append]
  refine ⟨pairsTo_nodup n i,?_,?_⟩
  ·refine List.pairwise_map.2 (List.nodup_range.imp ?_)
   intro a b hab e
   simp only [Prod.mk.injEq] at e
   omega
  ·rintro x hx y hy rfl
   obtain ⟨d,_,rfl⟩:=List.mem_map.1 hy
   have:=(mem_pairsTo.1 hx).1
   simp only at this;omega
theorem ordP_nodup (h:Valid L Hs):(ordP L Hs).Nodup:=(ordP_perm h).nodup_iff.2 (cornP_nodup h)
theorem prS_inj (h:Valid L Hs) {x y:Nat×Nat} (hx:x∈pairsTo (ordP L Hs).length (ordP L Hs).length) (hy:y∈pairsTo (ordP L Hs).length (ordP L Hs).length) (e:prS (ordP L Hs) x=prS (ordP L Hs) y):x=y:=by
 obtain ⟨x1,x2,x3⟩:=mem_pairsTo.1 hx
 obtain ⟨y1,y2,y3⟩:=mem_pairsTo.1 hy
 have hn:=ordP_nodup h
 unfold prS at e
 simp only [Sg.mk.injEq,List.getD_eq_getElem?_getD,List.getElem?_eq_getElem x1,List.getElem?_eq_getElem x3,List.getElem?_eq_getElem y1,List.getElem?_eq_getElem y3,Option.getD_some] at e
 have ix:∀ {i j:Nat} (hi:i<(ordP L Hs).length) (hj:j<(ordP L Hs).length),(ordP L Hs)[i]=(ordP L Hs)[j]→i=j:=by
  intro i j hi hj e
  rcases Nat.lt_trichotomy i j with k|k|k
  ·exact absurd e (List.pairwise_iff_getElem.1 hn i j hi hj k)
  ·exact k
  ·exact absurd e.symm (List.pairwise_iff_getElem.1 hn j i hj hi k)
 exact Prod.ext (ix x1 y1 e.1) (ix x3 y3 e.2)
theorem trisP_nodup (h:Valid L Hs):(trisP L Hs).Nodup:=by
 refine build_nodup (ordP_nodup h) _ [] ?_ List.Pairwise.nil (fun x _ q _ k=>by cases k)
 refine (List.Pairwise.and_mem.1 (pairsTo_nodup (ordP L Hs).length (ordP L Hs).length)).imp ?_
 rintro x y ⟨hx,hy,hne⟩ e
 exact hne (prS_inj h hx hy e)
theorem nodup_le {α:Type} [DecidableEq α]:∀ (D M:List α),D.Nodup→(∀ x∈D,x∈M)→D.length≤M.length
 |[],_,_,_=>Nat.zero_le _
 |x::D,M,hn,hs=>by
  rw [List.nodup_cons] at hn
  have hx:=hs x (List.mem_cons_self ..)
  have:=nodup_le D (M.erase x) hn.2 fun y hy=>(List.mem_erase_of_ne (fun e=>hn.1 (by rw [←e];exact hy))).2 (hs y (List.mem_cons_of_mem _ hy))
  rw [List.length_erase_of_mem hx] at this
  have:=List.length_pos_of_mem hx
  simp only [List.length_cons];omega
theorem dsT_nodup {t:Tri} (h:0<ar t.a t.b t.c):(dsT t).Nodup:=by
 have hab:t.a≠t.b:=fun e=>by rw [e] at h;unfold ar at h;grind
 have hbc:t.b≠t.c:=fun e=>by rw [e] at h;unfold ar at h;grind
 have hca:t.c≠t.a:=fun e=>by rw [e] at h;unfold ar at h;grind
 unfold dsT
 simp only [List.nodup_cons,List.mem_cons,List.not_mem_nil,or_false,Prod.mk.injEq,not_or,not_and,not_false_eq_true,List.nodup_nil,and_true]
 exact ⟨⟨fun e=>absurd e hab,fun e=>absurd e.symm hca⟩,fun e=>absurd e hbc⟩
theorem pairs66:∀ n,n≤12→(pairsTo n n).length≤66:=by decide
theorem trisP_few (h:Valid L Hs) (hn:(cornP L Hs).length≤12):(trisP L Hs).length<50:=by
 have hl:(ordP L Hs).length≤12:=by rw [(ordP_perm h).length_eq];exact hn
 have hD:((trisP L Hs).flatMap dsT).Nodup:=by
  refine List.pairwise_flatMap.2 ⟨fun t ht=>dsT_nodup (build_inTri h ht).tr.pos,?_⟩
  refine (List.Pairwise.and_mem.1 (trisP_nodup h)).imp ?_
  rintro s t ⟨hs,ht,hne⟩ x hx y hy rfl
  exact hne ((build_inTri h hs).third h (build_inTri h ht) hx hy)
 have hlen:∀ T:List Tri,(T.flatMap dsT).length=3*T.length:=by
  intro T
  induction T with
  |nil=>rfl
  |cons t T ih=>rw [List.flatMap_cons,List.length_append,ih];simp only [dsT,List.length_cons,List.length_nil];omega
 have hM:∀ m:List (Nat×Nat),(m.flatMap fun x=>[((prS (ordP L Hs) x).a,(prS (ordP L Hs) x).b),((prS (ordP L Hs) x).b,(prS (ordP L Hs) x).a)]).length=2*m.length:=by
  intro m
  induction m with
  |nil=>rfl
  |cons t T ih=>rw [List.flatMap_cons,List.length_append,ih];simp only [List.length_cons,List.length_nil];omega
 have mem:∀ {u v:Pt},u∈cornP L Hs→v∈cornP L Hs→u≠v→(u,v)∈((pairsTo (ordP L Hs).length (ordP L Hs).length).flatMap fun x=>[((prS (ordP L Hs) x).a,(prS (ordP L Hs) x).b),((prS (ordP L Hs) x).b,(prS (ordP L Hs) x).a)]):=by
  intro u v hu hv hne
  have hz:cmpP u v≠0:=fun e=>hne (cmpP_zero.1 e)
  by_cases hlt:cmpP u v<0
  ·obtain ⟨x,hx,e⟩:=pair_of h hu hv hlt
   exact List.mem_flatMap.2 ⟨x,hx,by rw [e];simp⟩
  ·obtain ⟨x,hx,e⟩:=pair_of h hv hu (by have:= @cmpP_flip u v;omega)
   exact List.mem_flatMap.2 ⟨x,hx,by rw [e];simp⟩
 have hsub:∀ x∈(trisP L Hs).flatMap dsT,x∈((pairsTo (ordP L Hs).length (ordP L Hs).length).flatMap fun x=>[((prS (ordP L Hs) x).a,(prS (ordP L Hs) x).b),((prS (ordP L Hs) x).b,(prS (ordP L Hs) x).a)]):=by
  intro x hx
  obtain ⟨t,ht,hxt⟩:=List.mem_flatMap.1 hx
  have k:=(build_inTri h ht).tr
  have hp:=k.pos
  have hab:t.a≠t.b:=fun e=>by rw [e] at hp;unfold ar at hp;grind
  have hbc:t.b≠t.c:=fun e=>by rw [e] at hp;unfold ar at hp;grind
  have hca:t.c≠t.a:=fun e=>by rw [e] at hp;unfold ar at hp;grind
  simp only [dsT,List.mem_cons,List.not_mem_nil,or_false] at hxt
  rcases hxt with rfl|rfl|rfl
  ·exact mem k.mp k.mq hab
  ·exact mem k.mq k.mr hbc
  ·exact mem k.mr k.mp hca
 have:=nodup_le _ _ hD hsub
 rw [hlen,hM] at this
 have:=pairs66 _ hl
 omega
end Go.Av
namespace Go.Av
variable {L:List Pt} {Hs:List (List Pt)}
theorem tri_listed (h:Valid L Hs) {a b c:Pt} (ht:TrS (cornP L Hs) (sideP L Hs) a b c) (hi:∀ x,InO a b c x→inP L Hs x):∃ t∈trisP L Hs,(t=⟨a,b,c⟩∨t=⟨b,c,a⟩∨t=⟨c,a,b⟩):=by
 have hp:=ht.pos
 have hab:cmpP a b≠0:=fun e=>by have e:=cmpP_zero.1 e;rw [e] at hp;unfold ar at hp;grind
 have hbc:cmpP b c≠0:=fun e=>by have e:=cmpP_zero.1 e;rw [e] at hp;unfold ar at hp;grind
 have hca:cmpP c a≠0:=fun e=>by have e:=cmpP_zero.1 e;rw [e] at hp;unfold ar at hp;grind
 have f1:= @cmpP_flip a b;have f2:= @cmpP_flip b c;have f3:= @cmpP_flip c a
 by_cases k1:cmpP a b<0
 ·by_cases k2:cmpP a c<0
  ·exact ⟨⟨a,b,c⟩,inTri_build h ⟨ht,hi,k1,k2⟩,.inl rfl⟩
  ·have k3:cmpP c a<0:=by omega
   have k4:cmpP c b<0:=by
    have:=cmpP_le_trans (show cmpP c a≤0 by omega) (show cmpP a b≤0 by omega)
    omega
   exact ⟨⟨c,a,b⟩,inTri_build h ⟨ht.rot.rot,fun x hx=>hi x hx.rot,k3,k4⟩,.inr (.inr rfl)⟩
 ·have k1':cmpP b a<0:=by omega
  by_cases k2:cmpP b c<0
  ·exact ⟨⟨b,c,a⟩,inTri_build h ⟨ht.rot,fun x hx=>hi x hx.rot.rot,k2,k1'⟩,.inr (.inl rfl)⟩
  ·have k3:cmpP c b<0:=by omega
   have k4:cmpP c a<0:=by
    have:=cmpP_le_trans (show cmpP c b≤0 by omega) (show cmpP b a≤0 by omega)
    omega
   exact ⟨⟨c,a,b⟩,inTri_build h ⟨ht.rot.rot,fun x hx=>hi x hx.rot,k4,k3⟩,.inr (.inr rfl)⟩
theorem in_listed (h:Valid L Hs) {a b c q:Pt} (ht:TrS (cornP L Hs) (sideP L Hs) a b c) (hi:∀ x,InO a b c x→inP L Hs x) (hq:InT a b c q):∃ t∈trisP L Hs,0≤insideT t q:=by
 obtain ⟨t,htl,e⟩:=tri_listed h ht hi
 refine ⟨t,htl,(inside_nn (build_inTri h htl).tr.pos q).2 ?_⟩
 rcases e with rfl|rfl|rfl
 ·exact hq
 ·exact hq.rot
 ·exact hq.rot.rot
theorem side_listed (h:Valid L Hs) {s:Sg} (hs:s∈sideP L Hs) {q:Pt} (hq:onSeg s.a s.b q):∃ t∈trisP L Hs,0≤insideT t q:=by
 obtain ⟨a,b,c,k,ht,hi⟩:=side_tri h hs
 have hab:onSeg a b q:=by
  rcases k with rfl|rfl
  ·exact hq
  ·exact onSeg_rev hq
 obtain ⟨m,m0,m1,rfl⟩:=hab
 have hp:=ht.pos
 refine in_listed h ht hi ⟨by rw [ar_pt,ar_l,ar_r];grind,?_,?_⟩
 ·have e:ar b c (pt a b m)=(1-m)*ar a b c:=by unfold ar pt;simp only;grind
  rw [e];exact Rat.mul_nonneg (by grind) (Rat.le_of_lt hp)
 ·have e:ar c a (pt a b m)=m*ar a b c:=by unfold ar pt;simp only;grind
  rw [e];exact Rat.mul_nonneg m0 (Rat.le_of_lt hp)
theorem where_range (h:Valid L Hs) (q:Pt):whereS L Hs q= -1∨whereS L Hs q=0∨whereS L Hs q=1:=by
 unfold whereS firstLe
 split
 ·rename_i i hi
  have e:=List.find?_some hi
  have b:=sideS_abs ((L::Hs).getD i []) q
  unfold ringSide at e ⊢
  split
  ·rename_i hp;rw [if_pos hp] at e;simp at e;omega
  ·rename_i hp;rw [if_neg hp] at e;simp at e;omega
 ·exact .inr (.inr rfl)
theorem on_edge_where (h:Valid L Hs) {e:Sg} (he:e∈edgeP L Hs) {q:Pt} (hq:onSeg e.a e.b q):whereS L Hs q=0:=by
 obtain ⟨l,hl,hel⟩:=edgeP_mem he
 exact (where_zero h q).2 ⟨l,hl,e,hel,hq⟩
theorem corn_where (h:Valid L Hs) {c:Pt} (hc:c∈cornP L Hs):whereS L Hs c=0:=by
 obtain ⟨e,he,rfl⟩:=corn_edge hc
 exact on_edge_where h he (onSeg_l _ _)
theorem side_where (h:Valid L Hs) {s:Sg} (hs:s∈sideP L Hs) {q:Pt} (hq:onSeg s.a s.b q):0≤whereS L Hs q:=by
 rcases List.mem_append.1 hs with k|k
 ·rw [on_edge_where h k hq];omega
 ·obtain ⟨m,m0,m1,rfl⟩:=hq
  obtain ⟨_,ma,mb,_⟩:=diagS_true (diagP_true k)
  by_cases e0:m=0
  ·rw [e0,pt0',corn_where h ma];omega
  by_cases e1:m=1
  ·rw [e1,pt1',corn_where h mb];omega
  have:=diag_in h.rgs (diagP_true k) (t:=m) (by grind) (by grind)
  rw [at_pt] at this
  rw [this];omega
theorem points (h:Valid L Hs) (q:Pt):0≤whereS L Hs q↔∃ t∈trisP L Hs,0≤insideT t q:=by
 have n:=sideP_net h
 constructor
 ·intro hw
  by_cases hs:∃ s∈sideP L Hs,onSeg s.a s.b q
  ·obtain ⟨s,hs,k⟩:=hs
   exact side_listed h hs k
  ·have hc:q∉cornP L Hs:=fun k=>by
    obtain ⟨e,he,rfl⟩:=corn_edge k
    exact hs ⟨e,List.mem_append_left _ he,onSeg_l _ _⟩
   have hI:inP L Hs q:=by
    rcases where_range h q with e|e|e
    ·omega
    ·obtain ⟨l,hl,e',he',k⟩:=(where_zero h q).1 e
     exact absurd ⟨e',List.mem_append_left _ (edgeP_of hl he'),k⟩ hs
    ·exact e
   obtain ⟨a,b,c,hd,ht,hin⟩:=(region h).cover hI hc fun s hss k=>hs ⟨s,hss,k⟩
   exact in_listed h ht (fun x hx=>ht.toTrE.allI (region h) hin hI hx) hin.le
 ·rintro ⟨t,ht,k⟩
  have T:=build_inTri h ht
  have hin:=(inside_nn T.tr.pos q).1 k
  have p2:0<ar t.b t.c t.a:=T.tr.rot.pos
  have p3:0<ar t.c t.a t.b:=T.tr.rot.rot.pos
  have onS:∀ {u v:Pt},(∃ s∈sideP L Hs,SameS s ⟨u,v⟩)→onSeg u v q→0≤whereS L Hs q:=by
   rintro u v ⟨s,hs,e⟩ ho
   rcases e with rfl|rfl
   ·exact side_where h hs ho
   ·exact side_where h hs (onSeg_rev ho)
  by_cases z1:ar t.a t.b q=0
  ·exact onS T.tr.s1 (on_side T.tr.pos z1 hin.b hin.c)
  by_cases z2:ar t.b t.c q=0
  ·exact onS T.tr.s2 (on_side p2 z2 hin.c hin.a)
  by_cases z3:ar t.c t.a q=0
  ·exact onS T.tr.s3 (on_side p3 z3 hin.a hin.b)
  have:=T.i q ⟨by have:=hin.a;grind,by have:=hin.b;grind,by have:=hin.c;grind⟩
  unfold inP at this;omega
theorem trisP_ne (h:Valid L Hs):trisP L Hs≠[]:=by
 obtain ⟨c,hc⟩:∃ c,c∈cornP L Hs:=by
  cases e:cornP L Hs with
  |nil=>exact absurd e (cornP_ne h)
  |cons c _=>exact ⟨c,List.mem_cons_self ..⟩
 obtain ⟨t,ht,_⟩:=(points h c).1 (by rw [corn_where h hc];omega)
 intro e;rw [e] at ht;cases ht
def midT (t:Tri):Pt:=((t.a.add t.b).smul (1/2)|>.add t.c).smul (1/2)
theorem midT_in (h:Valid L Hs) {t:Tri} (ht:t∈trisP L Hs):whereS L Hs (midT t)=1:=by
 have T:=build_inTri h ht
 have hp:=T.tr.pos
 have e1:ar t.a t.b (midT t)=1/2*ar t.a t.b t.c:=by unfold midT Pt.add Pt.smul ar;simp only;grind
 have e2:ar t.b t.c (midT t)=1/4*ar t.a t.b t.c:=by unfold midT Pt.add Pt.smul ar;simp only;grind
 have e3:ar t.c t.a (midT t)=1/4*ar t.a t.b t.c:=by unfold midT Pt.add Pt.smul ar;simp only;grind
 exact T.i _ ⟨by rw [e1];exact Rat.mul_pos (by decide+kernel) hp,by rw [e2];exact Rat.mul_pos (by decide+kernel) hp,by rw [e3];exact Rat.mul_pos (by decide+kernel) hp⟩
end Go.Av
