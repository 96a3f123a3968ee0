/- Helping texts: Og, Oh, Oi. -/
import Derived.Test.YtkmlhdfpcjkekaaGreatKOe
set_option linter.unusedSimpArgs false
set_option linter.unusedVariables false
set_option maxRecDepth 100000
set_option maxHeartbeats 16000000
namespace Go.Av
variable {L:List Pt} {Hs:List (List Pt)}
theorem xl (a b c:Pt):fB a b c=jV (ar a b c) 0:=rfl
theorem nV {a b c:Pt}:0<fB a b c↔0<ar a b c:=by rw [xl,BB]
theorem wi {a b c:Pt}:fB a b c<0↔ar a b c<0:=by rw [xl,jk]
theorem xm (a b c:Pt): -1≤fB a b c∧fB a b c≤1:=by rw [xl];exact Hk _ _
theorem vD {a b f:Pt} (h:gY a b f=true):ar a b f=0:=iv (k9 h)
theorem PD (a b c f:Pt):ar a b c=ar a b f+ar b c f+ar c a f:=by unfold ar;grind
theorem sn {t:Tri} (ht:0<ar t.a t.b t.c) (f:Pt):0<jK t f↔InO t.a t.b t.c f:=by
 have tot:=PD t.a t.b t.c f
 have o1:=xm t.a t.b f;have o2:=xm t.b t.c f;have o3:=xm t.c t.a f
 unfold jK
 constructor
 ·intro h
  split at h
  ·omega
  ·split at h
   ·rename_i hn hc
    have p:0<fB t.a t.b f:=by
     apply Classical.byContradiction;intro k
     have n1:=wi.1 (show fB t.a t.b f<0 by omega)
     have n2:=wi.1 (show fB t.b t.c f<0 by omega)
     have n3:=wi.1 (show fB t.c t.a f<0 by omega)
     grind
    exact ⟨nV.1 p,nV.1 (by omega),nV.1 (by omega)⟩
   ·omega
 ·intro h
  have p1:=nV.2 h.a;have p2:=nV.2 h.b;have p3:=nV.2 h.c
  rw [if_neg,if_pos ⟨by omega,by omega,by omega⟩]
  ·omega
  ·rintro (k|k|k)
   ·have:=vD k;have:=h.a;grind
   ·have:=vD k;have:=h.b;grind
   ·have:=vD k;have:=h.c;grind
theorem DI {t:Tri} (ht:0<ar t.a t.b t.c) (f:Pt):0≤jK t f↔InT t.a t.b t.c f:=by
 have hab:t.a≠t.b:=fun e=>by rw [e] at ht;unfold ar at ht;grind
 have hbc:t.b≠t.c:=fun e=>by rw [e] at ht;unfold ar at ht;grind
 have hca:t.c≠t.a:=fun e=>by rw [e] at ht;unfold ar at ht;grind
 have h2:0<ar t.b t.c t.a:=by rw [ld];exact ht
 have h3:0<ar t.c t.a t.b:=by rw [ld];exact h2
 have side:∀ {p q r:Pt},0<ar p q r→aJ p q f→InT p q r f:=by
  rintro p q r hp ⟨m,m0,m1,rfl⟩
  refine ⟨by rw [jn,pk,pj];grind,?_,?_⟩
  ·have e:ar q r (pt p q m)=(1-m)*ar p q r:=by unfold ar pt;simp only;grind
   rw [e];exact aj (by grind) (ai hp)
  ·have e:ar r p (pt p q m)=m*ar p q r:=by unfold ar pt;simp only;grind
   rw [e];exact aj m0 (ai hp)
 constructor
 ·intro h
  by_cases hb:gY t.a t.b f=true∨gY t.b t.c f=true∨gY t.c t.a f=true
  ·rcases hb with k|k|k
   ·exact side ht (k9 k)
   ·exact (side h2 (k9 k)).rot.rot
   ·exact (side h3 (k9 k)).rot
  ·have:0<jK t f:=by
    unfold jK at h ⊢
    rw [if_neg hb] at h ⊢
    split at h
    ·rename_i hc;rw [if_pos hc];omega
    ·omega
   exact ((sn ht f).1 this).le
 ·intro h
  have z:∀ {x:Prop},x→jK t f=0∨0<jK t f→0≤jK t f:=fun _ k=>by omega
  by_cases hb:gY t.a t.b f=true∨gY t.b t.c f=true∨gY t.c t.a f=true
  ·unfold jK;rw [if_pos hb];omega
  ·have n1:ar t.a t.b f≠0:=fun e=>hb (.inl (oP (kM ht e h.b h.c) hab))
   have n2:ar t.b t.c f≠0:=fun e=>hb (.inr (.inl (oP (kM h2 e h.c h.a) hbc)))
   have n3:ar t.c t.a f≠0:=fun e=>hb (.inr (.inr (oP (kM h3 e h.a h.b) hca)))
   have:=(sn ht f).2 ⟨by have:=h.a;grind,by have:=h.b;grind,by have:=h.c;grind⟩
   omega
theorem Po {t:Tri} (ht:0<ar t.a t.b t.c):InO t.a t.b t.c (ctr t):=by
 have e1:ar t.a t.b (ctr t)=1/3*ar t.a t.b t.c:=by unfold ctr Pt.add Pt.smul ar;simp only;grind
 have e2:ar t.b t.c (ctr t)=1/3*ar t.a t.b t.c:=by unfold ctr Pt.add Pt.smul ar;simp only;grind
 have e3:ar t.c t.a (ctr t)=1/3*ar t.a t.b t.c:=by unfold ctr Pt.add Pt.smul ar;simp only;grind
 have:=au (show (0:Rat)<1/3 by decide+kernel) ht
 exact ⟨by rw [e1];exact this,by rw [e2];exact this,by rw [e3];exact this⟩
theorem Er {q:Pt} (h:0<gE L Hs q):gE L Hs q=1:=by
 have hp:=yO h
 exact pM hp
def Sy (L:List Pt) (Hs:List (List Pt)):List Sg:=rZ (kr L Hs) (gX L Hs)
theorem Ih (s:Sg):eF s s.order:=by
 unfold Sg.order;split
 ·exact .inr rfl
 ·exact .inl rfl
theorem eF.symm {s t:Sg} (h:eF s t):eF t s:=by
 rcases h with rfl|rfl
 ·exact .inl rfl
 ·exact .inr rfl
theorem xC (h:da L Hs) {s:Sg} (hs:s∈Sy L Hs):(∃ t∈fU L Hs,eF t s)∧bO s.a s.b<0:=by
 rcases yx.1 hs with k|k
 ·obtain ⟨e,he,rfl⟩:=av.1 k
  refine ⟨⟨e,bg _ he,Ih e⟩,?_⟩
  have hne:bO e.a e.b≠0:=fun q=>uG h he (c7.1 q)
  have:= @io e.a e.b
  unfold Sg.order;split<;>first|omega|(simp only;omega)
 ·refine ⟨⟨s,bC _ k,.inl rfl⟩,?_⟩
  rcases vv _ _ _ [] k with j|⟨x,hx,rfl⟩
  ·cases j
  ·exact (wh h hx).1
theorem zD (h:da L Hs) {u v:Pt} (hs:∃ t∈fU L Hs,eF t ⟨u,v⟩) (hlt:bO u v<0):(⟨u,v⟩:Sg)∈Sy L Hs:=by
 obtain ⟨t,ht,hst⟩:=hs
 have hf:= @io u v
 refine yx.2 ?_
 rcases aF.1 ht with k|k
 ·left
  refine av.2 ⟨t,k,?_⟩
  rcases hst with rfl|rfl
  ·unfold Sg.order;rw [if_neg (by simp only;omega)]
  ·unfold Sg.order Sg.rev;rw [if_pos (by simp only;omega)]
 ·right
  rcases hst with rfl|rfl
  ·exact k
  ·exfalso
   rcases vv _ _ _ [] k with j|⟨x,hx,e⟩
   ·cases j
   ·have:=(wh h hx).1
    rw [show prS (gW L Hs) x=Sg.rev ⟨u,v⟩ from e.symm] at this
    unfold Sg.rev at this;simp only at this;omega
theorem C9 {K:List Sg} {l:List Pt} {W:Pt→Int} {s:Sg} {t:Tri}:∀ {r:List Pt} {out:List Tri},t∈r.foldl (rS K l W s) out↔t∈out∨∃ q∈r,(sK K s q∧rH l W (jr s q))∧t=jr s q
 |[],out=>by simp
 |q::r,out=>by
  rw [List.foldl_cons,C9]
  have e:t∈rS K l W s out q↔t∈out∨((sK K s q∧rH l W (jr s q))∧t=jr s q):=by
   unfold rS;split
   ·rename_i hc;simp [hc]
   ·rename_i hc;simp [hc]
  rw [e]
  simp only [ay,exists_eq_or_imp,or_assoc]
theorem C8 {K:List Sg} {l:List Pt} {W:Pt→Int} {t:Tri} (m:List (Nat×Nat)):t∈ke K l W m↔∃ x∈m,prS l x∈K∧∃ q∈l,(sK K (prS l x) q∧rH l W (jr (prS l x) q))∧t=jr (prS l x) q:=by
 have:∀ (m:List (Nat×Nat)) (out:List Tri),t∈m.foldl (fun out x=>rT K l W out (prS l x)) out↔t∈out∨∃ x∈m,prS l x∈K∧∃ q∈l,(sK K (prS l x) q∧rH l W (jr (prS l x) q))∧t=jr (prS l x) q:=by
  intro m
  induction m with
  |nil=>intro out;simp
  |cons x m ih=>
   intro out
   rw [List.foldl_cons,ih]
   have e:t∈rT K l W out (prS l x)↔t∈out∨(prS l x∈K∧∃ q∈l,(sK K (prS l x) q∧rH l W (jr (prS l x) q))∧t=jr (prS l x) q):=by
    unfold rT;split
    ·rename_i hc;rw [C9];simp [hc]
    ·rename_i hc;simp [hc]
   rw [e]
   simp only [ay,exists_eq_or_imp,or_assoc]
 have:=this m []
 simpa [ke] using this
def oB (L:List Pt) (Hs:List (List Pt)):List Tri:=ke (Sy L Hs) (gW L Hs) (gE L Hs) (fL (gW L Hs).length (gW L Hs).length)
structure Em (L:List Pt) (Hs:List (List Pt)) (t:Tri):Prop where
 tr:TrS (dE L Hs) (fU L Hs) t.a t.b t.c
 i:∀ x,InO t.a t.b t.c x→inP L Hs x
 ab:bO t.a t.b<0
 ac:bO t.a t.c<0
theorem qD (h:da L Hs) {t:Tri} (ht:Em L Hs t):t∈oB L Hs:=by
 obtain ⟨tr,hi,ab,ac⟩:=ht
 have good:rH (gW L Hs) (gE L Hs) t:=by
  refine ⟨nV.2 tr.pos,by have:=hi _ (Po tr.pos);unfold inP at this;omega,lQ fun i hil=>ak fun k=> ?_⟩
  rw [ae,af hil] at k
  simp only [bG] at k
  have hm:=(m9 h).1 (bx hil)
  generalize (gW L Hs)[i]=f at k hm
  have hin:=(sn tr.pos f).1 k
  rcases tr.emp f hm hin.le with e|e|e
  ·rw [e] at hin;have:=hin.a;rw [pk] at this;exact absurd this aL
  ·rw [e] at hin;have:=hin.a;rw [pj] at this;exact absurd this aL
  ·rw [e] at hin;have:=hin.b;rw [pj] at this;exact absurd this aL
 have hz:bO t.b t.c≠0:=fun e=>by have:=c7.1 e;have hp:=tr.pos;rw [this] at hp;unfold ar at hp;grind
 have s3:∃ s∈fU L Hs,eF s ⟨t.a,t.c⟩:=by
  obtain ⟨s,hs,k⟩:=tr.s3
  refine ⟨s,hs,?_⟩
  rcases k with k|k
  ·exact .inr k
  ·exact .inl k
 have kab:=zD h tr.s1 ab
 have kac:=zD h s3 ac
 unfold oB
 rw [C8]
 by_cases bc:bO t.b t.c<0
 ·obtain ⟨x,hx,e⟩:=uz h tr.mp tr.mq ab
  have kbc:=zD h tr.s2 bc
  have et:jr ⟨t.a,t.b⟩ t.c=t:=by
   unfold jr
   rw [if_neg (by have:=nV.2 tr.pos;simp only;omega)]
  refine ⟨x,hx,by rw [e];exact kab,t.c,(m9 h).2 tr.mr,⟨by rw [e];exact ⟨bc,kac,kbc⟩,by rw [e,et];exact good⟩,by rw [e,et]⟩
 ·have cb:bO t.c t.b<0:=by have:= @io t.b t.c;omega
  obtain ⟨x,hx,e⟩:=uz h tr.mp tr.mr ac
  have s2:∃ s∈fU L Hs,eF s ⟨t.c,t.b⟩:=by
   obtain ⟨s,hs,k⟩:=tr.s2
   refine ⟨s,hs,?_⟩
   rcases k with k|k
   ·exact .inr k
   ·exact .inl k
  have kcb:=zD h s2 cb
  have et:jr ⟨t.a,t.c⟩ t.b=t:=by
   unfold jr
   rw [if_pos (by rw [wi];have:=tr.pos;have e:ar t.a t.c t.b= -ar t.a t.b t.c:=by unfold ar;grind
                  simp only;rw [e];grind)]
  refine ⟨x,hx,by rw [e];exact kac,t.b,(m9 h).2 tr.mq,⟨by rw [e];exact ⟨cb,kab,kcb⟩,by rw [e,et];exact good⟩,by rw [e,et]⟩
theorem nJ (h:da L Hs) {t:Tri} (ht:t∈oB L Hs):Em L Hs t:=by
 obtain ⟨x,hx,hk,q,hq,⟨⟨l1,l2,l3⟩,g1,g2,g3⟩,rfl⟩:=(C8 _).1 ht
 obtain ⟨_,ma,mb⟩:=wh h hx
 have hq':=(m9 h).1 hq
 generalize prS (gW L Hs) x=s at*
 obtain ⟨k1,ab⟩:=xC h hk
 obtain ⟨k2,aq⟩:=xC h l2
 obtain ⟨k3,bq⟩:=xC h l3
 have n:=pT h
 have pos:=nV.1 g1
 have rv:∀ {u v:Pt},(∃ t∈fU L Hs,eF t ⟨u,v⟩)→∃ t∈fU L Hs,eF t ⟨v,u⟩:=by
  rintro u v ⟨t,ht,k⟩
  refine ⟨t,ht,?_⟩
  rcases k with k|k
  ·exact .inr k
  ·exact .inl k
 have main:∀ (t:Tri),t=jr s q→t.a∈dE L Hs→t.b∈dE L Hs→t.c∈dE L Hs→(∃ s∈fU L Hs,eF s ⟨t.a,t.b⟩)→(∃ s∈fU L Hs,eF s ⟨t.b,t.c⟩)→(∃ s∈fU L Hs,eF s ⟨t.c,t.a⟩)→bO t.a t.b<0→bO t.a t.c<0→Em L Hs (jr s q):=by
  intro t ht m1 m2 m3 s1 s2 s3 lab lac
  rw [←ht] at pos g1 g2 g3 ⊢
  have p2:0<ar t.b t.c t.a:=by rw [ld];exact pos
  have p3:0<ar t.c t.a t.b:=by rw [ld];exact p2
  have onS:∀ {u v f:Pt},(∃ s∈fU L Hs,eF s ⟨u,v⟩)→f∈dE L Hs→aJ u v f→f=u∨f=v:=by
   rintro u v f ⟨s,hs,k⟩ hf ho
   rcases k with rfl|rfl
   ·exact n.on _ hs f hf ho
   ·exact (n.on _ hs f hf (cH ho)).symm
  have emp:∀ f∈dE L Hs,InT t.a t.b t.c f→f=t.a∨f=t.b∨f=t.c:=by
   intro f hf hin
   have hno:¬InO t.a t.b t.c f:=fun k=>by
    have:=(sn pos f).2 k
    obtain ⟨i,hi,rfl⟩:=bK.1 ((m9 h).2 hf)
    have g:=mP g3 hi
    rw [ae,af hi] at g
    exact of_decide_eq_false g this
   by_cases z1:ar t.a t.b f=0
   ·rcases onS s1 hf (kM pos z1 hin.b hin.c) with e|e
    ·exact .inl e
    ·exact .inr (.inl e)
   by_cases z2:ar t.b t.c f=0
   ·rcases onS s2 hf (kM p2 z2 hin.c hin.a) with e|e
    ·exact .inr (.inl e)
    ·exact .inr (.inr e)
   by_cases z3:ar t.c t.a f=0
   ·rcases onS s3 hf (kM p3 z3 hin.a hin.b) with e|e
    ·exact .inr (.inr e)
    ·exact .inl e
   exact absurd ⟨by have:=hin.a;grind,by have:=hin.b;grind,by have:=hin.c;grind⟩ hno
  have tr:TrS (dE L Hs) (fU L Hs) t.a t.b t.c:=⟨⟨pos,m1,m2,m3,n9 n s1,n9 n s2,n9 n s3,emp⟩,s1,s2,s3⟩
  have hI:inP L Hs (ctr t):=by
   exact Er g2
  exact ⟨tr,fun x hx=>tr.toTrE.allI (region h) (Po pos) hI hx,lab,lac⟩
 unfold jr at main ⊢ pos
 split
 ·rename_i ho
  rw [if_pos ho] at main
  exact main _ rfl ma hq' mb k2 (rv k3) (rv k1) aq ab
 ·rename_i ho
  rw [if_neg ho] at main
  exact main _ rfl ma mb hq' k1 k3 (rv k2) ab aq
end Go.Av
namespace Go.Av
variable {L:List Pt} {Hs:List (List Pt)}
def dsT (t:Tri):List (Pt×Pt):=[(t.a,t.b),(t.b,t.c),(t.c,t.a)]
theorem Em.third (h:da L Hs) {s t:Tri} (hs:Em L Hs s) (ht:Em L Hs t) {x:Pt×Pt} (h1:x∈dsT s) (h2:x∈dsT t):s=t:=by
 have n:=pT h
 have fin:(s.a=t.a∧s.b=t.b∧s.c=t.c)∨(s.a=t.b∧s.b=t.c∧s.c=t.a)∨(s.a=t.c∧s.b=t.a∧s.c=t.b)→s=t:=by
  rintro (⟨e1,e2,e3⟩|⟨e1,e2,e3⟩|⟨e1,e2,e3⟩)
  ·exact Tri.ext e1 e2 e3
  ·exfalso
   have a:=ht.ab;have b:=hs.ac
   rw [e1,e3] at b
   have:= @io t.a t.b;omega
  ·exfalso
   have a:=ht.ac;have b:=hs.ab
   rw [e1,e2] at b
   have:= @io t.a t.c;omega
 have T1:=hs.tr;have T2:=hs.tr.rot;have T3:=hs.tr.rot.rot
 have U1:=ht.tr;have U2:=ht.tr.rot;have U3:=ht.tr.rot.rot
 simp only [dsT,ay,List.not_mem_nil,or_false] at h1 h2
 have eq:∀ {a b c a' b' c':Pt},TrS (dE L Hs) (fU L Hs) a b c→TrS (dE L Hs) (fU L Hs) a' b' c'→(a,b)=(a',b')→a=a'∧b=b'∧c=c':=by
  intro a b c a' b' c' k1 k2 e
  obtain ⟨rfl,rfl⟩:=Prod.mk.injEq ..▸e
  exact ⟨rfl,rfl,(k1.third n k2).symm⟩
 rcases h1 with rfl|rfl|rfl<;>rcases h2 with e|e|e
 ·obtain ⟨a,b,c⟩:=eq T1 U1 e;exact fin (.inl ⟨a,b,c⟩)
 ·obtain ⟨a,b,c⟩:=eq T1 U2 e;exact fin (.inr (.inl ⟨a,b,c⟩))
 ·obtain ⟨a,b,c⟩:=eq T1 U3 e;exact fin (.inr (.inr ⟨a,b,c⟩))
 ·obtain ⟨a,b,c⟩:=eq T2 U1 e;exact fin (.inr (.inr ⟨c,a,b⟩))
 ·obtain ⟨a,b,c⟩:=eq T2 U2 e;exact fin (.inl ⟨c,a,b⟩)
 ·obtain ⟨a,b,c⟩:=eq T2 U3 e;exact fin (.inr (.inl ⟨c,a,b⟩))
 ·obtain ⟨a,b,c⟩:=eq T3 U1 e;exact fin (.inr (.inl ⟨b,c,a⟩))
 ·obtain ⟨a,b,c⟩:=eq T3 U2 e;exact fin (.inr (.inr ⟨b,c,a⟩))
 ·obtain ⟨a,b,c⟩:=eq T3 U3 e;exact fin (.inl ⟨b,c,a⟩)
theorem CP {s s':Sg} {q q':Pt} (h1:bO s.b q<0) (h2:bO s'.b q'<0) (e:jr s q=jr s' q'):s=s'∧q=q':=by
 have f1:= @io s.b q
 unfold jr at e
 split at e<;>split at e<;>(simp only [Tri.mk.injEq] at e;obtain ⟨a,b,c⟩:=e)
 ·exact ⟨Sg.ext a c,b⟩
 ·rw [←c,←b] at h2;omega
 ·rw [←c,←b] at h2;omega
 ·exact ⟨Sg.ext a b,c⟩
theorem HB (K:List Sg) (l:List Pt) (W:Pt→Int) (s:Sg):∀ (r:List Pt) (out:List Tri),r.foldl (rS K l W s) out=out++(r.filter fun q=>decide (sK K s q∧rH l W (jr s q))).map (jr s)
 |[],out=>by simp
 |q::r,out=>by
  rw [List.foldl_cons,HB K l W s r]
  unfold rS
  by_cases hc:sK K s q∧rH l W (jr s q)
  ·rw [if_pos hc,List.filter_cons,if_pos (an hc)];simp
  ·rw [if_neg hc,List.filter_cons,if_neg (by simpa using hc)]
theorem t7 {K:List Sg} {l:List Pt} {W:Pt→Int} (hl:l.Nodup):∀ (m:List (Nat×Nat)) (out:List Tri),(m.Pairwise fun x y=>prS l x≠prS l y)→out.Nodup→
 (∀ x∈m,∀ q,bO (prS l x).b q<0→jr (prS l x) q∉out)→(m.foldl (fun out x=>rT K l W out (prS l x)) out).Nodup
 |[],out,_,h,_=>h
 |x::m,out,hm,ho,hn=>by
  rw [qo] at hm
  rw [List.foldl_cons]
  have key:rT K l W out (prS l x)=out∨rT K l W out (prS l x)=out++(l.filter fun q=>decide (sK K (prS l x) q∧rH l W (jr (prS l x) q))).map (jr (prS l x)):=by
   unfold rT;split
   ·exact .inr (HB ..)
   ·exact .inl rfl
  rcases key with e|e
  ·rw [e]
   exact t7 hl m out hm.2 ho fun y hy=>hn y (ag _ hy)
  ·rw [e]
   have inF:∀ {q},q∈(l.filter fun q=>decide (sK K (prS l x) q∧rH l W (jr (prS l x) q)))→bO (prS l x).b q<0:=fun {q} hq=>by
    have:=(iD.1 hq).2
    exact (of_decide_eq_true this).1.1
   refine t7 hl m _ hm.2 ?_ ?_
   ·rw [mH]
    refine ⟨ho,?_,?_⟩
    ·refine List.pairwise_map.2 ((List.Pairwise.and_mem.1 (hl.filter _)).imp ?_)
     rintro p q ⟨hp,hq,hpq⟩ e
     exact hpq (CP (inF hp) (inF hq) e).2
    ·rintro a ha b hb rfl
     obtain ⟨q,hq,rfl⟩:=av.1 hb
     exact hn x (ah ..) q (inF hq) ha
   ·intro y hy q hq k
    rcases aF.1 k with k|k
    ·exact hn y (ag _ hy) q hq k
    ·obtain ⟨q',hq',e⟩:=av.1 k
     exact hm.1 y hy (CP (inF hq') hq e).1
theorem qU (n:Nat):∀ i,(fL n i).Nodup
 |0=>List.Pairwise.nil
 |i+1=>by
  rw [fL,mH]
  refine ⟨qU n i,?_,?_⟩
  ·refine List.pairwise_map.2 (List.nodup_range.imp ?_)
   intro a b hab e
   simp only [Prod.mk.injEq] at e
   omega
  ·rintro x hx y hy rfl
   obtain ⟨d,_,rfl⟩:=av.1 hy
   have:=(mD.1 hx).1
   simp only at this;omega
theorem Aq (h:da L Hs):(gW L Hs).Nodup:=(pU h).nodup_iff.2 (pa h)
theorem JN (h:da L Hs) {x y:Nat×Nat} (hx:x∈fL (gW L Hs).length (gW L Hs).length) (hy:y∈fL (gW L Hs).length (gW L Hs).length) (e:prS (gW L Hs) x=prS (gW L Hs) y):x=y:=by
 obtain ⟨x1,x2,x3⟩:=mD.1 hx
 obtain ⟨y1,y2,y3⟩:=mD.1 hy
 have hn:=Aq h
 unfold prS at e
 simp only [Sg.mk.injEq,ae,af x1,af x3,af y1,af y3,bG] at e
 have ix:∀ {i j:Nat} (hi:i<(gW L Hs).length) (hj:j<(gW L Hs).length),(gW L Hs)[i]=(gW L Hs)[j]→i=j:=by
  intro i j hi hj e
  rcases Nat.lt_trichotomy i j with k|k|k
  ·exact absurd e (bN.1 hn i j hi hj k)
  ·exact k
  ·exact absurd e.symm (bN.1 hn j i hj hi k)
 exact Prod.ext (ix x1 y1 e.1) (ix x3 y3 e.2)
theorem FW (h:da L Hs):(oB L Hs).Nodup:=by
 refine t7 (Aq h) _ [] ?_ List.Pairwise.nil (fun x _ q _ k=>by cases k)
 refine (List.Pairwise.and_mem.1 (qU (gW L Hs).length (gW L Hs).length)).imp ?_
 rintro x y ⟨hx,hy,hne⟩ e
 exact hne (JN h hx hy e)
theorem GA {α:Type} [DecidableEq α]:∀ (D M:List α),D.Nodup→(∀ x∈D,x∈M)→D.length≤M.length
 |[],_,_,_=>bh _
 |x::D,M,hn,hs=>by
  rw [cV] at hn
  have hx:=hs x (ah ..)
  have:=GA D (M.erase x) hn.2 fun y hy=>(List.mem_erase_of_ne (fun e=>hn.1 (by rw [←e];exact hy))).2 (hs y (ag _ hy))
  rw [List.length_erase_of_mem hx] at this
  have:=List.length_pos_of_mem hx
  simp only [aC];omega
theorem L3 {t:Tri} (h:0<ar t.a t.b t.c):(dsT t).Nodup:=by
 have hab:t.a≠t.b:=fun e=>by rw [e] at h;unfold ar at h;grind
 have hbc:t.b≠t.c:=fun e=>by rw [e] at h;unfold ar at h;grind
 have hca:t.c≠t.a:=fun e=>by rw [e] at h;unfold ar at h;grind
 unfold dsT
 simp only [cV,ay,List.not_mem_nil,or_false,Prod.mk.injEq,not_or,not_and,not_false_eq_true,List.nodup_nil,and_true]
 exact ⟨⟨fun e=>absurd e hab,fun e=>absurd e.symm hca⟩,fun e=>absurd e hbc⟩
theorem JQ:∀ n,n≤12→(fL n n).length≤66:=by decide
theorem KO (h:da L Hs) (hn:(dE L Hs).length≤12):(oB L Hs).length<50:=by
 have hl:(gW L Hs).length≤12:=by rw [(pU h).length_eq];exact hn
 have hD:((oB L Hs).flatMap dsT).Nodup:=by
  refine List.pairwise_flatMap.2 ⟨fun t ht=>L3 (nJ h ht).tr.pos,?_⟩
  refine (List.Pairwise.and_mem.1 (FW h)).imp ?_
  rintro s t ⟨hs,ht,hne⟩ x hx y hy rfl
  exact hne ((nJ h hs).third h (nJ h ht) hx hy)
 have hlen:∀ T:List Tri,(T.flatMap dsT).length=3*T.length:=by
  intro T
  induction T with
  |nil=>rfl
  |cons t T ih=>rw [List.flatMap_cons,aK,ih];simp only [dsT,aC,aI];omega
 have hM:∀ m:List (Nat×Nat),(m.flatMap fun x=>[((prS (gW L Hs) x).a,(prS (gW L Hs) x).b),((prS (gW L Hs) x).b,(prS (gW L Hs) x).a)]).length=2*m.length:=by
  intro m
  induction m with
  |nil=>rfl
  |cons t T ih=>rw [List.flatMap_cons,aK,ih];simp only [aC,aI];omega
 have mem:∀ {u v:Pt},u∈dE L Hs→v∈dE L Hs→u≠v→(u,v)∈((fL (gW L Hs).length (gW L Hs).length).flatMap fun x=>[((prS (gW L Hs) x).a,(prS (gW L Hs) x).b),((prS (gW L Hs) x).b,(prS (gW L Hs) x).a)]):=by
  intro u v hu hv hne
  have hz:bO u v≠0:=fun e=>hne (c7.1 e)
  by_cases hlt:bO u v<0
  ·obtain ⟨x,hx,e⟩:=uz h hu hv hlt
   exact List.mem_flatMap.2 ⟨x,hx,by rw [e];simp⟩
  ·obtain ⟨x,hx,e⟩:=uz h hv hu (by have:= @io u v;omega)
   exact List.mem_flatMap.2 ⟨x,hx,by rw [e];simp⟩
 have hsub:∀ x∈(oB L Hs).flatMap dsT,x∈((fL (gW L Hs).length (gW L Hs).length).flatMap fun x=>[((prS (gW L Hs) x).a,(prS (gW L Hs) x).b),((prS (gW L Hs) x).b,(prS (gW L Hs) x).a)]):=by
  intro x hx
  obtain ⟨t,ht,hxt⟩:=List.mem_flatMap.1 hx
  have k:=(nJ h ht).tr
  have hp:=k.pos
  have hab:t.a≠t.b:=fun e=>by rw [e] at hp;unfold ar at hp;grind
  have hbc:t.b≠t.c:=fun e=>by rw [e] at hp;unfold ar at hp;grind
  have hca:t.c≠t.a:=fun e=>by rw [e] at hp;unfold ar at hp;grind
  simp only [dsT,ay,List.not_mem_nil,or_false] at hxt
  rcases hxt with rfl|rfl|rfl
  ·exact mem k.mp k.mq hab
  ·exact mem k.mq k.mr hbc
  ·exact mem k.mr k.mp hca
 have:=GA _ _ hD hsub
 rw [hlen,hM] at this
 have:=JQ _ hl
 omega
end Go.Av
namespace Go.Av
variable {L:List Pt} {Hs:List (List Pt)}
theorem HQ (h:da L Hs) {a b c:Pt} (ht:TrS (dE L Hs) (fU L Hs) a b c) (hi:∀ x,InO a b c x→inP L Hs x):∃ t∈oB L Hs,(t=⟨a,b,c⟩∨t=⟨b,c,a⟩∨t=⟨c,a,b⟩):=by
 have hp:=ht.pos
 have hab:bO a b≠0:=fun e=>by have e:=c7.1 e;rw [e] at hp;unfold ar at hp;grind
 have hbc:bO b c≠0:=fun e=>by have e:=c7.1 e;rw [e] at hp;unfold ar at hp;grind
 have hca:bO c a≠0:=fun e=>by have e:=c7.1 e;rw [e] at hp;unfold ar at hp;grind
 have f1:= @io a b;have f2:= @io b c;have f3:= @io c a
 by_cases k1:bO a b<0
 ·by_cases k2:bO a c<0
  ·exact ⟨⟨a,b,c⟩,qD h ⟨ht,hi,k1,k2⟩,.inl rfl⟩
  ·have k3:bO c a<0:=by omega
   have k4:bO c b<0:=by
    have:=je (show bO c a≤0 by omega) (show bO a b≤0 by omega)
    omega
   exact ⟨⟨c,a,b⟩,qD h ⟨ht.rot.rot,fun x hx=>hi x hx.rot,k3,k4⟩,.inr (.inr rfl)⟩
 ·have k1':bO b a<0:=by omega
  by_cases k2:bO b c<0
  ·exact ⟨⟨b,c,a⟩,qD h ⟨ht.rot,fun x hx=>hi x hx.rot.rot,k2,k1'⟩,.inr (.inl rfl)⟩
  ·have k3:bO c b<0:=by omega
   have k4:bO c a<0:=by
    have:=je (show bO c b≤0 by omega) (show bO b a≤0 by omega)
    omega
   exact ⟨⟨c,a,b⟩,qD h ⟨ht.rot.rot,fun x hx=>hi x hx.rot,k4,k3⟩,.inr (.inr rfl)⟩
theorem DJ (h:da L Hs) {a b c q:Pt} (ht:TrS (dE L Hs) (fU L Hs) a b c) (hi:∀ x,InO a b c x→inP L Hs x) (hq:InT a b c q):∃ t∈oB L Hs,0≤jK t q:=by
 obtain ⟨t,htl,e⟩:=HQ h ht hi
 refine ⟨t,htl,(DI (nJ h htl).tr.pos q).2 ?_⟩
 rcases e with rfl|rfl|rfl
 ·exact hq
 ·exact hq.rot
 ·exact hq.rot.rot
theorem F9 (h:da L Hs) {s:Sg} (hs:s∈fU L Hs) {q:Pt} (hq:aJ s.a s.b q):∃ t∈oB L Hs,0≤jK t q:=by
 obtain ⟨a,b,c,k,ht,hi⟩:=M9 h hs
 have hab:aJ a b q:=by
  rcases k with rfl|rfl
  ·exact hq
  ·exact cH hq
 obtain ⟨m,m0,m1,rfl⟩:=hab
 have hp:=ht.pos
 refine DJ h ht hi ⟨by rw [jn,pk,pj];grind,?_,?_⟩
 ·have e:ar b c (pt a b m)=(1-m)*ar a b c:=by unfold ar pt;simp only;grind
  rw [e];exact aj (by grind) (ai hp)
 ·have e:ar c a (pt a b m)=m*ar a b c:=by unfold ar pt;simp only;grind
  rw [e];exact aj m0 (ai hp)
theorem FP (h:da L Hs) (q:Pt):gE L Hs q= -1∨gE L Hs q=0∨gE L Hs q=1:=by
 unfold gE qF
 split
 ·rename_i i hi
  have e:=List.find?_some hi
  have b:=CW ((L::Hs).getD i []) q
  unfold lX at e ⊢
  split
  ·rename_i hp;rw [if_pos hp] at e;simp at e;omega
  ·rename_i hp;rw [if_neg hp] at e;simp at e;omega
 ·exact .inr (.inr rfl)
theorem uY (h:da L Hs) {e:Sg} (he:e∈kr L Hs) {q:Pt} (hq:aJ e.a e.b q):gE L Hs q=0:=by
 obtain ⟨l,hl,hel⟩:=nI he
 exact (zV h q).2 ⟨l,hl,e,hel,hq⟩
theorem vw (h:da L Hs) {c:Pt} (hc:c∈dE L Hs):gE L Hs c=0:=by
 obtain ⟨e,he,rfl⟩:=uH hc
 exact uY h he (j8 _ _)
theorem Ab (h:da L Hs) {s:Sg} (hs:s∈fU L Hs) {q:Pt} (hq:aJ s.a s.b q):0≤gE L Hs q:=by
 rcases aF.1 hs with k|k
 ·rw [uY h k hq];omega
 ·obtain ⟨m,m0,m1,rfl⟩:=hq
  obtain ⟨_,ma,mb,_⟩:=kK (jA k)
  by_cases e0:m=0
  ·rw [e0,Gl,vw h ma];omega
  by_cases e1:m=1
  ·rw [e1,Ic,vw h mb];omega
  have:=Kn h.rgs (jA k) (t:=m) (by grind) (by grind)
  rw [yZ] at this
  rw [this];omega
theorem Sq (h:da L Hs) (q:Pt):0≤gE L Hs q↔∃ t∈oB L Hs,0≤jK t q:=by
 have n:=pT h
 constructor
 ·intro hw
  by_cases hs:∃ s∈fU L Hs,aJ s.a s.b q
  ·obtain ⟨s,hs,k⟩:=hs
   exact F9 h hs k
  ·have hc:q∉dE L Hs:=fun k=>by
    obtain ⟨e,he,rfl⟩:=uH k
    exact hs ⟨e,bg _ he,j8 _ _⟩
   have hI:inP L Hs q:=by
    rcases FP h q with e|e|e
    ·omega
    ·obtain ⟨l,hl,e',he',k⟩:=(zV h q).1 e
     exact absurd ⟨e',bg _ (kY hl he'),k⟩ hs
    ·exact e
   obtain ⟨a,b,c,hd,ht,hin⟩:=(region h).cover hI hc fun s hss k=>hs ⟨s,hss,k⟩
   exact DJ h ht (fun x hx=>ht.toTrE.allI (region h) hin hI hx) hin.le
 ·rintro ⟨t,ht,k⟩
  have T:=nJ h ht
  have hin:=(DI T.tr.pos q).1 k
  have p2:0<ar t.b t.c t.a:=T.tr.rot.pos
  have p3:0<ar t.c t.a t.b:=T.tr.rot.rot.pos
  have onS:∀ {u v:Pt},(∃ s∈fU L Hs,eF s ⟨u,v⟩)→aJ u v q→0≤gE L Hs q:=by
   rintro u v ⟨s,hs,e⟩ ho
   rcases e with rfl|rfl
   ·exact Ab h hs ho
   ·exact Ab h hs (cH ho)
  by_cases z1:ar t.a t.b q=0
  ·exact onS T.tr.s1 (kM T.tr.pos z1 hin.b hin.c)
  by_cases z2:ar t.b t.c q=0
  ·exact onS T.tr.s2 (kM p2 z2 hin.c hin.a)
  by_cases z3:ar t.c t.a q=0
  ·exact onS T.tr.s3 (kM p3 z3 hin.a hin.b)
  have:=T.i q ⟨by have:=hin.a;grind,by have:=hin.b;grind,by have:=hin.c;grind⟩
  unfold inP at this;omega
theorem ML (h:da L Hs):oB L Hs≠[]:=by
 obtain ⟨c,hc⟩:∃ c,c∈dE L Hs:=by
  cases e:dE L Hs with
  |nil=>exact absurd e (Bx h)
  |cons c _=>exact ⟨c,ah ..⟩
 obtain ⟨t,ht,_⟩:=(Sq h c).1 (by rw [vw h hc];omega)
 intro e;rw [e] at ht;cases ht
end Go.Av
