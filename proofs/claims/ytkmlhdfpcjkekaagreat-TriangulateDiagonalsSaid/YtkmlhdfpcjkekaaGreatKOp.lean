/- Helping texts: Op, Oq, Lr, Ls. -/
import Derived.Test.YtkmlhdfpcjkekaaGreatKOl
import Derived.Test.YtkmlhdfpcjkekaaGreatKOg
import Derived.Test.YtkmlhdfpcjkekaaGreatKLq
set_option linter.unusedSimpArgs false
set_option linter.unusedVariables false
set_option maxRecDepth 100000
set_option maxHeartbeats 16000000
namespace Go.Av
variable {L:List Pt} {Hs:List (List Pt)}
theorem DS (Ls:List (List Pt)):∀ i,i≤Ls.length→bP Ls i=(Ls.take i).flatten
 |0,_=>rfl
 |i+1,h=>by
  rw [bP,DS Ls i (by omega),List.take_add_one,List.flatten_append,af (by omega),ae,af (by omega)]
  simp
theorem Hh (L:List Pt) (Hs:List (List Pt)):dE L Hs=L++Hs.flatten:=by
 unfold dE
 rw [DS (L::Hs) (Hs.length+1) (by simp),List.take_of_length_le (by simp)];rfl
theorem DR (Ls:List (List Pt)):∀ i,i≤Ls.length→eN Ls i=(Ls.take i).flatMap aU
 |0,_=>rfl
 |i+1,h=>by
  rw [eN,DR Ls i (by omega),List.take_add_one,List.flatMap_append,af (by omega),ae,af (by omega)]
  simp
theorem Pb (L:List Pt) (Hs:List (List Pt)):kr L Hs=vE L Hs:=by
 unfold kr
 rw [DR (L::Hs) (Hs.length+1) (by simp),List.take_of_length_le (by simp)];rfl
theorem L2 (L:List Pt) (Hs:List (List Pt)):(kr L Hs).length=(dE L Hs).length:=by
 have:=congrArg List.length (pX (L::Hs) (Hs.length+1))
 rw [az] at this;exact this
theorem G7 (h:da L Hs):(kr L Hs).Nodup:=by
 have:=pa h
 unfold dE at this
 rw [←pX] at this
 exact (List.pairwise_map.1 this).imp fun h e=>h (by rw [e])
theorem yS (D:Sg→Bool×Int) (l:List Pt) (m:List (Nat×Nat)):(jL D l m).Sublist (m.map (prS l)):=by
 have:∀ (m:List (Nat×Nat)) (out X:List Sg),out.Sublist X→(m.foldl (fun out x=>nK D out (prS l x)) out).Sublist (X++m.map (prS l)):=by
  intro m
  induction m with
  |nil=>intro out X h;simpa using h
  |cons x m ih=>
   intro out X h
   rw [List.foldl_cons]
   have h2:(nK D out (prS l x)).Sublist (X++[prS l x]):=by
    unfold nK
    split
    ·exact h.append (List.Sublist.refl _)
    ·exact h.trans (List.sublist_append_left ..)
   have:=ih _ _ h2
   rwa [bE] at this
 have:=this m [] [] (List.Sublist.refl _)
 simpa [jL] using this
theorem Bu (_h:da L Hs) {s:Sg} (hs:s∈gX L Hs):∃ x∈fL (gW L Hs).length (gW L Hs).length,prS (gW L Hs) x=s:=
 av.1 ((yS _ _ _).subset hs)
theorem DY (h:da L Hs) {s:Sg} (hs:s∈gX L Hs):bO s.a s.b<0:=by
 obtain ⟨x,hx,rfl⟩:=Bu h hs
 exact (wh h hx).1
theorem tW (h:da L Hs):(gX L Hs).Nodup:=by
 refine List.Nodup.sublist (yS _ _ _) ?_
 refine List.pairwise_map.2 ((List.Pairwise.and_mem.1 (qU (gW L Hs).length (gW L Hs).length)).imp ?_)
 rintro x y ⟨hx,hy,hne⟩ e
 exact hne (JN h hx hy e)
theorem yT (h:da L Hs) {s e:Sg} (hs:s∈gX L Hs) (he:e∈kr L Hs):¬eF e s:=fun k=>by
 have:=(pL h).1 (Hb h hs)
 refine this.1 e he ?_
 rcases k with rfl|rfl
 ·exact tx _ _
 ·exact cH (tx _ _)
theorem L1 (h:da L Hs) {e f:Sg} (he:e∈kr L Hs) (hf:f∈kr L Hs) (k:eF e f):e=f:=by
 have m1:aJ e.a e.b (pt f.a f.b (1/2)):=by
  rcases k with rfl|rfl
  ·exact tx _ _
  ·exact cH (tx _ _)
 rcases o8 h he hf m1 (tx _ _) with g|⟨_,g⟩
 ·exact g
 ·have:=ES (uG h hf)
  rcases g with g|g
  ·exact absurd g this.1
  ·exact absurd g this.2
theorem Hx (h:da L Hs) {e:Sg} (he:e∈kr L Hs) {l:List Pt} (hl:l∈L::Hs) (hel:e∈aU l):∃ v1 v2:Pt,ar e.a e.b v1≠0∧ar e.a e.b v2= -ar e.a e.b v1∧
 ∃ d:Rat,0<d∧∀ x,0<x→x≤d→bW l (pt (pt e.a e.b (1/2)) v1 x) l.length= !bW l (pt (pt e.a e.b (1/2)) v2 x) l.length:=by
 have hne:=uG h he
 have hR:=oT h hl
 generalize hMd:pt e.a e.b (1/2)=M
 have hM:aJ e.a e.b M:=by rw [←hMd];exact tx _ _
 have mm:∃ m:Rat,0<m∧m<1∧M=pt e.a e.b m:=⟨1/2,by decide+kernel,by decide+kernel,hMd.symm⟩
 have split:∀ (v1 v2 P:Pt) (d:Rat),0<d→v1.x-M.x= -(v2.x-M.x)→v1.y-M.y= -(v2.y-M.y)→aJ (pt M v1 d) (pt M v2 d) P→∃ x,0≤x∧x≤d∧(P=pt M v1 x∨P=pt M v2 x):=by
  rintro v1 v2 P d d0 ex ey ⟨m,m0,m1,rfl⟩
  rcases qlt (1/2) m with k|k
  ·have q0:=aj (show 0≤2*m-1 by grind) (ai d0)
   have q1:=aj (show 0≤2-2*m by grind) (ai d0)
   refine ⟨(2*m-1)*d,q0,by grind,.inr (Pt.ext ?_ ?_)⟩<;>(unfold pt;simp only;grind)
  ·have q0:=aj (show 0≤1-2*m by grind) (ai d0)
   have q1:=aj (show 0≤2*m by grind) (ai d0)
   refine ⟨(1-2*m)*d,q0,by grind,.inl (Pt.ext ?_ ?_)⟩<;>(unfold pt;simp only;grind)
 have arM:ar e.a e.b M=0:=iv hM
 have offE:∀ s∈aU l,s≠e→¬aJ s.a s.b M:=fun s hs hse k=>by
  rcases o8 h (kY hl hs) he k hM with j|j
  ·exact hse j
  ·have m:=ES hne
   rw [hMd] at m
   rcases j.2 with q|q
   ·exact m.1 q
   ·exact m.2 q
 have off:∀ v:Pt,∃ d:Rat,0<d∧d≤1∧∀ s∈aU l,s≠e→∀ x,0≤x→x≤d→¬aJ s.a s.b (pt M v x):=fun v=>by
  classical
  obtain ⟨d,d0,d1,hd⟩:=uC (M:=M) v ((aU l).filter fun s=>decide (s≠e)) (fun s hs=>by
   have:=iD.1 hs
   exact offE s this.1 (by simpa using this.2))
  exact ⟨d,d0,d1,fun s hs k=>hd s (iD.2 ⟨hs,by simpa using k⟩)⟩
 have both:∀ v1 v2:Pt,∃ d:Rat,0<d∧∀ s∈aU l,s≠e→∀ x,0≤x→x≤d→¬aJ s.a s.b (pt M v1 x)∧¬aJ s.a s.b (pt M v2 x):=fun v1 v2=>by
  obtain ⟨d1,d10,_,hd1⟩:=off v1
  obtain ⟨d2,d20,_,hd2⟩:=off v2
  rcases qlt d1 d2 with k|k
  ·exact ⟨d1,d10,fun s hs hse x x0 x1=>⟨hd1 s hs hse x x0 x1,hd2 s hs hse x x0 (by grind)⟩⟩
  ·exact ⟨d2,d20,fun s hs hse x x0 x1=>⟨hd1 s hs hse x x0 (by grind),hd2 s hs hse x x0 x1⟩⟩
 by_cases hy:e.a.y=e.b.y
 ·have hx:e.a.x≠e.b.x:=fun k=>hne (Pt.ext k hy)
  obtain ⟨d,d0,hc⟩:=both ⟨M.x,M.y-1⟩ ⟨M.x,M.y+1⟩
  refine ⟨⟨M.x,M.y-1⟩,⟨M.x,M.y+1⟩,?_,?_,d,d0,fun z z0 z1=> ?_⟩
  ·unfold ar at arM ⊢;simp only;grind
  ·unfold ar at arM ⊢;simp only;grind
  ·have e1:pt M ⟨M.x,M.y-1⟩ z=⟨M.x,M.y-z⟩:=Pt.ext (by unfold pt;simp only;grind) (by unfold pt;simp only;grind)
   have e2:pt M ⟨M.x,M.y+1⟩ z=⟨M.x,M.y+z⟩:=Pt.ext (by unfold pt;simp only;grind) (by unfold pt;simp only;grind)
   rw [e1,e2]
   refine O1 hR hel mm hy z0 fun s hs hse=> ?_
   rintro ⟨P,p1,p2⟩
   rw [←e1,←e2] at p1
   obtain ⟨x,x0,x1,k⟩:=split _ _ P z z0 (by simp only;grind) (by simp only;grind) p1
   have:=hc s hs hse x x0 (iy x1 z1)
   rcases k with k|k
   ·rw [k] at p2;exact this.1 p2
   ·rw [k] at p2;exact this.2 p2
 ·obtain ⟨d,d0,hc⟩:=both ⟨M.x-1,M.y⟩ ⟨M.x+1,M.y⟩
  refine ⟨⟨M.x-1,M.y⟩,⟨M.x+1,M.y⟩,?_,?_,d,d0,fun z z0 z1=> ?_⟩
  ·unfold ar at arM ⊢;simp only;grind
  ·unfold ar at arM ⊢;simp only;grind
  ·have e1:pt M ⟨M.x-1,M.y⟩ z=⟨M.x-z,M.y⟩:=Pt.ext (by unfold pt;simp only;grind) (by unfold pt;simp only;grind)
   have e2:pt M ⟨M.x+1,M.y⟩ z=⟨M.x+z,M.y⟩:=Pt.ext (by unfold pt;simp only;grind) (by unfold pt;simp only;grind)
   rw [e1,e2]
   refine O2 hR hel mm hy z0 fun s hs hse=> ?_
   rintro ⟨P,p1,p2⟩
   rw [←e1,←e2] at p1
   obtain ⟨x,x0,x1,k⟩:=split _ _ P z z0 (by simp only;grind) (by simp only;grind) p1
   have:=hc s hs hse x x0 (iy x1 z1)
   rcases k with k|k
   ·rw [k] at p2;exact this.1 p2
   ·rw [k] at p2;exact this.2 p2
theorem GB {a b c v:Pt} (hc:0<ar a b c) (hv:0<ar a b v):∃ d:Rat,0<d∧∀ x,0<x→x≤d→InO a b c (pt (pt a b (1/2)) v x):=by
 have m1:0<ar b c (pt a b (1/2)):=by
  have:ar b c (pt a b (1/2))=1/2*ar a b c:=by unfold ar pt;simp only;grind
  rw [this];exact au (by decide+kernel) hc
 have m2:0<ar c a (pt a b (1/2)):=by
  have:ar c a (pt a b (1/2))=1/2*ar a b c:=by unfold ar pt;simp only;grind
  rw [this];exact au (by decide+kernel) hc
 obtain ⟨d1,d10,_,h1⟩:=zk (ar b c v) m1
 obtain ⟨d2,d20,_,h2⟩:=zk (ar c a v) m2
 have fin:∀ d,0<d→d≤d1→d≤d2→∀ x,0<x→x≤d→InO a b c (pt (pt a b (1/2)) v x):=fun d d0 k1 k2 x x0 x1=>
  ⟨by rw [Jc];exact au x0 hv,by rw [bm];exact h1 x (ai x0) (iy x1 k1),by rw [bm];exact h2 x (ai x0) (iy x1 k2)⟩
 rcases qlt d1 d2 with k|k
 ·exact ⟨d1,d10,fin d1 d10 Rat.le_refl (ai k)⟩
 ·exact ⟨d2,d20,fin d2 d20 k Rat.le_refl⟩
theorem Pa (h:da L Hs) {e:Sg} (he:e∈kr L Hs) (h1:Dir (fU L Hs) (inP L Hs) e.a e.b) (h2:Dir (fU L Hs) (inP L Hs) e.b e.a):False:=by
 have R:=region h
 obtain ⟨c1,T1,_,_,i1⟩:=R.tri h1
 obtain ⟨c2,T2,_,_,i2⟩:=R.tri h2
 obtain ⟨l,hl,hel⟩:=nI he
 obtain ⟨v1,v2,a1,a2,d,d0,hfl⟩:=Hx h he hl hel
 have key:∀ u w:Pt,0<ar e.a e.b u→ar e.a e.b w<0→∃ x:Rat,0<x∧x≤d∧inP L Hs (pt (pt e.a e.b (1/2)) u x)∧inP L Hs (pt (pt e.a e.b (1/2)) w x):=fun u w hu hw=>by
  obtain ⟨x1,x10,k1⟩:=GB T1.pos hu
  obtain ⟨x2,x20,k2⟩:=GB T2.pos (v:=w) (by rw [Ky];grind)
  rw [GE] at k2
  have:∃ x:Rat,0<x∧x≤d∧x≤x1∧x≤x2:=by
   rcases qlt d x1 with g|g<;>rcases qlt d x2 with g'|g'<;>rcases qlt x1 x2 with g''|g''
   ·exact ⟨d,d0,Rat.le_refl,ai g,ai g'⟩
   ·exact ⟨d,d0,Rat.le_refl,ai g,ai g'⟩
   ·exact ⟨x2,x20,g',by grind,Rat.le_refl⟩
   ·exact ⟨x2,x20,g',by grind,Rat.le_refl⟩
   ·exact ⟨x1,x10,g,Rat.le_refl,by grind⟩
   ·exact ⟨x1,x10,g,Rat.le_refl,by grind⟩
   ·exact ⟨x1,x10,g,Rat.le_refl,by grind⟩
   ·exact ⟨x2,x20,g',by grind,Rat.le_refl⟩
  obtain ⟨x,x0,k3,k4,k5⟩:=this
  exact ⟨x,x0,k3,i1 _ (k1 x x0 k4),i2 _ (k2 x x0 k5)⟩
 have fin:∀ x,0<x→x≤d→inP L Hs (pt (pt e.a e.b (1/2)) v1 x)→inP L Hs (pt (pt e.a e.b (1/2)) v2 x)→False:=fun x x0 x1 k1 k2=>by
  have f:=hfl x x0 x1
  have k1:=(pL h).1 k1
  have k2:=(pL h).1 k2
  rcases ay.1 hl with rfl|hl
  ·rw [k1.2.1,k2.2.1] at f;cases f
  ·rw [k1.2.2 l hl,k2.2.2 l hl] at f;cases f
 rcases eH (ar e.a e.b v1) 0 with k|k|k
 ·obtain ⟨x,x0,x1,g1,g2⟩:=key v2 v1 (by grind) k
  exact fin x x0 x1 g2 g1
 ·exact a1 k
 ·obtain ⟨x,x0,x1,g1,g2⟩:=key v1 v2 k (by grind)
  exact fin x x0 x1 g1 g2
noncomputable def NV (L:List Pt) (Hs:List (List Pt)) (e:Sg):Sg:= @ite _ (Dir (fU L Hs) (inP L Hs) e.a e.b) (Classical.propDecidable _) e e.rev
theorem wj (e:Sg):eF (NV L Hs e) e:=by
 unfold NV
 split
 ·exact .inl rfl
 ·exact .inr rfl
noncomputable def G9 (L:List Pt) (Hs:List (List Pt)):List Sg:=(kr L Hs).map (NV L Hs)++(gX L Hs++(gX L Hs).map Sg.rev)
theorem eF.trans {s t u:Sg} (h1:eF s t) (h2:eF t u):eF s u:=by
 rcases h1 with rfl|rfl<;>rcases h2 with rfl|rfl
 ·exact .inl rfl
 ·exact .inr rfl
 ·exact .inr rfl
 ·exact .inl rfl
theorem Ph (L:List Pt) (Hs:List (List Pt)):(G9 L Hs).length=(dE L Hs).length+2*(gX L Hs).length:=by
 unfold G9
 rw [aK,aK,az,az,L2];omega
theorem G8 (h:da L Hs) (s:Sg):s∈G9 L Hs↔Dir (fU L Hs) (inP L Hs) s.a s.b:=by
 unfold G9
 constructor
 ·intro k
  rcases aF.1 k with k|k
  ·obtain ⟨e,he,rfl⟩:=av.1 k
   unfold NV
   split
   ·assumption
   ·rename_i g
    exact (G6 h he).resolve_left g
  ·rcases aF.1 k with k|k
   ·exact (Bt h k).1
   ·obtain ⟨e,he,rfl⟩:=av.1 k
    exact (Bt h he).2
 ·intro k
  obtain ⟨t,ht,hst⟩:=k.1
  have hst:t=s∨t=s.rev:=hst
  rcases aF.1 ht with ht|ht
  ·refine bg _ (av.2 ⟨t,ht,?_⟩)
   unfold NV
   rcases hst with rfl|rfl
   ·rw [if_pos k]
   ·rw [if_neg fun g=>Pa h ht g k];rfl
  ·refine bC _ ?_
   rcases hst with rfl|rfl
   ·exact bg _ ht
   ·exact bC _ (av.2 ⟨_,ht,rfl⟩)
theorem IT (h:da L Hs):(G9 L Hs).Nodup:=by
 unfold G9
 refine mH.2 ⟨?_,mH.2 ⟨tW h,?_,fun s hs t ht e=> ?_⟩,fun s hs t ht e=> ?_⟩
 ·refine List.pairwise_map.2 ((List.Pairwise.and_mem.1 (G7 h)).imp ?_)
  rintro e f ⟨he,hf,hne⟩ k
  refine hne (L1 h he hf ?_)
  exact ((wj e).symm.trans (by rw [k];exact .inl rfl)).trans (wj f)
 ·exact List.pairwise_map.2 ((tW h).imp fun hne e=>hne (by have:=congrArg Sg.rev e;exact this))
 ·obtain ⟨t,ht',rfl⟩:=av.1 ht
  have k1:=DY h hs
  have k2:=DY h ht'
  rw [e] at k1
  have k1:bO t.b t.a<0:=k1
  have:= @io t.a t.b
  omega
 ·obtain ⟨f,hf,rfl⟩:=av.1 hs
  rcases aF.1 ht with ht|ht
  ·exact yT h ht hf ((wj f).symm.trans (.inl e))
  ·obtain ⟨t,ht',rfl⟩:=av.1 ht
   exact yT h ht' hf (((wj f).symm.trans (.inl e)).trans (.inr rfl))
end Go.Av
namespace Go.Av
variable {L:List Pt} {Hs:List (List Pt)}
theorem KW (C:List Pt):∃ k:Rat,∀ c∈C.map (shy k).ap,∀ d∈C.map (shy k).ap,c≠d→c.y≠d.y:=by
 classical
 obtain ⟨k,hk⟩:=yq ((C.flatMap fun c=>(C.filter fun d=>decide (c≠d)).map fun d=>(⟨c,d⟩:Sg))) (fun s hs=>by
  obtain ⟨c,_,h⟩:=List.mem_flatMap.1 hs
  obtain ⟨d,hd,rfl⟩:=av.1 h
  have:=(iD.1 hd).2
  simpa using this)
 refine ⟨k,fun c hc d hd hne=> ?_⟩
 obtain ⟨c,h1,rfl⟩:=av.1 hc
 obtain ⟨d,h2,rfl⟩:=av.1 hd
 have hcd:c≠d:=fun e=>hne (by rw [e])
 exact hk _ (av.2 ⟨⟨c,d⟩,List.mem_flatMap.2 ⟨c,h1,av.2 ⟨d,iD.2 ⟨h2,by simpa using hcd⟩,rfl⟩⟩,rfl⟩)
theorem AC {l:List Pt} {t:Aff} (ht:t.det≠0) (h:l.Nodup):(l.map t.ap).Nodup:=List.pairwise_map.2 (h.imp fun hne e=>hne (ra ht e))
theorem CX (k:Rat) (q:Pt):(shy k).ap ((shy (-k)).ap q)=q:=by
 refine Pt.ext ?_ ?_<;>(unfold Aff.ap shy;simp only;grind)
theorem NB (k:Rat) (q:Pt):(shy (-k)).ap ((shy k).ap q)=q:=by
 refine Pt.ext ?_ ?_<;>(unfold Aff.ap shy;simp only;grind)
theorem Br {l:List Pt} (hl:l∈L::Hs) {s:Sg} (hs:s∈aU l):s∈fU L Hs:=bg _ (kY hl hs)
theorem Pp {l:List Pt} (hl:l∈L::Hs) {p:Pt} (hp:p∈l):p∈dE L Hs:=by
 rw [Hh]
 rcases ay.1 hl with rfl|hl
 ·exact bg _ hp
 ·exact bC _ (List.mem_flatten.2 ⟨l,hl,hp⟩)
theorem PG (L:List Pt) (Hs:List (List Pt)) (g:Pt→Pt):vE (L.map g) (Hs.map fun l=>l.map g)=(vE L Hs).map fun s=>s.map g:=by
 unfold vE
 rw [bz,l7]
 congr 1
 induction Hs with
 |nil=>rfl
 |cons x X ih=>rw [aY,List.flatMap_cons,List.flatMap_cons,bz,ih,l7]
theorem IU (h:da L Hs):(G9 L Hs).length+6=3*((dE L Hs).length+2*Hs.length):=by
 obtain ⟨k,hk⟩:=KW (dE L Hs)
 have R:=region h
 have hdet:0<(shy k).det:=by rw [zu];decide+kernel
 have h0:=Sh k
 have R':=R.map h0 (CX k) (NB k)
 have N':vF (L.map (shy k).ap) (Hs.map fun l=>l.map (shy k).ap):=h.nest.map (EM k) hdet
 have inj:∀ {p q:Pt},(shy k).ap p=(shy k).ap q→p=q:=fun e=>ra h0 e
 have cN:=pa h
 have hC':((dE L Hs).map (shy k).ap).Nodup:=AC h0 cN
 have hDn:((G9 L Hs).map fun s=>s.map (shy k).ap).Nodup:=List.pairwise_map.2 ((IT h).imp fun hne e=>hne (HZ inj e))
 have eqC:(dE L Hs).map (shy k).ap=L.map (shy k).ap++(Hs.map fun l=>l.map (shy k).ap).flatten:=by
  rw [Hh,bz,List.map_flatten]
 have cnt:=R'.count_wt (E:=vE (L.map (shy k).ap) (Hs.map fun l=>l.map (shy k).ap)) hDn (fun s=> ?_) hC' hk (fun s hs=> ?_) (fun q hq=> ?_)
 ·have sum:=N'.sum (fun l hl=> ?_) (fun l hl=> ?_)
  ·rw [az] at cnt
   rw [←eqC,az,az] at sum
   omega
  ·obtain ⟨m,hm,rfl⟩:∃ m∈L::Hs,l=m.map (shy k).ap:=by
    rcases ay.1 hl with rfl|hl
    ·exact ⟨L,ah ..,rfl⟩
    ·obtain ⟨m,hm,rfl⟩:=av.1 hl
     exact ⟨m,ag _ hm,rfl⟩
   have hR:=oT h hm
   cases m with
   |nil=>exact absurd rfl hR.ne
   |cons v M=>
    have sub:∀ p∈(v::M).map (shy k).ap,p∈(dE L Hs).map (shy k).ap:=fun p hp=>by
     obtain ⟨p,h1,rfl⟩:=av.1 hp
     exact av.2 ⟨p,Pp hm h1,rfl⟩
    refine ⟨_,_,rfl,?_,?_,fun a ha b hb=>hk a (sub a ha) b (sub b hb)⟩
    ·refine R'.net.sub sub (fun s hs=> ?_) (fun s hs=>(iA hs).1) (fun s hs=>(iA hs).2)
     rw [←yR] at hs
     have hs:s∈aU ((v::M).map (shy k).ap):=hs
     rw [l7] at hs
     obtain ⟨s,h1,rfl⟩:=av.1 hs
     exact av.2 ⟨s,Br hm h1,rfl⟩
    ·exact AC h0 hR.nodup
  ·rcases ay.1 hl with rfl|hl
   ·rw [az];exact h.out.lo
   ·obtain ⟨m,hm,rfl⟩:=av.1 hl
    rw [az];exact (h.holes m hm).lo
 ·constructor
  ·intro hs
   obtain ⟨s,h1,rfl⟩:=av.1 hs
   exact (Dir.map_iff hdet (CX k) (NB k)).2 ((G8 h s).1 h1)
  ·intro hs
   have e:s=(s.map (shy (-k)).ap).map (shy k).ap:=by cases s;unfold Sg.map;simp only [CX]
   rw [e] at hs ⊢
   exact av.2 ⟨_,(G8 h _).2 ((Dir.map_iff hdet (CX k) (NB k)).1 hs),rfl⟩
 ·rw [PG,←Pb] at hs
  obtain ⟨s,h1,rfl⟩:=av.1 hs
  exact av.2 ⟨s,bg _ h1,rfl⟩
 ·have hon:∀ l∈L::Hs,∀ s∈aU l,¬aJ s.a s.b ((shy (-k)).ap q):=fun l hl s hs g=>hq _ (av.2 ⟨s,Br hl hs,rfl⟩) (by
   have:=(lD (t:=shy k) h0).2 g
   rw [CX] at this;exact this)
  have hon':∀ l∈(L.map (shy k).ap)::(Hs.map fun l=>l.map (shy k).ap),∀ s∈aU l,¬aJ s.a s.b q:=fun l hl s hs g=>by
   obtain ⟨m,hm,rfl⟩:∃ m∈L::Hs,l=m.map (shy k).ap:=by
    rcases ay.1 hl with rfl|hl
    ·exact ⟨L,ah ..,rfl⟩
    ·obtain ⟨m,hm,rfl⟩:=av.1 hl
     exact ⟨m,ag _ hm,rfl⟩
   rw [l7] at hs
   obtain ⟨s,h1,rfl⟩:=av.1 hs
   exact hq _ (av.2 ⟨s,Br hm h1,rfl⟩) g
  rw [←N'.par hon']
  show inP L Hs ((shy (-k)).ap q)↔_
  rw [pL h]
  have odd:∀ l∈L::Hs,bW (l.map (shy k).ap) q (l.map (shy k).ap).length=bW l ((shy (-k)).ap q) l.length:=fun l hl=>by
   have:=tv (EM k) (hon l hl)
   rw [show (⟨1,0,k,1,0,0⟩:Aff)=shy k from rfl,CX] at this
   exact this
  constructor
  ·rintro ⟨_,g1,g2⟩
   refine ⟨by rw [odd L (ah ..)];exact g1,fun x hx=> ?_⟩
   obtain ⟨m,hm,rfl⟩:=av.1 hx
   rw [odd m (ag _ hm)];exact g2 m hm
  ·rintro ⟨g1,g2⟩
   refine ⟨fun e he=> ?_,by rw [←odd L (ah ..)];exact g1,fun x hx=> ?_⟩
   ·obtain ⟨l,hl,hel⟩:=nI he
    exact hon l hl e hel
   ·rw [←odd x (ag _ hx)]
    exact g2 _ (av.2 ⟨x,hx,rfl⟩)
theorem Hc (h:da L Hs):(gX L Hs).length+3=(dE L Hs).length+3*Hs.length:=by
 have h1:=IU h
 rw [Ph] at h1
 omega
end Go.Av
namespace Go.Av
variable {L:List Pt} {Hs:List (List Pt)}
theorem Lz {a b:Pt} (hne:a≠b):bO (Sg.order ⟨a,b⟩).a (Sg.order ⟨a,b⟩).b<0:=by
 have hz:bO a b≠0:=fun e=>hne (c7.1 e)
 have:= @io a b
 unfold Sg.order
 split
 ·simp only at*;omega
 ·simp only at*;omega
theorem Ly (s:Sg):(s.order.a=s.a∧s.order.b=s.b)∨(s.order.a=s.b∧s.order.b=s.a):=by
 unfold Sg.order
 split
 ·exact .inr ⟨rfl,rfl⟩
 ·exact .inl ⟨rfl,rfl⟩
theorem L7 (h:da L Hs) {a b:Pt} (ha:a∈dE L Hs) (hb:b∈dE L Hs) (hne:a≠b):
 (kN L Hs (Sg.order ⟨a,b⟩)).2=0∧(Sg.order ⟨a,b⟩∈gX L Hs→(kN L Hs (Sg.order ⟨a,b⟩)).1=true)∧
 ((kN L Hs (Sg.order ⟨a,b⟩)).1=true→Sg.order ⟨a,b⟩∉gX L Hs→(jI (gX L Hs).length fun j=>jJ (Sg.order ⟨a,b⟩) ((gX L Hs).getD j sg0))=true):=by
 have hlt:=Lz hne
 have he:=Ly ⟨a,b⟩
 generalize Sg.order ⟨a,b⟩=s at*
 have hs:s.a∈dE L Hs∧s.b∈dE L Hs:=by
  rcases he with ⟨e1,e2⟩|⟨e1,e2⟩<;>rw [e1,e2]
  ·exact ⟨ha,hb⟩
  ·exact ⟨hb,ha⟩
 have h0:(kN L Hs s).2=0:=by
  unfold kN
  have h1:bO s.a s.b≠0:=by omega
  rw [if_neg h1]
  split<;>rfl
 refine ⟨h0,fun k=>by rw [jA k],fun k1 k2=> ?_⟩
 obtain ⟨x,hx,e⟩:=uz h hs.1 hs.2 hlt
 have e:prS (gW L Hs) x=s:=e
 have hD:kN L Hs (prS (gW L Hs) x)=(true,0):=by rw [e];exact Prod.ext k1 h0
 rcases xQ (kN L Hs) (gW L Hs) hD _ [] hx with g|⟨t,ht,hc⟩
 ·rw [e] at g;exact absurd g k2
 ·rw [e] at hc
  have ht:t∈gX L Hs:=ht
  obtain ⟨j,hj,rfl⟩:=bK.1 ht
  exact kj hj (by rw [ae,af hj];exact hc)
theorem IV (h:da L Hs) {i j:Nat} (hj:j<i) (hi:i<(gX L Hs).length):jJ ((gX L Hs).getD i sg0) ((gX L Hs).getD j sg0)=false∧(gX L Hs).getD i sg0≠(gX L Hs).getD j sg0:=by
 have hn:=tW h
 have hj':j<(gX L Hs).length:=by omega
 have gi:(gX L Hs).getD i sg0=(gX L Hs)[i]:=by rw [ae,af hi];rfl
 have gj:(gX L Hs).getD j sg0=(gX L Hs)[j]:=by rw [ae,af hj'];rfl
 have hne:(gX L Hs).getD i sg0≠(gX L Hs).getD j sg0:=by
  rw [gi,gj]
  exact fun e=>bN.1 hn j i hj' hi hj e.symm
 refine ⟨(yU (L:=L) (Hs:=Hs) ?_ ?_).resolve_left hne,hne⟩
 ·rw [gi];exact bx hi
 ·rw [gj];exact bx hj'
theorem Pj (h:da L Hs) {i:Nat} (hi:i<(gX L Hs).length):bO ((gX L Hs).getD i sg0).a ((gX L Hs).getD i sg0).b<0∧((gX L Hs).getD i sg0).a∈dE L Hs∧((gX L Hs).getD i sg0).b∈dE L Hs:=by
 have hm:(gX L Hs).getD i sg0∈gX L Hs:=by rw [ae,af hi];exact bx hi
 obtain ⟨x,hx,e⟩:=Bu h hm
 rw [←e]
 exact wh h hx
end Go.Av
namespace Go.Av
open Go.RowKit
open Go.Proofs.Tryz (prog)
theorem Qz (l:List Sg):nb (lsV l)=some l.length:=by
 unfold lsV;split
 ·rename_i h;subst h;rfl
 ·unfold ssV nb;simp
theorem triangulateDiagonals_pc (O:List Rp) (hs:List (List Rp)) (hr:SX O hs):PC prog 3 [pgV O hs] (.prim (.bool true)):=by
 obtain ⟨b,f,hb⟩:=LX O hs hr
 have aw:=Jb
 cases b with
 |false=>
  refine BR rE (FnD.of (by kernel_rfl)) ?_
  simp only [OH,Go.Proofs.Tryz.func3,Go.Proofs.Tryz.f3,oX]
  conv in (occs:= *) Qp _ _ _=>all_goals cbv
  conv in Ik _ _=>cbv
  conv in H8 _ _=>cbv
  simp only [RN,Nat.reduceAdd,Nat.reduceSub]
  simp (disch:=omega) only [↓RS,RZ,simprocAttr,pgV,hsV,dH]
  refine cX f ?_
  simp (disch:=omega) only [↓RS,RZ,simprocAttr]
  refine cX aw ?_
  simp (disch:=omega) only [↓RS,RZ,simprocAttr]
 |true=>
 obtain ⟨hf,hn12⟩:=hb rfl
 have T:=hf.triang hn12
 have dg:=fun s h=>y9 hf s h
 have cc:=BS hf
 have hfew:=hf.valid.few
 rw [hf.val]
 rw [hf.val] at f
 have hlen:(hs.map pts).length=hs.length:=az ..
 rw [←hlen] at cc
 clear hb hf hr hn12 hlen
 generalize hs.map pts=Hs at*
 generalize pts O=L at*
 have cc:PC prog 12 [cgV L Hs] (.tup [psV (dE L Hs),.prim (.int .i64 (0))]):=cc
 have hv:=T.v
 have few:=T.few
 have td:=T.d
 have cnt:=Hc hv
 have hlC:=qi hv.rgs (Hs.length+1) (ax _)
 have hlC:∀ p∈dE L Hs,hp p≤2^16:=hlC
 have more:=fun a b ha hb hne=> @L7 L Hs hv a b ha hb hne
 have apart:=fun i j hj hi=> @IV L Hs hv i j hj hi
 have mem:=fun i hi=> @Pj L Hs hv i hi
 have cn:=pa hv
 clear T hv
 generalize hDe:gX L Hs=D at*
 generalize hCe:dE L Hs=C at*
 have hDl:D.length≤40:=by omega
 have hview:=GH D
 have hlenV:=Qz D
 have con:=fun q=>B7 D q (by omega)
 have conF:=fun f cap p H K hf hK=> @B8 D f cap p H K (by omega) hf hK
 have hlv:D≠[]→lsV D=ssV D:=fun h=>by unfold lsV;rw [if_neg h]
 generalize lsV D=lv at*
 rw [nb.eq_def] at hlenV
 refine BR rE (FnD.of (by kernel_rfl)) ?_
 simp only [OH,Go.Proofs.Tryz.func3,Go.Proofs.Tryz.f3,oX]
 conv in (occs:= *) Qp _ _ _=>all_goals cbv
 conv in Ik _ _=>cbv
 conv in H8 _ _=>cbv
 simp only [RN,Nat.reduceAdd,Nat.reduceSub]
 simp (disch:=omega) only [↓RS,RZ,simprocAttr,cgV,psV]
 refine cX f ?_
 simp (disch:=omega) only [↓RS,RZ,simprocAttr,cgV,psV]
 refine cX td ?_
 simp (disch:=omega) only [↓RS,RZ,simprocAttr,cgV,psV,hview]
 refine cX cc ?_
 have hnH:((Hs.map psV).map fun v=>[v]).length=Hs.length:=by rw [az,az]
 simp (disch:=omega) only [↓RS,RZ,simprocAttr,cgV,psV,hview,hlenV,cU,hnH]
 refine eG (fun (i:Nat) J=>ov [(1,.ptr 0 0 0),(3,lv),(5,psV C),(51,lv),(52,.prim (.int .i64 ((D.length:Nat):Int))),(53,.prim (.int .i64 ((i:Nat):Int)))] J 0 143) (fun i H=>i≤D.length∧get H 0=some (.row 2 true [[psV L,.lst 1 ((Hs.map psV).map fun v=>[v])]])) (fun i=>D.length-i) 0 rfl ⟨bh _,rfl⟩ ?_
 rintro i J H ⟨hi,h0⟩
 try conv in ov _ _ _ _=>simp only [ov,List.lookup,RO,simprocAttr]
 rcases am i D.length with hlt|hge
 ·have hD:D≠[]:=fun e=>by rw [e] at hlt;exact absurd hlt (Nat.not_lt_zero i)
  have hl2:=hlv hD
  obtain ⟨m1,m2,m3⟩:=mem i hlt
  have g:=nF hlt
  have ap:=fun j hj=>apart i j hj hlt
  have hml:(D.map sgc).length=D.length:=az ..
  have htk:(List.take (i-0) (D.map sgc)).length=i:=by rw [d9,hml];omega
  have k2:=hlC _ m2
  have k3:=hlC _ m3
  generalize hse:D.getD i sg0=s at*
  have c1:=kT s.a s.b (by omega) (by omega)
  have c2:=pO C s.a (by omega)
  have c3:=pO C s.b (by omega)
  rw [an m2] at c2
  rw [an m3] at c3
  have hs0:Av.hs s≤2^16:=wz k2 k3
  subst hl2
  have w0:∀ x,get (H++[x]) 0=some (.row 2 true [[psV L,.lst 1 ((Hs.map psV).map fun v=>[v])]]):=fun x=>aO h0
  simp (disch:=omega) only [↓RS,RZ,simprocAttr,ssV,hml,g,sgc,bo,aZ,psV]
  refine cX c1 ?_
  simp (disch:=omega) only [↓RS,RZ,simprocAttr,psV]
  refine cX c2 ?_
  simp (disch:=omega) only [↓RS,RZ,simprocAttr,psV,bo,aZ]
  refine cX c3 ?_
  simp (disch:=omega) only [↓RS,RZ,simprocAttr,psV,bo,aZ,hml,htk]
  refine eG (fun (j:Nat) J=>ov [(1,.ptr 0 0 0),(3,ssV D),(5,psV C),(8,.ptr H.length 0 0),(51,ssV D),(52,.prim (.int .i64 ((D.length:Nat):Int))),(53,.prim (.int .i64 ((i:Nat):Int))),(80,.lst 12 (List.take (i-0) (D.map sgc))),(81,.prim (.int .i64 ((i:Nat):Int))),(82,.prim (.int .i64 ((j:Nat):Int)))] J 0 143) (fun j H'=>(j≤i∧get H' 0=some (.row 2 true [[psV L,.lst 1 ((Hs.map psV).map fun v=>[v])]]))∧get H' H.length=some (.row 12 true [sgc s])) (fun j=>i-j) 0 rfl ⟨⟨bh _,w0 _⟩,bo⟩ ?_
  rintro j J' H' ⟨⟨hj,h0'⟩,h1'⟩
  try conv in ov _ _ _ _=>simp only [ov,List.lookup,RO,simprocAttr]
  rcases am j i with hjl|hjg
  ·obtain ⟨a1,a2⟩:=ap j hjl
   obtain ⟨mm1,mm2,mm3⟩:=mem j (by omega)
   have gt:(List.take (i-0) (D.map sgc)).getD j []=sgc (D.getD j sg0):=by
    rw [←nF (show j<D.length by omega),ae,ae,fE,if_pos (by omega)]
   have kk2:=hlC _ mm2
   have kk3:=hlC _ mm3
   generalize D.getD j sg0=t at*
   have ht0:Av.hs t≤2^16:=wz kk2 kk3
   have cx:=xS s t (by omega) (by omega)
   rw [a1] at cx
   have e:=Kj s t
   rw [ak a2] at e
   have w1:∀ x,get (H'++[x]) H.length=some (.row 12 true [sgc s]):=fun x=>aO h1'
   have w0':∀ x,get (H'++[x]) 0=some (.row 2 true [[psV L,.lst 1 ((Hs.map psV).map fun v=>[v])]]):=fun x=>aO h0'
   simp (disch:=omega) only [↓RS,RZ,simprocAttr,htk,gt,sgc,w1,bo,aZ]
   refine cX cx ?_
   simp (disch:=omega) only [↓RS,RZ,simprocAttr,sgc,w1,bo,e]
   exact bl (j+1) rfl ⟨⟨hjl,w0' _⟩,w1 _⟩ (by omega)
  ·have hji:j=i:=by omega
   subst hji
   simp (disch:=omega) only [↓RS,RZ,simprocAttr,htk]
   exact bl (j+1) rfl ⟨hlt,h0'⟩ (by omega)
 ·have hia:i=D.length:=by omega
  subst hia
  by_cases h9:9<C.length
  ·simp (disch:=omega) only [↓RS,RZ,simprocAttr,psV,cU]
   refine cX aw ?_
   simp (disch:=omega) only [↓RS,RZ,simprocAttr]
  ·have hmc:(C.map pc).length=C.length:=az ..
   simp (disch:=omega) only [↓RS,RZ,simprocAttr,psV,cU]
   refine eG (fun (i:Nat) J=>ov [(1,.ptr 0 0 0),(3,lv),(5,psV C),(100,psV C),(101,.prim (.int .i64 ((C.length:Nat):Int))),(102,.prim (.int .i64 ((i:Nat):Int)))] J 0 143) (fun i H=>i≤C.length∧get H 0=some (.row 2 true [[psV L,.lst 1 ((Hs.map psV).map fun v=>[v])]])) (fun i=>C.length-i) 0 rfl ⟨bh _,h0⟩ ?_
   rintro i J H ⟨hi,h0⟩
   try conv in ov _ _ _ _=>simp only [ov,List.lookup,RO,simprocAttr]
   rcases am i C.length with hlt|hge
   ·have g:=lj hlt
    have htk:(List.take (i-0) (C.map pc)).length=i:=by rw [d9,hmc];omega
    have w0:∀ x,get (H++[x]) 0=some (.row 2 true [[psV L,.lst 1 ((Hs.map psV).map fun v=>[v])]]):=fun x=>aO h0
    have gi:C.getD i default=C[i]:=by rw [ae,af hlt];rfl
    have ma:C.getD i default∈C:=by rw [gi];exact bx hlt
    have ne:∀ j,j<i→C.getD i default≠C.getD j default:=fun j hj=>by
     have hj':j<C.length:=by omega
     have gj:C.getD j default=C[j]:=by rw [ae,af hj'];rfl
     rw [gi,gj]
     exact fun e=>bN.1 cn j i hj' hlt hj e.symm
    have ka:=hlC _ ma
    generalize C.getD i default=a at*
    simp (disch:=omega) only [↓RS,RZ,simprocAttr,psV,cU,hmc,htk,g,pc,bo,aZ]
    refine eG (fun (j:Nat) J=>ov [(1,.ptr 0 0 0),(3,lv),(5,psV C),(12,.ptr H.length 0 0),(100,psV C),(101,.prim (.int .i64 ((C.length:Nat):Int))),(102,.prim (.int .i64 ((i:Nat):Int))),(109,.lst 6 (List.take (i-0) (C.map pc))),(110,.prim (.int .i64 ((i:Nat):Int))),(111,.prim (.int .i64 ((j:Nat):Int)))] J 0 143) (fun j H'=>(j≤i∧get H' 0=some (.row 2 true [[psV L,.lst 1 ((Hs.map psV).map fun v=>[v])]]))∧get H' H.length=some (.row 6 true [pc a])) (fun j=>i-j) 0 rfl ⟨⟨bh _,w0 _⟩,bo⟩ ?_
    rintro j J' H' ⟨⟨hj,h0'⟩,h1'⟩
    try conv in ov _ _ _ _=>simp only [ov,List.lookup,RO,simprocAttr]
    rcases am j i with hjl|hjg
    ·have gt:(List.take (i-0) (C.map pc)).getD j []=pc (C.getD j default):=by
      rw [←lj (show j<C.length by omega),ae,ae,fE,if_pos (by omega)]
     have hne:=ne j hjl
     have mb:C.getD j default∈C:=by
      have hj':j<C.length:=by omega
      rw [ae,af hj'];exact bx hj'
     have kb:=hlC _ mb
     generalize C.getD j default=b at*
     obtain ⟨d1,d2,d3⟩:=more a b ma mb hne
     have so:=un ⟨a,b⟩ (by have:= @wz a b _ ka kb;omega)
     have hso:Av.hs (Sg.order ⟨a,b⟩)≤2^16:=by rw [tJ];exact wz ka kb
     generalize Sg.order ⟨a,b⟩=s at*
     have dgs:=dg s hso
     rw [d1] at dgs
     have cons:=con s
     have w0':∀ x,get (H'++[x]) 0=some (.row 2 true [[psV L,.lst 1 ((Hs.map psV).map fun v=>[v])]]):=fun x=>aO h0'
     have w1:∀ x,get (H'++[x]) H.length=some (.row 6 true [pc a]):=fun x=>aO h1'
     have w0'':∀ x y,get (H'++[x]++[y]) 0=some (.row 2 true [[psV L,.lst 1 ((Hs.map psV).map fun v=>[v])]]):=fun x y=>aO (aO h0')
     have w1':∀ x y,get (H'++[x]++[y]) H.length=some (.row 6 true [pc a]):=fun x y=>aO (aO h1')
     by_cases hm:s∈D
     ·rw [an hm] at cons
      rw [d2 hm] at dgs
      simp (disch:=omega) only [↓RS,RZ,simprocAttr,htk,gt,pc,w0',w1,w0'',w1',bo,aZ]
      refine cX so ?_
      simp (disch:=omega) only [↓RS,RZ,simprocAttr,sgV,s4V,w0',w1,w0'',w1',bo,jw,aZ,psV]
      refine cX dgs ?_
      simp (disch:=omega) only [↓RS,RZ,simprocAttr,w0'',w1',bo,jw,aZ,hview]
      refine cX cons ?_
      simp (disch:=omega) only [↓RS,RZ,simprocAttr,w0'',w1',bo,jw,aZ,nH]
      exact bl (j+1) rfl ⟨⟨hjl,w0'' _ _⟩,w1' _ _⟩ (by omega)
     ·rw [ak hm] at cons
      have pre1:(kN L Hs s).1=true∨(kN L Hs s).1=false:=by cases (kN L Hs s).1<;>simp
      rcases pre1 with hc|hc
      ·rw [hc] at dgs
       have any:=d3 hc hm
       simp (disch:=omega) only [↓RS,RZ,simprocAttr,htk,gt,pc,w0',w1,w0'',w1',bo,aZ]
       refine cX so ?_
       simp (disch:=omega) only [↓RS,RZ,simprocAttr,sgV,s4V,w0',w1,w0'',w1',bo,jw,aZ,psV]
       refine cX dgs ?_
       simp (disch:=omega) only [↓RS,RZ,simprocAttr,w0'',w1',bo,jw,aZ,hview]
       refine cX cons ?_
       simp (disch:=omega) only [↓RS,RZ,simprocAttr,w0'',w1',bo,jw,aZ,nH]
       have hb:∀ x,get (H'++[x]++[some (.row 12 true [sgc s])]) (H'++[x]).length=some (.row 12 true [sgc s]):=fun x=>bo
       refine bI (conF _ _ (fun j=>jJ s (D.getD j sg0)) _ _ ?_ ?_)
       ·intro k G K hk hE hK
        obtain ⟨_,q2,q3⟩:=mem k hk
        have hst:Av.hs (D.getD k sg0)≤2^16:=wz (hlC _ q2) (hlC _ q3)
        exact Pc s (D.getD k sg0) (by omega) (by omega) (hE.get (hb _)) hK
       ·intro G hE
        rw [any]
        simp (disch:=omega) only [↓RS,RZ,simprocAttr,nH]
        exact bl (j+1) rfl ⟨⟨hjl,hE.get (w0'' _ _)⟩,hE.get (w1' _ _)⟩ (by omega)
      ·rw [hc] at dgs
       simp (disch:=omega) only [↓RS,RZ,simprocAttr,htk,gt,pc,w0',w1,w0'',w1',bo,aZ]
       refine cX so ?_
       simp (disch:=omega) only [↓RS,RZ,simprocAttr,sgV,s4V,w0',w1,w0'',w1',bo,jw,aZ,psV]
       refine cX dgs ?_
       simp (disch:=omega) only [↓RS,RZ,simprocAttr,w0'',w1',bo,jw,aZ,hview]
       refine cX cons ?_
       simp (disch:=omega) only [↓RS,RZ,simprocAttr,w0'',w1',bo,jw,aZ,nH]
       exact bl (j+1) rfl ⟨⟨hjl,w0'' _ _⟩,w1' _ _⟩ (by omega)
    ·have hji:j=i:=by omega
     subst hji
     simp (disch:=omega) only [↓RS,RZ,simprocAttr,htk]
     exact bl (j+1) rfl ⟨hlt,h0'⟩ (by omega)
   ·have hia:i=C.length:=by omega
    subst hia
    simp (disch:=omega) only [↓RS,RZ,simprocAttr,psV,cU]
    refine cX aw ?_
    simp (disch:=omega) only [↓RS,RZ,simprocAttr]
end Go.Av
