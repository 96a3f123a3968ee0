/- Helping texts: As11, As12, As13. -/
import Derived.Test.YtkmlhdfpcjkekaaGreatKAs7
import Derived.OrdersIn
set_option linter.unusedSimpArgs false
set_option linter.unusedVariables false
set_option maxRecDepth 100000
set_option maxHeartbeats 16000000
namespace Go.Av
open Go.RowKit
variable {P:Program} {φ φ' φ'':Nat→Option Loc} {I I' I'' J:Nat→Prop} {H H' H'':Hp} {w w' w'':World}
theorem sr {α β:Type} {f g:β→α→β}:∀ (l:List α),(∀ (b:β) (a:α),a∈l→f b a=g b a)→∀ b,l.foldl f b=l.foldl g b
 |[],_,_=>rfl
 |x::l,h,b=>by
  simp only [List.foldl_cons]
  rw [h b x (ah ..)]
  exact sr l (fun b a ha=>h b a (ag _ ha)) _
theorem rF {T T':List V} {args:Array Operand} (h:∀ x∈args,ev T x=ev T' x):args.toList.map (ev T)=args.toList.map (ev T'):=
 List.map_congr_left fun x hx=>h x (by simpa using hx)
theorem tk {T T':List V} {o:Option Operand} (h:∀ x∈o.toArray,ev T x=ev T' x):o.map (ev T)=o.map (ev T'):=by
 cases o with
 |none=>rfl
 |some x=>simp only [bj];rw [h x (by simp)]
theorem O5 {ty:TypeId→Option TyI} {T T':List V} {op:Op} (h:∀ x∈op.operands,ev T x=ev T' x):evN ty T op=evN ty T' op:=by
 cases op with
 |move x=>simp only [evN];rw [h x (by simp [Op.operands])]
 |assign x=>simp only [evN];rw [h x (by simp [Op.operands])]
 |pick c a b=>simp only [evN];rw [h c (by simp [Op.operands]),h a (by simp [Op.operands]),h b (by simp [Op.operands])]
 |build t ps=>
  have hp:∀ p∈ps.toList,ev T p.2=ev T' p.2:=fun p hp=>h p.2 (by simp [Op.operands];exact ⟨p.1,by simpa using hp⟩)
  simp only [evN]
  split
  ·rename_i i _
   split
   ·rename_i fs _
    rw [sr ps.toList (fun acc p hm=>by rw [hp p hm])]
   ·rename_i n e _
    split
    ·rw [sr ps.toList (fun acc p hm=>by rw [hp p hm])]
    ·rfl
   ·rfl
  ·rfl
 |binOp op t x y y'=>simp only [evN];rw [h x (by simp [Op.operands]),h y (by simp [Op.operands])]
 |unOp op t x=>simp only [evN];rw [h x (by simp [Op.operands])]
 |convert s d x=>simp only [evN];rw [h x (by simp [Op.operands])]
 |makeFunc fv first cap=>
  cases fv with
  |func f=>simp only [evN];rw [rF (fun x hx=>h x (by simp [Op.operands,hx])),rF (fun x hx=>h x (by simp [Op.operands,hx]))]
  |_=>rfl
 |nilCheck x=>simp only [evN];rw [h x (by simp [Op.operands])]
 |fieldAddr s x f=>simp only [evN];rw [h x (by simp [Op.operands])]
 |field s x f=>simp only [evN];rw [h x (by simp [Op.operands])]
 |indexAddr t x ix=>simp only [evN];rw [h x (by simp [Op.operands]),h ix (by simp [Op.operands])]
 |index t x ix=>simp only [evN];rw [h x (by simp [Op.operands]),h ix (by simp [Op.operands])]
 |slice t x lo hi mx=>
  simp only [evN]
  rw [h x (by simp [Op.operands]),tk (o:=lo) (fun y hy=>h y (by simp only [Op.operands,Array.mem_append];simp_all)),tk (o:=hi) (fun y hy=>h y (by simp only [Op.operands,Array.mem_append];simp_all)),
   tk (o:=mx) (fun y hy=>h y (by simp only [Op.operands,Array.mem_append];simp_all))]
 |extract t ix=>simp only [evN];rw [h t (by simp [Op.operands])]
 |call c=>
  obtain ⟨cal,args,argTypes⟩:=c
  cases cal with
  |builtin b=>
   have ha:∀ x∈args,ev T x=ev T' x:=fun x hx=>h x (by simp [Op.operands,Call.operands,hx])
   have h0:∀ x,args[0]? =some x→ev T x=ev T' x:=fun x hx=>ha x (Array.mem_of_getElem? hx)
   cases b with
   |len=>
    simp only [evN]
    split
    ·rename_i x t hx _;rw [h0 x hx]
    ·rfl
   |cap=>
    simp only [evN]
    split
    ·rename_i x t hx _;rw [h0 x hx]
    ·rfl
   |max=>simp only [evN];rw [rF ha]
   |min=>simp only [evN];rw [rF ha]
   |_=>rfl
  |_=>rfl
 |_=>rfl
theorem O7 {ty:TypeId→Option TyI} {T T':List V} {op:Op} (h:∀ x∈op.operands,ev T x=ev T' x):evA ty T op=evA ty T' op:=by
 cases op with
 |box t x=>simp only [evA];rw [h x (by simp [Op.operands])]
 |makeSlice t l c=>simp only [evA];rw [h l (by simp [Op.operands]),h c (by simp [Op.operands])]
 |buildSlice t len ps=>
  have hp:∀ p∈ps.toList,ev T p.2=ev T' p.2:=fun p hp=>h p.2 (by simp [Op.operands];exact ⟨p.1,by simpa using hp⟩)
  simp only [evA]
  split
  ·split
   ·split
    ·rw [sr ps.toList (fun acc p hm=>by rw [hp p hm])]
    ·rfl
   ·rfl
  ·rfl
 |makeMap t r=>cases r<;>rfl
 |_=>rfl
theorem sy {sz:Nat} {v:V} (h:∀ b∈fR v,get H b=get H' b):jz H sz v=jz H' sz v:=by
 cases v with
 |sref b o n c z fx=>simp only [jz];rw [h b (by simp [fR])]
 |prim x=>unfold jz;split<;>simp_all
 |_=>rfl
theorem O6 {ty:TypeId→Option TyI} {T T':List V} {op:Op} {nid:Nat} (h:∀ x∈op.operands,ev T x=ev T' x) (hf:∀ f,foot T H nid op=some f→∀ b∈f.2,get H b=get H' b):evL ty T H op=evL ty T' H' op:=by
 cases op with
 |load t a=>
  have hh:=hf _ rfl
  simp only [evL];rw [←h a (by simp [Op.operands])]
  generalize ev T a=v at*
  cases ty t with
  |none=>rfl
  |some i=>
   cases v with
   |ptr b k j=>simp only;rw [hh b (by simp [fR])]
   |_=>rfl
 |convert s d x=>
  have hh:=hf _ rfl
  simp only [evL];rw [←h x (by simp [Op.operands])]
  simp only [fun sz=>sy (sz:=sz) (v:=ev T x) hh]
 |lookup t m k ok=>
  have hh:=hf _ rfl
  simp only [evL];rw [←h m (by simp [Op.operands]),←h k (by simp [Op.operands])]
  generalize ev T m=v at*
  cases ty t with
  |none=>rfl
  |some i=>
   cases v with
   |mpr b=>simp only;cases i.k<;>first|rfl|(simp only;rw [hh b (by simp [fR])])
   |_=>simp only;cases i.k<;>rfl
 |_=>rfl
theorem jv {α β:Type} {f:α→List β} {l:List α} {a:α} {b:β} (ha:a∈l) (hb:b∈f a):b∈l.flatMap f:=List.mem_flatMap.2 ⟨a,ha,hb⟩
theorem rW {n:Nat} (ih:∀ v,(∀ b∈eD H n v,get H b=get H' b)→view H n v=view H' n v):∀ (cs:List V),(∀ b∈cs.flatMap (eD H n),get H b=get H' b)→view.viewL H n cs=view.viewL H' n cs
 |[],_=>by simp [view.viewL]
 |c::cs,h=>by
  simp only [List.flatMap_cons,aF] at h
  unfold view.viewL
  rw [ih c (fun b hb=>h b (.inl hb)),rW ih cs (fun b hb=>h b (.inr hb))]
theorem yl {n:Nat} (ih:∀ v,(∀ b∈eD H n v,get H b=get H' b)→view H n v=view H' n v):∀ (cs:List (List V)),(∀ b∈cs.flatMap (fun e=>e.flatMap (eD H n)),get H b=get H' b)→view.viewLL H n cs=view.viewLL H' n cs
 |[],_=>by simp [view.viewLL]
 |c::cs,h=>by
  simp only [List.flatMap_cons,aF] at h
  unfold view.viewLL
  rw [rW ih c (fun b hb=>h b (.inl hb)),yl ih cs (fun b hb=>h b (.inr hb))]
theorem uj:∀ (n:Nat) (v:V),(∀ b∈eD H n v,get H b=get H' b)→view H n v=view H' n v
 |0,_,_=>by simp [view]
 |n+1,v,h=>by
  cases v with
  |agg cs=>simp only [view];rw [rW (uj n) cs (fun b hb=>h b (by simpa [eD] using hb))]
  |tup cs=>simp only [view];rw [rW (uj n) cs (fun b hb=>h b (by simpa [eD] using hb))]
  |sref b o k c z fx=>
   simp only [view]
   rw [←h b (by simp [eD])]
   cases hg:get H b with
   |none=>rfl
   |some q=>
    cases q with
    |loop l=>rfl
    |mp l=>rfl
    |row sz m es=>
     try simp only
     split
     ·rw [yl (uj n) _ (fun b' hb=>h b' (by simp only [eD,hg,ay];exact .inr hb))]
     ·rfl
  |clo f first cap=>cases first<;>cases cap<;>simp [view]
  |_=>simp [view]
theorem qP:∀ (cs:List V),(∀ b∈cs.flatMap (eD H 9),get H b=get H' b)→ii H cs=ii H' cs
 |[],_=>rfl
 |c::cs,h=>by
  simp only [List.flatMap_cons,aF] at h
  unfold ii
  rw [uj 9 c (fun b hb=>h b (.inl hb)),qP cs (fun b hb=>h b (.inr hb))]
theorem oQ {α β:Type} {f g:α→List β}:∀ {l:List α},(∀ a∈l,f a=g a)→l.flatMap f=l.flatMap g
 |[],_=>rfl
 |a::l,h=>by rw [List.flatMap_cons,List.flatMap_cons,h a (ah ..),oQ fun b hb=>h b (ag _ hb)]
theorem z6:∀ (n:Nat) (v:V),(∀ b∈eD H n v,get H b=get H' b)→eD H n v=eD H' n v
 |0,_,_=>by simp [eD]
 |n+1,v,h=>by
  have hl:∀ cs:List V,(∀ b∈cs.flatMap (eD H n),get H b=get H' b)→cs.flatMap (eD H n)=cs.flatMap (eD H' n):=fun cs hc=>
   oQ fun v hv=>z6 n v fun b hb=>hc b (jv hv hb)
  cases v with
  |agg cs=>simp only [eD] at h ⊢;exact hl cs h
  |tup cs=>simp only [eD] at h ⊢;exact hl cs h
  |clo f xs ys=>
   simp only [eD,aF] at h ⊢
   rw [hl xs fun b hb=>h b (.inl hb),hl ys fun b hb=>h b (.inr hb)]
  |ptr b i j=>
   simp only [eD,ay] at h ⊢
   rw [←h b (.inl rfl)]
   cases hg:get H b with
   |none=>rfl
   |some q=>
    cases q with
    |loop l=>rfl
    |mp l=>rfl
    |row sz m es=>
     simp only [hg] at h ⊢
     rw [hl _ fun b hb=>h b (.inr hb)]
  |sref b o k c z fx=>
   simp only [eD,ay] at h ⊢
   rw [←h b (.inl rfl)]
   cases hg:get H b with
   |none=>rfl
   |some q=>
    cases q with
    |loop l=>rfl
    |mp l=>rfl
    |row sz m es=>
     simp only [hg] at h ⊢
     congr 1
     exact oQ fun e he=>hl e fun b hb=>h b (.inr (jv he hb))
  |_=>simp [eD]
theorem FY (vs:List V) (h:∀ b∈vs.flatMap (eD H 9),get H b=get H' b):vs.flatMap (eD H 9)=vs.flatMap (eD H' 9):=
 oQ fun v hv=>z6 9 v fun b hb=>h b (jv hv hb)
theorem yd.cong {ei:TyI} {ys:List (List V)} {nid:Nat} {s v:V} {wr:List (Nat×Option Blk)} (ha:yd H ei ys nid s v wr) (h:∀ b∈fR s,get H b=get H' b):yd H' ei ys nid s v wr:=by
 cases ha with
 |nil0 h0=>exact .nil0 h0
 |nil1 h0 h1 h2=>exact .nil1 h0 h1 h2
 |room hg h1 h2 h3=>exact .room (by rw [←h _ (by simp [fR])];exact hg) h1 h2 h3
 |fixed hg h1 h2 h3 h4=>exact .fixed (by rw [←h _ (by simp [fR])];exact hg) h1 h2 h3 h4
 |grow hg h1 h2 h3=>exact .grow (by rw [←h _ (by simp [fR])];exact hg) h1 h2 h3
theorem Jg {ei:TyI} {t2:Option TypeId} {x:V} (h:∀ b∈fR x,get H b=get H' b):rR P H ei t2 x=rR P H' ei t2 x:=by
 unfold rR
 simp only [fun sz=>sy (sz:=sz) h]
theorem oz.frame {T T':List V} {nid:Nat} {op:Op} {v:V} {wr:List (Nat×Option Blk)} (he:oz P T H nid op v wr) (h:∀ x∈op.operands,ev T x=ev T' x) (hf:∀ f,foot T H nid op=some f→∀ b∈f.2,get H b=get H' b):
 oz P T' H' nid op v wr:=by
 cases he with
 |n h1 hc=>exact .n (by rw [←O5 h];exact h1) hc
 |a h1 hc=>exact .a (by rw [←O7 h];exact h1) hc
 |l h1=>exact .l (by rw [←O6 h hf];exact h1)
 |pc hfv hv hp hd=>
  rename_i fv args argTypes g first cap as
  have e:=rF (args:=args) (fun x hx=>h x (by simp [Op.operands,Call.operands,hx]))
  refine .pc (first:=first) (cap:=cap) (by rw [←h fv (by simp [Op.operands,Call.operands])];exact hfv) (as:=as) ?_ hp (by rw [←e];exact hd)
  rw [←e,←qP]
  ·exact hv
  ·exact hf (_,(first++args.toList.map (ev T)++cap).flatMap (eD H 9)) (by simp only [foot,hfv];rfl)
 |qc hfv hq hp=>
  rename_i fv args argTypes g first cap q
  have e:=rF (args:=args) (fun x hx=>h x (by simp [Op.operands,Call.operands,hx]))
  have hF:=hf (_,(first++args.toList.map (ev T)++cap).flatMap (eD H 9)) (by simp only [foot,hfv];rfl)
  have hF:∀ b∈(first++args.toList.map (ev T)++cap).flatMap (eD H 9),get H b=get H' b:=hF
  have tc:=FY _ hF
  refine .qc (first:=first) (cap:=cap) (by rw [←h fv (by simp [Op.operands,Call.operands])];exact hfv) ?_ ?_
  ·rw [←e]
   refine ⟨hq.1,?_⟩
   cases q with
   |none=>trivial
   |some p=>
    obtain ⟨q1,q2,q3,q4⟩:=hq.2
    exact ⟨q1,by rw [←hF _ q3];exact q2,by rw [←tc];exact q3,q4⟩
  ·rw [←e,←tc]
   intro H0 h0
   exact hp H0 fun b hb=>by rw [h0 b hb,hF b hb]
 |st ht hev hg he h1 h2 h3=>
  rename_i t ad x i b k j sz es e
  have ex:=h x (by simp [Op.operands])
  rw [ex]
  rw [ex] at h1 h3
  refine .st ht (by rw [←h ad (by simp [Op.operands])];exact hev) ?_ he h1 h2 h3
  rw [←hf (true,_) rfl b (by rw [hev];simp [fR])];exact hg
 |mu ho ht hk hm hg hq hf' hr=>
  rename_i t m k x i kt et b es r
  have em:=h m (by rcases ho with rfl|rfl<;>simp [Op.operands])
  have ek:=h k (by rcases ho with rfl|rfl<;>simp [Op.operands])
  have ex:=h x (by rcases ho with rfl|rfl<;>simp [Op.operands])
  rw [ek,ex]
  rw [ek] at hq hf' hr
  refine .mu ho ht hk (by rw [←em];exact hm) ?_ hq hf' hr
  rw [←hf (true,fR (ev T m)) (by rcases ho with rfl|rfl<;>rfl) b (by rw [hm];simp [fR])];exact hg
 |ap a0 a1 t0 ht hk he had hc hcl ha=>
  rename_i args argTypes s x t e i ei c ys
  have m0:=Array.mem_of_getElem? a0
  have m1:=Array.mem_of_getElem? a1
  have es:=h s (by simp [Op.operands,Call.operands,m0])
  have ex:=h x (by simp [Op.operands,Call.operands,m1])
  have hb:∀ y∈args,∀ b∈fR (ev T y),get H b=get H' b:=fun y hy b hb=>hf (true,_) rfl b (ag _ (jv (by simpa using hy) hb))
  refine .ap a0 a1 t0 ht hk he (c:=c) (ys:=ys) ?_ hc hcl ?_
  ·rw [←ex,←Jg (hb x m1)];exact had
  ·rw [←es];exact ha.cong (hb s m0)
 |cp a0 a1 t0 ht hk he hel hcl hd hg hle=>
  rename_i args argTypes d x t e i ei ys b o n c z fx es
  have m0:=Array.mem_of_getElem? a0
  have m1:=Array.mem_of_getElem? a1
  have ed:=h d (by simp [Op.operands,Call.operands,m0])
  have ex:=h x (by simp [Op.operands,Call.operands,m1])
  have hb:∀ y∈args,∀ b∈fR (ev T y),get H b=get H' b:=fun y hy b hb=>hf (true,_) rfl b (jv (by simpa using hy) hb)
  refine .cp a0 a1 t0 ht hk he (x:=x) ?_ hcl (by rw [←ed];exact hd) ?_ hle
  ·rw [←ex,←sy (hb x m1)];exact hel
  ·rw [←hb d m0 b (by rw [hd];simp [fR])];exact hg
 |cl a0 t0 ht hk he hd hg hle=>
  rename_i args argTypes d t e i ei b o n c z fx es
  have m0:=Array.mem_of_getElem? a0
  have ed:=h d (by simp [Op.operands,Call.operands,m0])
  have hb:∀ y∈args,∀ b∈fR (ev T y),get H b=get H' b:=fun y hy b hb=>hf (true,_) rfl b (jv (by simpa using hy) hb)
  refine .cl a0 t0 ht hk he (by rw [←ed];exact hd) ?_ hle
  rw [←hb d m0 b (by rw [hd];simp [fR])];exact hg
theorem yd.at_ {ei:TyI} {ys:List (List V)} {nid:Nat} {s v:V} {wr:List (Nat×Option Blk)} (ha:yd H ei ys nid s v wr):∀ p∈wr,p.1=nid∨(p.1∈fR s∧p.1<H.length):=by
 cases ha with
 |nil0 h=>simp
 |nil1 h h1 h2=>simp
 |room hg h1 h2 h3=>simp [fR,mh hg]
 |fixed hg h1 h2 h3 h4=>simp
 |grow hg h1 h2 h3=>simp [fR,mh hg]
theorem oz.writes {T:List V} {nid:Nat} {op:Op} {v:V} {wr:List (Nat×Option Blk)} (he:oz P T H nid op v wr):∀ p∈wr,(p.1=nid∨p.1<H.length)∧∃ f,foot T H nid op=some f∧f.1=true∧p.1∈f.2:=by
 cases he with
 |n h1 hc=>simp
 |a h1 hc=>
  intro p hp
  simp only [bH] at hp;subst hp
  refine ⟨.inl rfl,(true,[nid]),?_,rfl,by simp⟩
  cases op<;>first|rfl|simp [evA] at h1
 |l h1=>simp
 |pc hfv hv hp hd=>simp
 |qc hfv hq hp=>
  rename_i fv args argTypes g first cap q
  intro p hp
  cases q with
  |none=>simp at hp
  |some s=>
   simp only [Option.toList,bH] at hp
   subst hp
   obtain ⟨q1,q2,q3,q4⟩:=hq.2
   exact ⟨.inr (mh q2.choose_spec),(_,(first++args.toList.map (ev T)++cap).flatMap (eD H 9)),by simp only [foot,hfv],q4,q3⟩
 |st ht hev hg he h1 h2 h3=>
  intro p hp
  simp only [bH] at hp;subst hp
  exact ⟨.inr (mh hg),_,rfl,rfl,by rw [hev];simp [fR]⟩
 |mu ho ht hk hm hg hq hf' hr=>
  rename_i t m k x i kt et b es r
  intro p hp
  simp only [bH] at hp;subst hp
  exact ⟨.inr (mh hg),(true,fR (ev T m)),by rcases ho with rfl|rfl<;>rfl,rfl,by rw [hm];simp [fR]⟩
 |ap a0 a1 t0 ht hk he had hc hcl ha=>
  rename_i args argTypes s x t e i ei c ys
  intro p hp
  have m0:=Array.mem_of_getElem? a0
  rcases ha.at_ p hp with h|⟨h1,h2⟩
  ·exact ⟨.inl h,_,rfl,rfl,by rw [h];exact ah ..⟩
  ·exact ⟨.inr h2,_,rfl,rfl,ag _ (jv (by simpa using m0) h1)⟩
 |cp a0 a1 t0 ht hk he hel hcl hd hg hle=>
  intro p hp
  have m0:=Array.mem_of_getElem? a0
  simp only [bH] at hp;subst hp
  exact ⟨.inr (mh hg),_,rfl,rfl,jv (a:=_) (by simpa using m0) (by rw [hd];simp [fR])⟩
 |cl a0 t0 ht hk he hd hg hle=>
  intro p hp
  have m0:=Array.mem_of_getElem? a0
  simp only [bH] at hp;subst hp
  exact ⟨.inr (mh hg),_,rfl,rfl,jv (a:=_) (by simpa using m0) (by rw [hd];simp [fR])⟩
theorem oz.renid {T:List V} {nid:Nat} {op:Op} {v:V} {wr:List (Nat×Option Blk)} (he:oz P T H nid op v wr) (h:∀ p∈wr,p.1≠nid) (nid':Nat):oz P T H nid' op v wr:=by
 cases he with
 |n h1 hc=>exact .n h1 hc
 |a h1 hc=>exact absurd rfl (h _ (bH.2 rfl))
 |l h1=>exact .l h1
 |pc hfv hv hp hd=>exact .pc hfv hv hp hd
 |qc hfv hq hp=>exact .qc hfv hq hp
 |st ht hev hg he h1 h2 h3=>exact .st ht hev hg he h1 h2 h3
 |mu ho ht hk hm hg hq hf hr=>exact .mu ho ht hk hm hg hq hf hr
 |ap a0 a1 t0 ht hk he had hc hcl ha=>
  refine .ap a0 a1 t0 ht hk he had hc hcl ?_
  generalize hs:ev T _=sv at ha
  cases ha with
  |nil0 h0=>exact .nil0 h0
  |nil1 h1 h2 h3=>exact absurd rfl (h _ (bH.2 rfl))
  |room hg h1 h2 h3=>exact .room hg h1 h2 h3
  |fixed hg h1 h2 h3 h4=>exact absurd rfl (h _ (bH.2 rfl))
  |grow hg h1 h2 h3=>exact absurd rfl (h _ (ag _ (bH.2 rfl)))
 |cp a0 a1 t0 ht hk he hel hcl hd hg hle=>exact .cp a0 a1 t0 ht hk he hel hcl hd hg hle
 |cl a0 t0 ht hk he hd hg hle=>exact .cl a0 t0 ht hk he hd hg hle
theorem Je:∀ (wr:List (Nat×Option Blk)) (X Y:Hp) (b:Nat),b∈wr.map (·.1)∨get X b=get Y b→get (app wr X) b=get (app wr Y) b
 |[],X,Y,b,h=>by simpa [app] using h
 |p::wr,X,Y,b,h=>by
  have e:∀ Z,app (p::wr) Z=app wr (j4 Z p.1 p.2):=fun _=>rfl
  rw [e,e]
  refine Je wr _ _ b ?_
  by_cases hb:b=p.1
  ·subst hb;right;rw [eT,eT]
  ·rw [ct _ _ hb,ct _ _ hb]
   simp only [aY,ay] at h
   rcases h with (h|h)|h
   ·exact absurd h hb
   ·exact .inl h
   ·exact .inr h
theorem FC:∀ (wr:List (Nat×Option Blk)) (X:Hp) (b:Nat),b∉wr.map (·.1)→get (app wr X) b=get X b
 |[],X,b,h=>rfl
 |p::wr,X,b,h=>by
  simp only [aY,ay,not_or] at h
  have e:app (p::wr) X=app wr (j4 X p.1 p.2):=rfl
  rw [e,FC wr _ b h.2,ct _ _ h.1]
theorem qm:∀ (wr:List (Nat×Option Blk)) (X:Hp),X.length≤(app wr X).length∧(∀ p∈wr,p.1<(app wr X).length)∧(∀ N,X.length≤N→(∀ p∈wr,p.1<N)→(app wr X).length≤N)
 |[],X=>⟨ax _,by simp,fun N h _=>h⟩
 |p::wr,X=>by
  have e:app (p::wr) X=app wr (j4 X p.1 p.2):=rfl
  obtain ⟨h1,h2,h3⟩:=qm wr (j4 X p.1 p.2)
  rw [jG] at h1
  rw [e]
  refine ⟨by omega,?_,?_⟩
  ·intro q hq
   rcases ay.1 hq with rfl|hq
   ·omega
   ·exact h2 q hq
  ·intro N hN hp
   refine h3 N ?_ (fun q hq=>hp q (ag _ hq))
   rw [jG]
   have:=hp p (ah ..)
   omega
end Go.Av
namespace Go.Av
open Go.RowKit
variable {P:Program} {φ φ' φ'':Nat→Option Loc} {I I' I'' J:Nat→Prop} {H H' H'':Hp} {w w' w'':World}
structure Ent where
 dst:Option Tmp
 v:V
 wr:List (Nat×Option Blk)
 nid:Nat
def stT (L:Nat→Bool):Nat→List Ent→List V→List V
 |_,[],T=>T
 |i,e::es,T=>stT L (i+1) es (if L i then putT T e.dst e.v else T)
def stH (L:Nat→Bool):Nat→List Ent→Hp→Hp
 |_,[],H=>H
 |i,e::es,H=>stH L (i+1) es (if L i then app e.wr H else H)
theorem s9 (T:List V) (d':Option Tmp) (v:V) (d:Nat):(putT T d' v)[d]? =if d'=some d then T[d]?.map (fun _=>v) else T[d]? :=by
 cases d' with
 |none=>rfl
 |some c=>
  simp only [putT,fS,bu]
  by_cases h:c=d
  ·subst h
   by_cases hl:c<T.length
   ·simp [hl]
   ·simp [hl]
  ·simp [h]
theorem yu (T:List V) (d':Option Tmp) (v:V):(putT T d' v).length=T.length:=by cases d'<;>simp [putT]
theorem rY (L:Nat→Bool):∀ (es:List Ent) (i:Nat) (T:List V),(stT L i es T).length=T.length
 |[],_,_=>rfl
 |e::es,i,T=>by
  rw [stT,rY L es]
  split
  ·exact yu ..
  ·rfl
theorem rg {L L':Nat→Bool} {d:Nat}:∀ (es:List Ent) (i:Nat) (T T':List V),T[d]? =T'[d]?→(∀ m e,es[m]? =some e→e.dst=some d→L (i+m)=L' (i+m))→(stT L i es T)[d]? =(stT L' i es T')[d]?
 |[],_,_,_,h,_=>h
 |e::es,i,T,T',h,hh=>by
  rw [stT,stT]
  refine rg es (i+1) _ _ ?_ (fun m e' he hd=>by have:=hh (m+1) e' he hd;rwa [show i+(m+1)=i+1+m by omega] at this)
  have h0:=hh 0 e rfl
  simp only [Nat.add_zero] at h0
  by_cases hd:e.dst=some d
  ·rw [h0 hd]
   split
   ·rw [s9,s9,h]
   ·exact h
  ·have:∀ X:List V,(putT X e.dst e.v)[d]? =X[d]? :=fun X=>by rw [s9,if_neg hd]
   split<;>split<;>simp [this,h]
theorem F3 {L:Nat→Bool} {d:Nat} {e:Ent} (hd:e.dst=some d):∀ (es:List Ent) (i m:Nat) (T:List V),d<T.length→es[m]? =some e→L (i+m)=true→(∀ m' e',m<m'→es[m']? =some e'→e'.dst=some d→L (i+m')=false)→
 (stT L i es T)[d]? =some e.v
 |[],_,_,_,_,h,_,_=>by simp at h
 |e0::es,i,0,T,hl,h,hL,hh=>by
  simp only [aN,bu] at h;subst h
  rw [stT,if_pos (by simpa using hL)]
  have:=rg (L:=L) (L':=fun _=>false) (d:=d) es (i+1) (putT T e0.dst e0.v) (putT T e0.dst e0.v) rfl
   (fun m e' he hd'=>by have:=hh (m+1) e' (by omega) he hd';rwa [show i+(m+1)=i+1+m by omega] at this)
  rw [this]
  have hz:∀ (es:List Ent) (i:Nat) (T:List V),stT (fun _=>false) i es T=T:=by
   intro es
   induction es with
   |nil=>intros;rfl
   |cons e es ih=>intro i T;rw [stT];simpa using ih (i+1) T
  rw [hz,s9,if_pos hd]
  simp [hl]
 |e0::es,i,m+1,T,hl,h,hL,hh=>by
  rw [stT]
  refine F3 hd es (i+1) m _ ?_ h (by rwa [show i+1+m=i+(m+1) by omega]) ?_
  ·split
   ·rw [yu];exact hl
   ·exact hl
  ·intro m' e' hm he hd'
   have:=hh (m'+1) e' (by omega) he hd'
   rwa [show i+(m'+1)=i+1+m' by omega] at this
theorem pS {L L':Nat→Bool} {b:Nat}:∀ (es:List Ent) (i:Nat) (T T':Hp),get T b=get T' b→(∀ m e,es[m]? =some e→b∈e.wr.map (·.1)→L (i+m)=L' (i+m))→get (stH L i es T) b=get (stH L' i es T') b
 |[],_,_,_,h,_=>h
 |e::es,i,T,T',h,hh=>by
  rw [stH,stH]
  refine pS es (i+1) _ _ ?_ (fun m e' he hd=>by have:=hh (m+1) e' he hd;rwa [show i+(m+1)=i+1+m by omega] at this)
  have h0:=hh 0 e rfl
  simp only [Nat.add_zero] at h0
  by_cases hd:b∈e.wr.map (·.1)
  ·rw [h0 hd]
   split
   ·exact Je _ _ _ _ (.inl hd)
   ·exact h
  ·have:∀ X:Hp,get (app e.wr X) b=get X b:=fun X=>FC _ _ _ hd
   split<;>split<;>simp [this,h]
theorem F4 {L:Nat→Bool} {b:Nat} {e:Ent} (hd:b∈e.wr.map (·.1)) (Y:Hp):∀ (es:List Ent) (i m:Nat) (T:Hp),es[m]? =some e→L (i+m)=true→(∀ m' e',m<m'→es[m']? =some e'→b∈e'.wr.map (·.1)→L (i+m')=false)→
 get (stH L i es T) b=get (app e.wr Y) b
 |[],_,_,_,h,_,_=>by simp at h
 |e0::es,i,0,T,h,hL,hh=>by
  simp only [aN,bu] at h;subst h
  rw [stH,if_pos (by simpa using hL)]
  have:=pS (L:=L) (L':=fun _=>false) (b:=b) es (i+1) (app e0.wr T) (app e0.wr T) rfl
   (fun m e' he hd'=>by have:=hh (m+1) e' (by omega) he hd';rwa [show i+(m+1)=i+1+m by omega] at this)
  rw [this]
  have hz:∀ (es:List Ent) (i:Nat) (T:Hp),stH (fun _=>false) i es T=T:=by
   intro es
   induction es with
   |nil=>intros;rfl
   |cons e es ih=>intro i T;rw [stH];simpa using ih (i+1) T
  rw [hz]
  exact Je _ _ _ _ (.inl hd)
 |e0::es,i,m+1,T,h,hL,hh=>by
  rw [stH]
  refine F4 hd Y es (i+1) m _ h (by rwa [show i+1+m=i+(m+1) by omega]) ?_
  intro m' e' hm he hd'
  have:=hh (m'+1) e' (by omega) he hd'
  rwa [show i+(m'+1)=i+1+m' by omega] at this
def Tm:List Ent→List V→Nat→List V
 |_,T,0=>T
 |[],T,_+1=>T
 |e::es,T,m+1=>Tm es (putT T e.dst e.v) m
def Hm:List Ent→Hp→Nat→Hp
 |_,H,0=>H
 |[],H,_+1=>H
 |e::es,H,m+1=>Hm es (app e.wr H) m
theorem KC:∀ (es:List Ent) (i m:Nat) (T:List V),Tm es T m=stT (fun k=>decide (k<i+m)) i es T
 |[],i,m,T=>by cases m<;>rfl
 |e::es,i,0,T=>by
  rw [Tm,stT]
  have:=KC es (i+1) 0
  simp only [Nat.add_zero,Nat.lt_irrefl,decide_false,Bool.false_eq_true,if_false] at this ⊢
  have hz:∀ (es:List Ent) (j:Nat) (T:List V),i≤j→stT (fun k=>decide (k<i)) j es T=T:=by
   intro es
   induction es with
   |nil=>intros;rfl
   |cons e es ih=>
    intro j T hj;rw [stT]
    rw [if_neg (by simp;omega)]
    exact ih (j+1) T (by omega)
  rw [hz es (i+1) T (by omega)]
 |e::es,i,m+1,T=>by
  rw [Tm,stT,KC es (i+1) m]
  rw [show i+1+m=i+(m+1) by omega,if_pos (by simp)]
theorem KG:∀ (es:List Ent) (i m:Nat) (T:Hp),Hm es T m=stH (fun k=>decide (k<i+m)) i es T
 |[],i,m,T=>by cases m<;>rfl
 |e::es,i,0,T=>by
  rw [Hm,stH]
  simp only [Nat.add_zero,Nat.lt_irrefl,decide_false,Bool.false_eq_true,if_false]
  have hz:∀ (es:List Ent) (j:Nat) (T:Hp),i≤j→stH (fun k=>decide (k<i)) j es T=T:=by
   intro es
   induction es with
   |nil=>intros;rfl
   |cons e es ih=>
    intro j T hj;rw [stH]
    rw [if_neg (by simp;omega)]
    exact ih (j+1) T (by omega)
  rw [hz es (i+1) T (by omega)]
 |e::es,i,m+1,T=>by
  rw [Hm,stH,KG es (i+1) m]
  rw [show i+1+m=i+(m+1) by omega,if_pos (by simp)]
theorem FE:∀ (es:List Ent) (m:Nat) (T:Hp) (e:Ent),es[m]? =some e→Hm es T (m+1)=app e.wr (Hm es T m)
 |[],m,T,e,h=>by simp at h
 |e0::es,0,T,e,h=>by
  simp only [aN,bu] at h;subst h
  rw [Hm,Hm,Hm]
 |e0::es,m+1,T,e,h=>by
  rw [Hm,Hm]
  exact FE es m _ e h
theorem uO (es:List Ent) (T:Hp) {m m':Nat} (h:m≤m'):(Hm es T m).length≤(Hm es T m').length:=by
 induction m' with
 |zero=>simp at h;subst h;exact ax _
 |succ k ih=>
  by_cases e:m=k+1
  ·subst e;exact ax _
  ·refine bi (ih (by omega)) ?_
   cases hk:es[k]? with
   |none=>
    have hz:∀ (es:List Ent) (T:Hp) (k:Nat),es.length≤k→Hm es T (k+1)=Hm es T k:=by
     intro es
     induction es with
     |nil=>intro T k _;cases k<;>rfl
     |cons e es ih=>
      intro T k hk
      cases k with
      |zero=>simp at hk
      |succ k=>rw [Hm,Hm];exact ih _ k (by simpa using hk)
    rw [hz es T k (by simpa using hk)];exact ax _
   |some e=>rw [FE es k T e hk];exact (qm ..).1
def xK (T:List V):Option (Tmp×Bool)→Option Bool
 |none=>some true
 |some (g,want)=>match T.getD g cW with
  | .prim (.bool t)=>some (t==want)
  | .tup []=>some false
  |_=>none
theorem GZ {T:List V} {a:Act} (hT:VRs φ I w T a.tmps) {g:Option (Tmp×Bool)} {b:Bool} (h:xK T g=some b):gAt a.tmps g=b:=by
 cases g with
 |none=>simp [xK] at h;subst h;rfl
 |some p=>
  obtain ⟨d,want⟩:=p
  simp only [xK,gAt] at h ⊢
  cases hd:T[d]? with
  |none=>
   have hd2:a.tmps[d]? =none:=by
    rw [List.getElem?_eq_none_iff] at hd
    rw [Array.getElem?_eq_none_iff,←hT.len];exact hd
   simp [List.getD,hd,cW] at h
   rw [hd2];exact h.symm▸rfl
  |some v=>
   obtain ⟨x,hx,hv⟩:=hT.get hd
   rw [hx]
   simp only [List.getD,hd,bG] at h
   split at h
   ·cases hv;cases h;rfl
   ·cases hv with
    |tup h1 _=>cases h;rfl
   ·cases h
def xZ (P:Program) (T:List V) (H:Hp) (o:LOp) (e:Ent):Prop:=
 e.dst=o.dst∧e.nid=H.length∧((xK T o.guard=some true∧oz P T H e.nid o.op e.v e.wr)∨(xK T o.guard=some false∧e.v=cW∧e.wr=[]))
def Tr (P:Program):List LOp→x7→List Ent→List V→Hp→Prop
 |[],_,es,_,_=>es=[]
 |o::os,h,es,T,H=>∃ e es',es=e::es'∧xZ P T H o e∧match foot T H H.length o.op with
  |none=>Tr P os h es' (putT T o.dst e.v) (app e.wr H)
  |some f=>h.any (pd o.bef f)=false∧Tr P os ((o.idx,f)::h) es' (putT T o.dst e.v) (app e.wr H)
theorem FM {T:List V} {o:LOp} {K:V→Hp→Prop} (h:wpG (iE P) T H o K):∃ e,xZ P T H o e∧K e.v (app e.wr H):=by
 have run:iE P T H o.op K→xK T o.guard=some true→∃ e,xZ P T H o e∧K e.v (app e.wr H):=by
  intro h hg
  obtain ⟨v,wr,hev,hk⟩:=CG h
  exact ⟨⟨o.dst,v,wr,H.length⟩,⟨rfl,rfl,.inl ⟨hg,hev⟩⟩,hk⟩
 have skip:K cW H→xK T o.guard=some false→∃ e,xZ P T H o e∧K e.v (app e.wr H):=by
  intro h hg
  exact ⟨⟨o.dst,cW,[],H.length⟩,⟨rfl,rfl,.inr ⟨hg,rfl,rfl⟩⟩,h⟩
 unfold wpG at h
 split at h
 ·rename_i hg;exact run h (by rw [hg];rfl)
 ·rename_i g want hg
  split at h
  ·rename_i t ht
   by_cases e:t=want
   ·exact run (h.1 e) (by rw [hg];simp [xK,←List.getD_eq_getElem?_getD,ht,e])
   ·exact skip (h.2 (by cases t<;>cases want<;>simp_all)) (by rw [hg];simp [xK,←List.getD_eq_getElem?_getD,ht,e])
  ·rename_i ht;exact skip h (by rw [hg];simp [xK,←List.getD_eq_getElem?_getD,ht])
  ·exact h.elim
theorem wZ {Q:List V→Hp→Prop}:∀ (os:List LOp) (h:x7) (T:List V) (H:Hp),mR P os h T H Q→∃ es,Tr P os h es T H∧Q (Tm es T os.length) (Hm es H os.length)
 |[],h,T,H,hh=>⟨[],rfl,hh⟩
 |o::os,h,T,H,hh=>by
  unfold mR at hh
  split at hh
  ·rename_i hf
   obtain ⟨e,he,hk⟩:=FM hh
   obtain ⟨es,h1,h2⟩:=wZ os _ _ _ hk
   refine ⟨e::es,⟨e,es,rfl,he,?_⟩,?_⟩
   ·rw [hf];exact h1
   ·rw [aC,Tm,Hm,he.1];exact h2
  ·rename_i f hf
   obtain ⟨e,he,hk⟩:=FM hh.2
   obtain ⟨es,h1,h2⟩:=wZ os _ _ _ hk
   refine ⟨e::es,⟨e,es,rfl,he,?_⟩,?_⟩
   ·rw [hf];exact ⟨hh.1,h1⟩
   ·rw [aC,Tm,Hm,he.1];exact h2
theorem Tr.length:∀ {os:List LOp} {h:x7} {es:List Ent} {T:List V} {H:Hp},Tr P os h es T H→es.length=os.length
 |[],h,es,T,H,hh=>by rw [hh];rfl
 |o::os,h,es,T,H,hh=>by
  obtain ⟨e,es',rfl,h1,h2⟩:=hh
  split at h2
  ·simp [Tr.length h2]
  ·simp [Tr.length h2.2]
theorem Tr.at_:∀ {os:List LOp} {h:x7} {es:List Ent} {T:List V} {H:Hp},Tr P os h es T H→∀ (m:Nat) (e:Ent) (o:LOp),es[m]? =some e→os[m]? =some o→
 xZ P (Tm es T m) (Hm es H m) o e∧∀ f,foot (Tm es T m) (Hm es H m) e.nid o.op=some f→(∀ x∈h,pd o.bef f x=false)∧
  ∀ (k:Nat) (ek:Ent) (ok:LOp) (fk:Bool×List Nat),k<m→es[k]? =some ek→os[k]? =some ok→foot (Tm es T k) (Hm es H k) ek.nid ok.op=some fk→pd o.bef f (ok.idx,fk)=false
 |[],h,es,T,H,hh,m,e,o,he,ho=>by simp at ho
 |o0::os,h,es,T,H,hh,0,e,o,he,ho=>by
  obtain ⟨e0,es',rfl,h1,h2⟩:=hh
  simp only [aN,bu] at he ho
  subst he;subst ho
  rw [Tm,Hm]
  refine ⟨h1,fun f hf=>⟨fun x hx=> ?_,fun k ek ok fk hk=>by omega⟩⟩
  rw [h1.2.1] at hf
  rw [hf] at h2
  have:=h2.1
  rw [List.any_eq_false] at this
  simpa using this x hx
 |o0::os,h,es,T,H,hh,m+1,e,o,he,ho=>by
  obtain ⟨e0,es',rfl,h1,h2⟩:=hh
  simp only [aV] at he ho
  have hd:=h1.1
  rw [←hd] at h2
  rw [Tm,Hm]
  split at h2
  ·rename_i hf0
   obtain ⟨g1,g2⟩:=Tr.at_ h2 m e o he ho
   refine ⟨g1,fun f hf=>⟨(g2 f hf).1,fun k ek ok fk hk hek hok hfk=> ?_⟩⟩
   cases k with
   |zero=>
    simp only [aN,bu] at hek hok
    subst hek;subst hok
    rw [Tm,Hm,h1.2.1,hf0] at hfk;cases hfk
   |succ k=>
    simp only [aV] at hek hok
    rw [Tm,Hm] at hfk
    exact (g2 f hf).2 k ek ok fk (by omega) hek hok hfk
  ·rename_i f0 hf0
   obtain ⟨g1,g2⟩:=Tr.at_ h2.2 m e o he ho
   refine ⟨g1,fun f hf=>⟨fun x hx=>(g2 f hf).1 x (ag _ hx),fun k ek ok fk hk hek hok hfk=> ?_⟩⟩
   cases k with
   |zero=>
    simp only [aN,bu] at hek hok
    subst hek;subst hok
    rw [Tm,Hm,h1.2.1,hf0] at hfk;cases hfk
    exact (g2 f hf).1 _ (ah ..)
   |succ k=>
    simp only [aV] at hek hok
    rw [Tm,Hm] at hfk
    exact (g2 f hf).2 k ek ok fk (by omega) hek hok hfk
end Go.Av
namespace Go.Av
open Go.RowKit
variable {P:Program} {φ φ' φ'':Nat→Option Loc} {I I' I'' J:Nat→Prop} {H H' H'':Hp} {w w' w'':World}
theorem oW {ops:Array Oper} {b:Array Nat}:∀ {os:List Oper} {i:Nat} {l:List LOp},kg ops b i os=some l→l.length=os.length∧
 ∀ (m:Nat) (o:Oper),os[m]? =some o→∃ g,oe ops o=some g∧uS o.op=true∧l[m]? =some ⟨o.dst,o.op,g,i+m,b.getD (i+m) 0⟩
 |[],i,l,h=>by simp [kg] at h;subst h;simp
 |o::os,i,l,h=>by
  obtain ⟨g,l',hg,hl',hok,rfl⟩:=n8 h
  obtain ⟨h1,h2⟩:=oW hl'
  refine ⟨by simp [h1],fun m o' ho=> ?_⟩
  cases m with
  |zero=>simp only [aN,bu] at ho;subst ho;exact ⟨g,hg,hok,rfl⟩
  |succ m=>
   simp only [aV] at ho
   obtain ⟨g',k1,k2,k3⟩:=h2 m o' ho
   exact ⟨g',k1,k2,by rw [aV,k3];rw [show i+1+m=i+(m+1) by omega]⟩
theorem tU {ops:Array Oper} (hd:sB ops=true) {i j:Nat} {x y:Oper} (hij:i<j) (hx:ops[i]? =some x) (hy:ops[j]? =some y):
 ((Region.before ops).getD j 0).testBit i=true∨BO ops x y=true:=by
 unfold sB at hd
 simp only [List.all_eq_true,dz,Bool.and_eq_true] at hd
 have hj:j<ops.size:=(Array.getElem?_eq_some_iff.1 hy).1
 have:=(hd j hj).2 i hij
 rw [hx,hy] at this
 simpa using this
theorem xN {ops:Array Oper} (hd:sB ops=true) {j:Nat} {y:Oper} (hy:ops[j]? =some y) {e:Edge} (he:e∈y.after) (hb:Region.binds .any e=true):e.on<j:=by
 unfold sB at hd
 simp only [List.all_eq_true,dz,Bool.and_eq_true] at hd
 have hj:j<ops.size:=(Array.getElem?_eq_some_iff.1 hy).1
 have:=(hd j hj).1
 rw [hy] at this
 simp only [List.all_eq_true] at this
 have:=this e (by simpa using he)
 simpa [hb] using this
def BK (acc:Array Nat) (o:Oper):Nat:=o.after.foldl (fun s e=>if Region.binds .any e then s|||2^e.on|||acc.getD e.on 0 else s) 0
theorem Sb:∀ (l:List Oper) (acc:Array Nat),let R:=l.foldl (fun acc o=>acc.push (BK acc o)) acc
 (∀ k,k<acc.size→R.getD k 0=acc.getD k 0)∧(acc.size≤R.size)∧∀ (m:Nat),(m<l.length→∃ o acc',l[m]? =some o∧(∀ k,acc'.getD k 0=R.getD k 0∨acc'.getD k 0=0)∧R.getD (acc.size+m) 0=BK acc' o)∧(l.length≤m→R.getD (acc.size+m) 0=0)
 |[],acc=>by
  refine ⟨fun k _=>rfl,ax _,fun m=>⟨fun h=>by simp at h,fun _=> ?_⟩⟩
  simp only [Array.getD]
  split
  ·rename_i h;exact absurd h (by simp)
  ·rfl
 |o::l,acc=>by
  obtain ⟨h1,h2,h3⟩:=Sb l (acc.push (BK acc o))
  simp only [List.foldl_cons]
  generalize List.foldl (fun acc o=>acc.push (BK acc o)) (acc.push (BK acc o)) l=R at*
  simp only [Array.size_push] at h1 h2 h3
  refine ⟨fun k hk=> ?_,by omega,fun m=> ?_⟩
  ·rw [h1 k (by omega)]
   simp only [Array.getD_eq_getD_getElem?,Array.getElem?_push]
   rw [if_neg (by omega)]
  ·cases m with
   |zero=>
    refine ⟨fun _=>⟨o,acc,rfl,fun k=> ?_,?_⟩,fun h=>by simp at h⟩
    ·by_cases hk:k<acc.size
     ·left
      rw [h1 k (by omega)]
      simp only [Array.getD_eq_getD_getElem?,Array.getElem?_push]
      rw [if_neg (by omega)]
     ·right;simp [Array.getD,hk]
    ·rw [Nat.add_zero,h1 acc.size (by omega)]
     simp [Array.getD_eq_getD_getElem?]
   |succ m=>
    obtain ⟨k1,k2⟩:=h3 m
    rw [show acc.size+1+m=acc.size+(m+1) by omega] at k1 k2
    refine ⟨fun h=> ?_,fun h=>k2 (by simpa using h)⟩
    obtain ⟨o',acc',q1,q2,q3⟩:=k1 (by simpa using h)
    exact ⟨o',acc',by simpa using q1,q2,q3⟩
theorem NW {i:Nat} {acc:Array Nat}:∀ (l:List Edge) (s:Nat),(l.foldl (fun s e=>if Region.binds .any e then s|||2^e.on|||acc.getD e.on 0 else s) s).testBit i=true→
 s.testBit i=true∨∃ e∈l,Region.binds .any e=true∧(i=e.on∨(acc.getD e.on 0).testBit i=true)
 |[],s,h=> .inl h
 |e::l,s,h=>by
  simp only [List.foldl_cons] at h
  rcases NW l _ h with h|⟨e',he',h⟩
  ·split at h
   ·rename_i hb
    simp only [Nat.testBit_or,Bool.or_eq_true,Nat.testBit_two_pow,aE] at h
    rcases h with (h|h)|h
    ·exact .inl h
    ·exact .inr ⟨e,ah ..,hb,.inl h.symm⟩
    ·exact .inr ⟨e,ah ..,hb,.inr h⟩
   ·exact .inl h
  ·exact .inr ⟨e',ag _ he',h⟩
theorem qO {ops:Array Oper} {i j:Nat} (h:((Region.before ops).getD j 0).testBit i=true):
 ∃ o,ops[j]? =some o∧∃ e∈o.after,Region.binds .any e=true∧(i=e.on∨((Region.before ops).getD e.on 0).testBit i=true):=by
 have hb:Region.before ops=ops.toList.foldl (fun acc o=>acc.push (BK acc o)) #[]:=by
  unfold Region.before;rw [←Array.foldl_toList];rfl
 obtain ⟨_,_,h3⟩:=Sb ops.toList #[]
 rw [←hb] at h3
 obtain ⟨k1,k2⟩:=h3 j
 simp only [List.size_toArray,aI,aX] at k1 k2
 rcases am j ops.toList.length with hj|hj
 ·obtain ⟨o,acc',q1,q2,q3⟩:=k1 hj
  rw [q3] at h
  unfold BK at h
  rw [←Array.foldl_toList] at h
  rcases NW _ _ h with h|⟨e,he,hbd,h⟩
  ·simp at h
  ·refine ⟨o,by simpa using q1,e,by simpa using he,hbd,?_⟩
   rcases h with h|h
   ·exact .inl h
   ·rcases q2 e.on with q|q
    ·right;rw [←q];exact h
    ·rw [q] at h;simp at h
 ·rw [k2 hj] at h;simp at h
def vG (ops:Array Oper) (L:Nat→Bool):Prop:=∀ i j,L j=true→((Region.before ops).getD j 0).testBit i=true→L i=true
def qr (L:Nat→Bool) (i:Nat):Nat→Bool:=fun k=>L k||decide (k=i)
section
variable {ops:Array Oper} {l:List LOp} {es:List Ent} {T:List V} {L:Nat→Bool} {i:Nat} {m0:Nat}
structure Ctx (P:Program) (ops:Array Oper) (l:List LOp) (es:List Ent) (T:List V) (H:Hp) (m0:Nat):Prop where
 hd:sB ops=true
 hl:kg ops (Region.before ops) 0 ops.toList=some l
 hm:m0≤ops.size
 tr:Tr P (l.take m0) [] es T H
def Rdy (ops:Array Oper) (L:Nat→Bool) (i:Nat):Prop:=L i=false∧∀ j,((Region.before ops).getD i 0).testBit j=true→L j=true
theorem Ctx.size (c:Ctx P ops l es T H m0):es.length=m0∧l.length=ops.size:=by
 have h1:=c.tr.length
 have h2:=(oW c.hl).1
 have h3:=c.hm
 simp at h2
 rw [d9,h2,Nat.min_eq_left h3] at h1
 exact ⟨h1,h2⟩
theorem z8 {l:List LOp} {m k:Nat} {o:LOp} (h:l[k]? =some o) (hk:k<m):(l.take m)[k]? =some o:=by rw [List.getElem?_take_of_lt hk];exact h
theorem Ctx.ent (c:Ctx P ops l es T H m0) {m:Nat} {e:Ent} (he:es[m]? =some e):∃ o g,ops[m]? =some o∧oe ops o=some g∧uS o.op=true∧l[m]? =some ⟨o.dst,o.op,g,m,(Region.before ops).getD m 0⟩∧
 xZ P (Tm es T m) (Hm es H m) ⟨o.dst,o.op,g,m,(Region.before ops).getD m 0⟩ e:=by
 have hm:m<es.length:=(aH.1 he).1
 rw [c.size.1] at hm
 have hm1:m<ops.size:=Nat.lt_of_lt_of_le hm c.hm
 obtain ⟨g,h1,h2,h3⟩:=(oW c.hl).2 m ops[m] (by simp [hm1])
 simp only [aX] at h3
 exact ⟨ops[m],g,by simp [hm1],h1,h2,h3,(c.tr.at_ m e _ he (z8 h3 hm)).1⟩
theorem Ctx.foot (c:Ctx P ops l es T H m0) {m k:Nat} {e ek:Ent} {o ok:Oper} (hm:ops[m]? =some o) (hk:ops[k]? =some ok) (he:es[m]? =some e) (hek:es[k]? =some ek) (hlt:k<m) {f fk:Bool×List Nat}
 (hf:Av.foot (Tm es T m) (Hm es H m) e.nid o.op=some f) (hfk:Av.foot (Tm es T k) (Hm es H k) ek.nid ok.op=some fk) (hw:f.1=true∨fk.1=true) {b:Nat} (hb:b∈f.2) (hbk:b∈fk.2):
 ((Region.before ops).getD m 0).testBit k=true:=by
 obtain ⟨g,_,_,h3⟩:=(oW c.hl).2 m o (by simpa using hm)
 obtain ⟨g',_,_,h3'⟩:=(oW c.hl).2 k ok (by simpa using hk)
 simp only [aX] at h3 h3'
 have hml:m<m0:=by rw [←c.size.1];exact (aH.1 he).1
 have:=((c.tr.at_ m e _ he (z8 h3 hml)).2 f hf).2 k ek _ fk hlt hek (z8 h3' (Nat.lt_trans hlt hml)) hfk
 unfold pd at this
 simp only [Bool.and_eq_false_iff,Bool.not_eq_eq_eq_not,Bool.not_false,Bool.or_eq_false_iff] at this
 rcases this with (h|h)|h
 ·exact h
 ·rcases hw with hw|hw
  ·rw [h.1] at hw;cases hw
  ·rw [h.2] at hw;cases hw
 ·rw [List.any_eq_false] at h
  exact absurd (by simpa using hbk) (h b hb)
theorem memT (c:Ctx P ops l es T H m0) (hcl:vG ops L) (hr:Rdy ops L i) {o ok:Oper} (ho:ops[i]? =some o) {k:Nat} (hk:ops[k]? =some ok) {t:Tmp} (hdst:ok.dst=some t) (ht:t∈w7 ops o):L k=decide (k<i):=by
 rcases Nat.lt_trichotomy k i with h|h|h
 ·rcases tU c.hd h hk ho with hb|hap
  ·rw [hr.2 k hb];simp [h]
  ·unfold BO at hap
   rw [hdst] at hap
   simp [ht] at hap
 ·subst h;rw [hr.1];simp
 ·rcases tU c.hd h ho hk with hb|hap
  ·cases hL:L k with
   |false=>simp;omega
   |true=>have:=hcl i k hL hb;rw [hr.1] at this;cases this
  ·unfold BO at hap
   rw [hdst] at hap
   simp [ht] at hap
theorem memD (c:Ctx P ops l es T H m0) (hcl:vG ops L) (hr:Rdy ops L i) {o ok:Oper} (ho:ops[i]? =some o) {k:Nat} (hk:ops[k]? =some ok) {t:Tmp} (hdst:ok.dst=some t) (ht:o.dst=some t) (hik:i<k):L k=false:=by
 rcases tU c.hd hik ho hk with hb|hap
 ·cases hL:L k with
  |false=>rfl
  |true=>have:=hcl i k hL hb;rw [hr.1] at this;cases this
 ·unfold BO at hap
  rw [hdst,ht] at hap
  simp at hap
theorem Ctx.wr (c:Ctx P ops l es T H m0) {m:Nat} {e:Ent} {o:Oper} (he:es[m]? =some e) (ho:ops[m]? =some o) {b:Nat} (hb:b∈e.wr.map (·.1)):
 (b=e.nid∨b<(Hm es H m).length)∧∃ f,Av.foot (Tm es T m) (Hm es H m) e.nid o.op=some f∧f.1=true∧b∈f.2:=by
 obtain ⟨o',g,h1,_,_,_,h5⟩:=c.ent he
 rw [ho] at h1;cases h1
 obtain ⟨p,hp,rfl⟩:=av.1 hb
 rcases h5.2.2 with ⟨_,h⟩|⟨_,_,h⟩
 ·exact h.writes p hp
 ·rw [h] at hp;simp at hp
theorem Ctx.nid (c:Ctx P ops l es T H m0) {m:Nat} {e:Ent} (he:es[m]? =some e):e.nid=(Hm es H m).length:=by
 obtain ⟨o',g,h1,_,_,_,h5⟩:=c.ent he
 exact h5.2.1
theorem Sv (c:Ctx P ops l es T H m0) (hcl:vG ops L) (hr:Rdy ops L i) {o:Oper} (ho:ops[i]? =some o) {e ek:Ent} (he:es[i]? =some e) {k:Nat} (hek:es[k]? =some ek) {f:Bool×List Nat} (hf:Av.foot (Tm es T i) (Hm es H i) e.nid o.op=some f)
 {b:Nat} (hb:b∈f.2) (hbk:b∈ek.wr.map (·.1)):L k=decide (k<i):=by
 obtain ⟨ok,gk,hok,_⟩:=c.ent hek
 obtain ⟨_,fk,hfk,hw,hbf⟩:=c.wr hek hok hbk
 rcases Nat.lt_trichotomy k i with h|h|h
 ·have:=c.foot ho hok he hek h hf hfk (.inr hw) hb hbf
  rw [hr.2 k this];simp [h]
 ·subst h;rw [hr.1];simp
 ·have:=c.foot hok ho hek he h hfk hf (.inl hw) hbf hb
  cases hL:L k with
  |false=>simp;omega
  |true=>have:=hcl i k hL this;rw [hr.1] at this;cases this
structure Inv (P:Program) (ops:Array Oper) (es:List Ent) (T:List V) (H:Hp) (L:Nat→Bool) (φ:Nat→Option Loc) (I:Nat→Prop) (H':Hp) (w:World) (a:Act):Prop where
 cl:vG ops L
 t:VRs φ I w (stT L 0 es T) a.tmps
 s:SR φ I H' w
 g:∀ b,get H' b=get (stH L 0 es H) b
 n:H'.length=(Hm es H es.length).length
 f:∀ i e,es[i]? =some e→L i=false→e.nid∈e.wr.map (·.1)→φ e.nid=none
theorem vG.add (hcl:vG ops L) (hr:Rdy ops L i):vG ops (qr L i):=by
 intro a b hb ht
 simp only [qr,Bool.or_eq_true,aE] at hb ⊢
 rcases hb with hb|rfl
 ·exact .inl (hcl a b hb ht)
 ·exact .inl (hr.2 a ht)
theorem Jd {wr:List (Nat×Option Blk)} {X:Hp} (h:∀ p∈wr,p.1<X.length):(app wr X).length=X.length:=
 Nat.le_antisymm ((qm wr X).2.2 _ (ax _) h) (qm wr X).1
theorem Inv.step (c:Ctx P ops l es T H m0) {a:Act} (hv:Inv P ops es T H L φ I H' w a) (hr:Rdy ops L i) (him:i<m0) {o:Oper} (ho:ops[i]? =some o) {ro:Option Nat} {n:Nat} {Qc:Exit→Act→World→Prop} {K:Act→World→Prop}
 (hK:∀ φ' I' H'' w' a',Inv P ops es T H (qr L i) φ' I' H'' w' a'→iC φ I H' w φ' I' H'' w'→a'.defers=a.defers→K a' w'):wpOpIn (FR ro) n P ops Qc i K a w:=by
 have hi:i<es.length:=by rw [c.size.1];exact him
 obtain ⟨e,he⟩:∃ e,es[i]? =some e:=⟨es[i],by simp [hi]⟩
 obtain ⟨o',g,ho',hgd,hok,_,hst⟩:=c.ent he
 rw [ho] at ho';cases ho'
 have hslot:∀ t∈w7 ops o,(stT L 0 es T)[t]? =(Tm es T i)[t]? :=by
  intro t ht
  rw [KC es 0 i]
  refine rg es 0 T T rfl (fun m e' he' hdst=> ?_)
  obtain ⟨om,_,hom,_,_,_,hsm⟩:=c.ent he'
  simp only [aX]
  exact memT c hv.cl hr ho hom (by rw [←hdst,hsm.1]) ht
 have hop:∀ x∈o.op.operands,ev (Tm es T i) x=ev (stT L 0 es T) x:=by
  intro x hx
  cases x with
  |tmp t=>
   simp only [ev,List.getD]
   rw [hslot t]
   unfold w7
   exact bg _ (List.mem_filterMap.2 ⟨.tmp t,by simpa using hx,rfl⟩)
  |_=>rfl
 have hgdV:xK (stT L 0 es T) g=xK (Tm es T i) g:=by
  cases g with
  |none=>rfl
  |some p=>
   obtain ⟨d,want⟩:=p
   simp only [xK,List.getD]
   rw [hslot d]
   unfold w7
   rw [hgd]
   simp
 have hwr2:∀ k ek,es[k]? =some ek→i<k→∀ b,b∈e.wr.map (·.1)→b∈ek.wr.map (·.1)→L k=false:=by
  intro k ek hek hik b hb hbk
  obtain ⟨_,f,hf,_,hbf⟩:=c.wr he ho hb
  have:=Sv c hv.cl hr ho he hek hf hbf hbk
  rw [this];simp;omega
 have hnT:putT (stT L 0 es T) o.dst e.v=stT (qr L i) 0 es T:=by
  refine List.ext_getElem? fun d=> ?_
  rw [s9]
  split
  ·rename_i hdst
   rcases am d T.length with hlt|hge
   ·rw [F3 (L:=qr L i) (e:=e) (d:=d) (by rw [hst.1];exact hdst) es 0 i T hlt he (by simp [qr])]
    ·have:d<(stT L 0 es T).length:=by rw [rY];exact hlt
     simp [this]
    ·intro m' e' hm he' hd'
     obtain ⟨om,_,hom,_,_,_,hsm⟩:=c.ent he'
     simp only [aX,qr,Bool.or_eq_false_iff,aG]
     exact ⟨memD c hv.cl hr ho hom (by rw [←hd',hsm.1]) hdst hm,by omega⟩
   ·rw [List.getElem?_eq_none (by rw [rY];exact hge),List.getElem?_eq_none (by rw [rY];exact hge)];rfl
  ·rename_i hdst
   refine rg es 0 T T rfl (fun m e' he' hd'=> ?_)
   simp only [aX,qr]
   by_cases hmi:m=i
   ·subst hmi;rw [he] at he';cases he';rw [hst.1] at hd';exact absurd hd' hdst
   ·simp [hmi]
 have hnH:∀ b,get (app e.wr H') b=get (stH (qr L i) 0 es H) b:=by
  intro b
  by_cases hb:b∈e.wr.map (·.1)
  ·rw [F4 (L:=qr L i) (e:=e) (b:=b) hb H' es 0 i H he (by simp [qr])]
   intro m' e' hm he' hd'
   simp only [aX,qr,Bool.or_eq_false_iff,aG]
   exact ⟨hwr2 m' e' he' hm b hb hd',by omega⟩
  ·rw [FC _ _ _ hb,hv.g]
   refine pS es 0 H H rfl (fun m e' he' hd'=> ?_)
   simp only [aX,qr]
   by_cases hmi:m=i
   ·subst hmi;rw [he] at he';cases he';exact absurd hd' hb
   ·simp [hmi]
 have hlen:∀ k ek,es[k]? =some ek→∀ b,b∈ek.wr.map (·.1)→b<(Hm es H (k+1)).length:=by
  intro k ek hek b hb
  rw [FE es k H ek hek]
  obtain ⟨p,hp,rfl⟩:=av.1 hb
  exact (qm ek.wr (Hm es H k)).2.1 p hp
 have hwN:∀ b,b∈e.wr.map (·.1)→b<H'.length:=by
  intro b hb
  rw [hv.n]
  exact Nat.lt_of_lt_of_le (hlen i e he b hb) (uO es H (by omega))
 have hN:(app e.wr H').length=(Hm es H es.length).length:=by
  rw [Jd (fun p hp=>hwN p.1 (av.2 ⟨p,hp,rfl⟩)),hv.n]
 have hinv:∀ {x:Value} {w':World} {φ':Nat→Option Loc} {I':Nat→Prop} {H'':Hp},H''=app e.wr H'→VR φ' I' w' e.v x→SR φ' I' H'' w'→iC φ I H' w φ' I' H'' w'→
  (∀ k ek,es[k]? =some ek→qr L i k=false→ek.nid∈ek.wr.map (·.1)→φ' ek.nid=none)→Inv P ops es T H (qr L i) φ' I' H'' w' (a.put o.dst x):=by
  rintro x w' φ' I' _ rfl hvx hs hstep hf
  exact ⟨hv.cl.add hr,by rw [←hnT];exact (hv.t.step hv.s hstep).putT hvx,hs,hnH,hN,hf⟩
 unfold wpOpIn
 rw [ho]
 try simp only
 rw [CK hgd a]
 rcases hst.2.2 with ⟨hg1,hev⟩|⟨hg1,hv0,hw0⟩
 ·rw [←hgdV] at hg1
  rw [GZ hv.t hg1,if_pos rfl]
  have hev':oz P (stT L 0 es T) H' e.nid o.op e.v e.wr:=by
   refine hev.frame hop (fun f hf b hb=> ?_)
   rw [hv.g,KG es 0 i]
   refine (pS es 0 H H rfl (fun m e' he' hd'=> ?_)).symm
   simp only [aX]
   exact Sv c hv.cl hr ho he he' hf hb hd'
  by_cases hal:e.nid∈e.wr.map (·.1)
  ·have hget:get H' e.nid=none:=by
    obtain ⟨_,f,hf,_,hbf⟩:=c.wr he ho hal
    rw [hv.g,pS (L':=fun k=>decide (k<0+i)) es 0 H H rfl,←KG es 0 i H]
    ·exact oh (by rw [c.nid he];exact ax _)
    ·intro m e' he' hd'
     simp only [aX]
     exact Sv c hv.cl hr ho he he' hf hbf hd'
   refine hev'.sound hok hv.t hv.s (hv.f i e he hr.1 hal) hget (Nat.le_of_lt (hwN _ hal)) ?_
   intro x w' φ' I' h1 h2 h3 h4
   refine hK φ' I' _ w' _ (hinv rfl h1 h2 h3 ?_) h3 nj
   intro k ek hek hLk halk
   simp only [qr,Bool.or_eq_false_iff,aG] at hLk
   rw [h4 _ ?_]
   ·exact hv.f k ek hek hLk.1 halk
   ·rw [c.nid hek,c.nid he]
    have a1:=hlen i e he _ hal
    have a2:=hlen k ek hek _ halk
    rw [c.nid he] at a1
    rw [c.nid hek] at a2
    rcases am k i with h|h
    ·have:=uO es H (show k+1≤i by omega);omega
    ·have:=uO es H (show i+1≤k by omega);omega
  ·have hev2:=hev'.renid (fun p hp heq=>hal (av.2 ⟨p,hp,heq⟩)) H'.length
   refine hev2.sound hok hv.t hv.s hv.s.fresh (oh (ax _)) (ax _) ?_
   intro x w' φ' I' h1 h2 h3 h4
   refine hK φ' I' _ w' _ (hinv rfl h1 h2 h3 ?_) h3 nj
   intro k ek hek hLk halk
   simp only [qr,Bool.or_eq_false_iff,aG] at hLk
   rw [h4 _ ?_]
   ·exact hv.f k ek hek hLk.1 halk
   ·have a2:=hlen k ek hek _ halk
    have a3:=uO es H (show k+1≤es.length by have:=(aH.1 hek).1;omega)
    rw [hv.n];omega
 ·rw [←hgdV] at hg1
  rw [GZ hv.t hg1,if_neg (by simp)]
  refine ⟨fun _ _=>trivial,?_⟩
  have e0:app e.wr H'=H':=by rw [hw0];rfl
  refine hK φ I H' w _ (hinv e0.symm (by rw [hv0];exact nQ) hv.s iC.refl ?_) iC.refl nj
  intro k ek hek hLk halk
  simp only [qr,Bool.or_eq_false_iff,aG] at hLk
  exact hv.f k ek hek hLk.1 halk
def Jh (ops:Array Oper) (m0:Nat):Prop:=∀ i j,i<j→m0≤j→j<ops.size→((Region.before ops).getD j 0).testBit i=true
theorem Ms (c:Ctx P ops l es T H m0) (htail:Jh ops m0) {ro:Option Nat} {n:Nat} {Qc:Exit→Act→World→Prop} {φ₀:Nat→Option Loc} {I₀:Nat→Prop} {H₀:Hp} {w₀:World} {D:List Deferred}
 (hQ:∀ φ' I' w' a' fuel listed,ops.size-m0≤fuel→listed.size=ops.size→(∀ k,listed.getD k false=decide (k<m0))→VRs φ' I' w' (Tm es T m0) a'.tmps→SR φ' I' (Hm es H m0) w'→iC φ₀ I₀ H₀ w₀ φ' I' (Hm es H m0) w'→a'.defers=D→wpAnyIn (FR ro) n P .any ops Qc fuel listed a' w'):
 ∀ (fuel:Nat) (U:List Nat) (listed:Array Bool) (a:Act) (w:World) (φ:Nat→Option Loc) (I:Nat→Prop) (H':Hp),U.length+(ops.size-m0)≤fuel→listed.size=ops.size→(∀ i,i<m0→listed.getD i false=false→i∈U)→(∀ i,m0≤i→listed.getD i false=false)→
  Inv P ops es T H (fun k=>listed.getD k false) φ I H' w a→iC φ₀ I₀ H₀ w₀ φ I H' w→a.defers=D→wpAnyIn (FR ro) n P .any ops Qc fuel listed a w:=by
 have fin:∀ (fuel:Nat) (listed:Array Bool) (a:Act) (w:World) (φ:Nat→Option Loc) (I:Nat→Prop) (H':Hp),ops.size-m0≤fuel→listed.size=ops.size→(∀ i,i<m0→listed.getD i false=true)→(∀ i,m0≤i→listed.getD i false=false)→
  Inv P ops es T H (fun k=>listed.getD k false) φ I H' w a→iC φ₀ I₀ H₀ w₀ φ I H' w→a.defers=D→wpAnyIn (FR ro) n P .any ops Qc fuel listed a w:=by
  intro fuel listed a w φ I H' hfu hsz hall hnone hv hst hdf
  have hT:stT (fun k=>listed.getD k false) 0 es T=Tm es T m0:=by
   rw [KC es 0 m0]
   refine List.ext_getElem? fun d=>rg es 0 T T rfl (fun m e' he' hd'=> ?_)
   have hm:m<m0:=by rw [←c.size.1];exact (aH.1 he').1
   simp only [aX]
   rw [hall m hm];simp [hm]
  have hH:H'=Hm es H m0:=by
   have hn:=hv.n
   rw [c.size.1] at hn
   refine List.ext_getElem hn fun b h1 h2=> ?_
   have:=hv.g b
   rw [pS (L':=fun k=>decide (k<0+m0)) es 0 H H rfl,←KG es 0 m0 H] at this
   ·simpa [get,h1,h2] using this
   ·intro m e' he' hd'
    have hm:m<m0:=by rw [←c.size.1];exact (aH.1 he').1
    simp only [aX]
    rw [hall m hm];simp [hm]
  subst hH
  refine hQ φ I w a fuel listed hfu hsz (fun k=> ?_) (by rw [←hT];exact hv.t) hv.s hst hdf
  rcases am k m0 with h|h
  ·rw [hall k h];simp [h]
  ·rw [hnone k h];simp;exact h
 have rdy:∀ (listed:Array Bool) (a:Act) (w:World) (φ:Nat→Option Loc) (I:Nat→Prop) (H':Hp),listed.size=ops.size→Inv P ops es T H (fun k=>listed.getD k false) φ I H' w a→∀ i,i∈Region.ready .any ops listed→
  i<ops.size∧Rdy ops (fun k=>listed.getD k false) i:=by
  intro listed a w φ I H' hsz hv i hi
  obtain ⟨h0,o,ho,hall⟩:=mem_ready.1 hi
  have hi:i<ops.size:=(Array.getElem?_eq_some_iff.1 ho).1
  have h':i<listed.size:=by omega
  refine ⟨hi,?_,?_⟩
  ·simp [Array.getD,h'] at h0 ⊢;exact h0
  ·intro j hj
   obtain ⟨o',ho',e,he,hb,h⟩:=qO hj
   rw [ho] at ho';cases ho'
   have h1:=hall e he hb
   rcases h with rfl|h
   ·exact h1
   ·exact hv.cl j e.on h1 h
 have some_ready:∀ (listed:Array Bool),listed.size=ops.size→∀ i,i<m0→listed.getD i false=false→Region.ready .any ops listed≠[]:=by
  intro listed hsz i hi hL hr
  have hm:=c.hm
  induction i using Nat.strongRecOn with
  |ind i ih=>
   have:i∈Region.ready .any ops listed:=by
    refine mem_ready.2 ⟨?_,ops[i],by simp [show i<ops.size by omega],?_⟩
    ·have h':i<listed.size:=by omega
     simp [Array.getD,h'] at hL ⊢;exact hL
    ·intro e he hb
     have h1:=xN c.hd (j:=i) (y:=ops[i]) (by simp [show i<ops.size by omega]) he hb
     cases hle:listed.getD e.on false with
     |true=>rfl
     |false=>exact (ih e.on h1 (by omega) hle).elim
   rw [hr] at this
   simp at this
 intro fuel
 induction fuel with
 |zero=>
  intro U listed a w φ I H' hU hsz hun hnone hv hst hdf
  have hU0:U=[]:=List.length_eq_zero_iff.1 (by omega)
  refine fin 0 listed a w φ I H' (by omega) hsz (fun i hi=> ?_) hnone hv hst hdf
  cases hL:listed.getD i false with
  |true=>rfl
  |false=>have:=hun i hi hL;rw [hU0] at this;simp at this
 |succ fuel ih=>
  intro U listed a w φ I H' hU hsz hun hnone hv hst hdf
  by_cases hall:∀ i,i<m0→listed.getD i false=true
  ·exact fin _ listed a w φ I H' (by omega) hsz hall hnone hv hst hdf
  ·obtain ⟨i0,hi0,hn0⟩:∃ i0,i0<m0∧listed.getD i0 false=false:=by
    refine Classical.byContradiction fun hc=>hall fun i hi=> ?_
    cases hL:listed.getD i false with
    |true=>rfl
    |false=>exact absurd ⟨i,hi,hL⟩ hc
   refine ⟨fun hr=>absurd hr (some_ready listed hsz i0 hi0 hn0),fun i hi=> ?_⟩
   obtain ⟨h1,h2⟩:=rdy listed a w φ I H' hsz hv i hi
   have him:i<m0:=by
    rcases am i m0 with h|h
    ·exact h
    ·have:=h2.2 i0 (htail i0 i (by omega) h h1)
     simp only at this
     rw [hn0] at this;cases this
   refine Inv.step c hv h2 him (o:=ops[i]) (by simp [h1]) ?_
   intro φ' I' H'' w' a' hv' hst' hdf'
   have hL:(fun k=>(listed.setIfInBounds i true).getD k false)=qr (fun k=>listed.getD k false) i:=by
    funext k
    simp only [qr]
    by_cases hk:k=i
    ·subst hk;simp [Array.getD_eq_getD_getElem?,hsz,h1]
    ·simp [Array.getD_eq_getD_getElem?,hk,Array.getElem?_setIfInBounds_ne (Ne.symm hk)]
   have hiU:i∈U:=hun i him h2.1
   refine ih (U.erase i) (listed.setIfInBounds i true) a' w' φ' I' H'' (by have:=List.length_pos_of_mem hiU;rw [List.length_erase_of_mem hiU];omega) (by simpa using hsz) ?_ ?_ (by rw [hL];exact hv') (hst.trans hst') (hdf'.trans hdf)
   ·intro j hj hLj
    have:=congrFun hL j
    rw [hLj] at this
    simp only [qr] at this
    have h3:=this.symm
    simp only [Bool.or_eq_false_iff,aG] at h3
    exact (List.mem_erase_of_ne h3.2).2 (hun j hj h3.1)
   ·intro j hj
    have:=congrFun hL j
    rw [this]
    simp only [qr,Bool.or_eq_false_iff,aG]
    exact ⟨hnone j hj,by omega⟩
theorem qE (H:Hp) (k b:Nat):get (H++List.replicate k none) b=get H b:=by
 unfold get
 rcases am b H.length with h|h
 ·rw [bB h]
 ·rw [bv h,List.getElem?_eq_none h]
  simp only [List.getElem?_replicate]
  split<;>rfl
theorem SR.pad (hS:SR φ I H w) (k:Nat):SR φ I (H++List.replicate k none) w:=
 ⟨fun b L h=>⟨by have:=(hS.dom b L h).1;simp;omega,(hS.dom b L h).2⟩,hS.imm,fun b L q h hg=>hS.blk b L q h (by rwa [qE] at hg),
  fun b b' L L' q q' h h' hg hg'=>hS.inj b b' L L' q q' h h' (by rwa [qE] at hg) (by rwa [qE] at hg')⟩
theorem Own.pad {k B:Nat}:Own φ (H++List.replicate k none) B↔Own φ H B:=by
 unfold Own;simp only [qE]
theorem iC.pad {k:Nat} (h:iC φ I (H++List.replicate k none) w φ' I' H' w'):iC φ I H w φ' I' H' w':=
 ⟨h.os,h.tape,h.output,h.size,fun B hB hO=>h.same B hB (fun c=>hO (Own.pad.1 c)),h.shape,h.phi,fun b L hb=>(h.new b L hb).imp id (Or.imp id Own.pad.1),h.imm,fun B hB hl=>(h.inew B hB hl).imp id Own.pad.1,fun B hB hO=>Own.pad.1 (h.own B hB hO)⟩
theorem SR.drawn (hS:SR φ I H w) (k:Nat):SR φ I H { w with drawn:=k }∧iC φ I H w φ I H { w with drawn:=k }∧∀ {v:List V} {x:Array Value},VRs φ I w v x→VRs φ I { w with drawn:=k } v x:=by
 have hst:iC φ I H w φ I H { w with drawn:=k }:=⟨rfl,rfl,rfl,ax _,fun _ _ _=>rfl,fun _ _ h=>h,fun _ _ h=>h,fun _ _ h=> .inl h,fun _ h=>h,fun _ h _=> .inl h,fun _ _ h=>h⟩
 refine ⟨⟨hS.dom,hS.imm,fun b L q h hg=> ?_,hS.inj⟩,hst,fun h=>h.step hS hst⟩
 have:=hS.blk b L q h hg
 cases q with
 |row sz m es=>
  obtain ⟨h1,h2,h3,h4,h5⟩:=this
  exact ⟨h1,h2,h3,fun i e k v hi hk=>let ⟨x,hx,hv⟩:=h4 i e k v hi hk;⟨x,hx,hv.step hS hst⟩,h5⟩
 |loop l=>
  obtain ⟨h0,r,h1,h2⟩:=this
  exact ⟨h0,r,h1,h2.1,h2.2.1,h2.2.2.1.step hS hst,h2.2.2.2⟩
 |mp es=>
  obtain ⟨h0,ents,clock,h1,h2⟩:=this
  exact ⟨h0,ents,clock,h1,h2.1,fun i p e h3 h4=>⟨(h2.2 i p e h3 h4).1.step hS hst,(h2.2 i p e h3 h4).2.step hS hst⟩⟩
theorem yp (b:Array Nat):∀ k,p9 b k≤k
 |0=>ax _
 |k+1=>by
  unfold p9
  split
  ·exact Nat.le_succ_of_le (yp b k)
  ·exact ax _
theorem yn (b:Array Nat):∀ k i j,i<j→p9 b k≤j→j<k→(b.getD j 0).testBit i=true
 |0,i,j,_,_,h=>absurd h (Nat.not_lt_zero j)
 |k+1,i,j,hij,hle,hlt=>by
  unfold p9 at hle
  split at hle
  ·rename_i hall
   rcases am j k with h|h
   ·exact yn b k i j hij hle h
   ·have:j=k:=by omega
    subst this
    exact List.all_eq_true.1 hall i (by simpa using hij)
  ·omega
theorem Mq {i j:Nat} (hd:sB ops=true) (h:((Region.before ops).getD j 0).testBit i=true):i<j:=by
 induction j using Nat.strongRecOn generalizing i with
 |ind j ih=>
  obtain ⟨o,ho,e,he,hb,h'⟩:=qO h
  have h1:=xN hd ho he hb
  rcases h' with rfl|h'
  ·exact h1
  ·exact Nat.lt_trans (ih e.on h1 h') h1
theorem wn {ops:Array Oper} {b:Array Nat}:∀ {os:List Oper} {i:Nat} {l:List LOp},kg ops b i os=some l→∀ (m:Nat),kg ops b (i+m) (os.drop m)=some (l.drop m)
 |[],i,l,h,m=>by simp only [kg] at h;cases h;simp [kg]
 |o::os,i,l,h,0=>by simpa using h
 |o::os,i,l,h,m+1=>by
  obtain ⟨g,l',_,hl',_,rfl⟩:=n8 h
  have:=wn hl' m
  rw [show i+(m+1)=i+1+m by omega]
  simpa using this
theorem HU {bs:Array Nat} {Q:List V→Hp→Prop} {Qc:Exit→Act→World→Prop} {ro:Option Nat} {n:Nat} (hd:sB ops=true) (htail:Jh ops m0):
 ∀ (os:List Oper) (i:Nat) (l:List LOp),m0≤i→ops.toList.drop i=os→kg ops bs i os=some l→
 ∀ {T:List V} {H:Hp} {φ:Nat→Option Loc} {I:Nat→Prop} {w:World} {a:Act} {fuel:Nat} {listed:Array Bool},os.length≤fuel→listed.size=ops.size→(∀ k,listed.getD k false=decide (k<i))→oA P l T H Q→VRs φ I w T a.tmps→SR φ I H w→
 (∀ T' H' φ' I' w' a',Q T' H'→VRs φ' I' w' T' a'.tmps→SR φ' I' H' w'→iC φ I H w φ' I' H' w'→a'.defers=a.defers→Qc .normal a' w')→
 wpAnyIn (FR ro) n P .any ops Qc fuel listed a w:=by
 intro os
 induction os with
 |nil=>
  intro i l hi hdr hl T H φ I w a fuel listed hf hsz hls h hT hS hK
  simp only [kg] at hl
  cases hl
  have hlen:ops.size≤i:=by
   have:=congrArg List.length hdr
   simp at this;omega
  have hr:Region.ready .any ops listed=[]:=by
   refine List.eq_nil_iff_forall_not_mem.2 fun j hj=> ?_
   obtain ⟨h0,o,ho,_⟩:=mem_ready.1 hj
   have hj1:j<ops.size:=(Array.getElem?_eq_some_iff.1 ho).1
   have:=hls j
   have h':j<listed.size:=by omega
   simp [Array.getD,h'] at h0 this
   rw [h0] at this;simp at this;omega
  have hq:=hK T H φ I w a h hT hS iC.refl rfl
  cases fuel with
  |zero=>exact ⟨hr,hq⟩
  |succ fuel=>exact ⟨fun _=>hq,fun j hj=>by rw [hr] at hj;simp at hj⟩
 |cons o os ih=>
  intro i l hi hdr hl T H φ I w a fuel listed hf hsz hls h hT hS hK
  obtain ⟨g,l',hg,hl',hok,rfl⟩:=n8 hl
  have hi1:ops[i]? =some o:=by
   have:(ops.toList.drop i)[0]? =some o:=by rw [hdr];rfl
   simpa using this
  have his:i<ops.size:=(Array.getElem?_eq_some_iff.1 hi1).1
  have hd':ops.toList.drop (i+1)=os:=by rw [←List.drop_drop,hdr];rfl
  obtain ⟨fuel,rfl⟩:∃ f,fuel=f+1:=⟨fuel-1,by simp at hf;omega⟩
  have hri:i∈Region.ready .any ops listed:=by
   refine mem_ready.2 ⟨?_,o,hi1,?_⟩
   ·have:=hls i
    have h':i<listed.size:=by omega
    simp [Array.getD,h'] at this ⊢;exact this
   ·intro e he hb
    have:=xN hd hi1 he hb
    rw [hls];simp [this]
  refine ⟨fun hr=>by rw [hr] at hri;simp at hri,fun j hj=> ?_⟩
  have hji:j=i:=by
   obtain ⟨h0,oj,hoj,hall⟩:=mem_ready.1 hj
   have hj1:j<ops.size:=(Array.getElem?_eq_some_iff.1 hoj).1
   have h1:=hls j
   have h':j<listed.size:=by omega
   simp [Array.getD,h'] at h0 h1
   rw [h0] at h1
   have hij:i≤j:=by simp at h1;exact h1
   rcases am i j with hlt|hge
   ·exfalso
    have hb:=htail i j hlt (by omega) hj1
    obtain ⟨o',ho',e,he,hbe,h⟩:=qO hb
    rw [hoj] at ho';cases ho'
    have h2:=hall e he hbe
    rw [hls] at h2
    have h2:e.on<i:=by simpa using h2
    rcases h with h|h
    ·omega
    ·have h3:i<e.on:=by
      obtain ⟨o2,ho2,e2,he2,hb2,h4⟩:=qO h
      exact Mq hd h
     omega
   ·omega
  subst hji
  unfold wpOpIn
  rw [hi1]
  try simp only
  have hls':∀ k,(listed.setIfInBounds j true).getD k false=decide (k<j+1):=by
   intro k
   by_cases hk:k=j
   ·subst hk;simp [Array.getD_eq_getD_getElem?,hsz,his]
   ·have:=hls k
    simp [Array.getD_eq_getD_getElem?,Array.getElem?_setIfInBounds_ne (Ne.symm hk)] at this ⊢
    rw [this];simp;omega
  have h:wpG (eV P) T H ⟨o.dst,o.op,g,j,bs.getD j 0⟩ (fun v H'=>oA P l' (putT T o.dst v) H' Q):=h
  rcases yK (lo:=⟨o.dst,o.op,g,j,bs.getD j 0⟩) hg rfl hT h with ⟨hw,hh⟩|⟨hw,hh⟩
  ·rw [if_pos hw]
   refine zP hh hok hT hS ?_
   intro v H' x w' φ' I' hk hv hS' hst
   refine ih (j+1) l' (by omega) hd' hl' (by simp at hf;omega) (by simpa using hsz) hls' hk ((hT.step hS hst).putT hv) hS' ?_
   intro T' H'' φ'' I'' w'' a' hq hT' hS'' hst' hdf
   exact hK T' H'' φ'' I'' w'' a' hq hT' hS'' (hst.trans hst') (by rw [hdf,nj])
  ·rw [if_neg (by rw [hw];simp)]
   refine ⟨fun _ _=>trivial,?_⟩
   refine ih (j+1) l' (by omega) hd' hl' (by simp at hf;omega) (by simpa using hsz) hls' hh (hT.putT nQ) hS ?_
   intro T' H'' φ'' I'' w'' a' hq hT' hS'' hst' hdf
   exact hK T' H'' φ'' I'' w'' a' hq hT' hS'' hst' (by rw [hdf,nj])
theorem IS (hm:P.follows .mixedOrders=true) (hd:sB ops=true) (hl:kg ops (Region.before ops) 0 ops.toList=some l) (hm0:m0≤ops.size) (htail:Jh ops m0) {id:Nat} {Q:List V→Hp→Prop} {Qc:Exit→Act→World→Prop} {ro:Option Nat} {n:Nat}
 {a:Act} (h:mR P (l.take m0) [] T H (fun T H=>oA P (l.drop m0) T H Q)) (hT:VRs φ I w T a.tmps) (hS:SR φ I H w)
 (hK:∀ T' H' φ' I' w' a',Q T' H'→VRs φ' I' w' T' a'.tmps→SR φ' I' H' w'→iC φ I H w φ' I' H' w'→a'.defers=a.defers→Qc .normal a' w'):
 (Code.region id ops true).wpIn (FR ro) n P Qc a w:=by
 refine wpIn_region_any hm ?_
 obtain ⟨es,htr,hq⟩:=wZ (l.take m0) [] T H h
 have c:Ctx P ops l es T H m0:=⟨hd,hl,hm0,htr⟩
 rw [d9,c.size.2,Nat.min_eq_left hm0] at hq
 obtain ⟨hS1,hst1,hv1⟩:=hS.drawn (w.drawn+1)
 have hz:∀ (es:List Ent) (i:Nat) (T:List V),stT (fun _=>false) i es T=T:=by
  intro es
  induction es with
  |nil=>intros;rfl
  |cons e es ih=>intro i T;rw [stT];simpa using ih (i+1) T
 have hzH:∀ (es:List Ent) (i:Nat) (T:Hp),stH (fun _=>false) i es T=T:=by
  intro es
  induction es with
  |nil=>intros;rfl
  |cons e es ih=>intro i T;rw [stH];simpa using ih (i+1) T
 have hL0:(fun k=>(Array.replicate ops.size false).getD k false)=fun _=>false:=by
  funext k;simp [Array.getD_eq_getD_getElem?,Array.getElem?_replicate];split<;>rfl
 have hle:=uO es H (bh es.length)
 have hH0:Hm es H 0=H:=by cases es<;>rfl
 rw [hH0] at hle
 refine Ms c htail (φ₀:=φ) (I₀:=I) (H₀:=H) (w₀:=w) (D:=a.defers) ?_ ops.size (List.range m0) _ a _ φ I (H++List.replicate ((Hm es H es.length).length-H.length) none) (by simp;omega) (by simp) (fun i hi _=>by simpa using hi) (fun i _=>by have:=congrFun hL0 i;exact this) ?_ ?_ rfl
 ·intro φ' I' w' a' fuel listed hfu hsz hls h1 h2 h3 h4
  have hdl:=wn hl m0
  rw [aX] at hdl
  refine HU hd htail (ops.toList.drop m0) m0 (l.drop m0) (ax _) rfl hdl (by simp;omega) hsz hls hq h1 h2 ?_
  intro T' H' φ'' I'' w'' a'' hq' ht' hs' hst' hd'
  exact hK T' H' φ'' I'' w'' a'' hq' ht' hs' (h3.trans hst') (hd'.trans h4)
 ·rw [hL0]
  refine ⟨fun i j hj _=>by simp at hj,by rw [hz];exact hv1 hT,hS1.pad _,fun b=>by rw [hzH,qE],by simp;omega,?_⟩
  intro i e he _ hal
  cases hφ:φ e.nid with
  |none=>rfl
  |some Lc=>
   have a1:=(hS.dom _ _ hφ).1
   rw [c.nid he] at a1
   have:=uO es H (bh i)
   rw [hH0] at this
   omega
 ·have hp:iC φ I H { w with drawn:=w.drawn+1 } φ I (H++List.replicate ((Hm es H es.length).length-H.length) none) { w with drawn:=w.drawn+1 }:=
   ⟨rfl,rfl,rfl,ax _,fun _ _ _=>rfl,fun _ _ h=>h,fun _ _ h=>h,fun _ _ h=> .inl h,fun _ h=>h,fun _ h _=> .inl h,fun _ _ h=>Own.pad.1 h⟩
  exact hst1.trans hp
end
end Go.Av
