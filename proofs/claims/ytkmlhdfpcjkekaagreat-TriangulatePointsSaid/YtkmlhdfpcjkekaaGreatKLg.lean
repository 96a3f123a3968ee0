/- Helping texts: Lg, Lh. -/
import Derived.Test.YtkmlhdfpcjkekaaGreatKNa
import Derived.Test.YtkmlhdfpcjkekaaGreatKLf
set_option linter.unusedSimpArgs false
set_option linter.unusedVariables false
set_option maxRecDepth 100000
set_option maxHeartbeats 16000000
namespace Go.Av
open Go.RowKit
open Go.Proofs.Tryz (prog)
structure Tri where
 a:Pt
 b:Pt
 c:Pt
deriving DecidableEq
def trc (t:Tri):List V:=[.prim (.bool (can t.a.x).neg),.prim (.string (bs ((can t.a.x).num))),.prim (.string (bs ((can t.a.x).den))),.prim (.bool (can t.a.y).neg),.prim (.string (bs ((can t.a.y).num))),.prim (.string (bs ((can t.a.y).den))),.prim (.bool (can t.b.x).neg),.prim (.string (bs ((can t.b.x).num))),.prim (.string (bs ((can t.b.x).den))),.prim (.bool (can t.b.y).neg),.prim (.string (bs ((can t.b.y).num))),.prim (.string (bs ((can t.b.y).den))),.prim (.bool (can t.c.x).neg),.prim (.string (bs ((can t.c.x).num))),.prim (.string (bs ((can t.c.x).den))),.prim (.bool (can t.c.y).neg),.prim (.string (bs ((can t.c.y).num))),.prim (.string (bs ((can t.c.y).den)))]
def trV (t:Tri):V:= .agg (trc t)
def tsV (l:List Tri):V:= .lst 18 (l.map trc)
def tr0:Tri:=⟨pt0,pt0,pt0⟩
def ht3 (t:Tri):Nat:=max (hp t.a) (max (hp t.b) (hp t.c))
theorem ht3_a (t:Tri):hp t.a≤ht3 t:=Nat.le_max_left _ _
theorem ht3_b (t:Tri):hp t.b≤ht3 t:=Nat.le_trans (Nat.le_max_left _ _) (Nat.le_max_right _ _)
theorem ht3_c (t:Tri):hp t.c≤ht3 t:=Nat.le_trans (Nat.le_max_right _ _) (Nat.le_max_right _ _)
theorem ht3_mk {a b c:Pt} {k:Nat} (h1:hp a≤k) (h2:hp b≤k) (h3:hp c≤k):ht3 ⟨a,b,c⟩≤k:=Nat.max_le.2 ⟨h1,Nat.max_le.2 ⟨h2,h3⟩⟩
def insideT (t:Tri) (p:Pt):Int:=
 if between t.a t.b p=true∨between t.b t.c p=true∨between t.c t.a p=true then 0
 else if orient t.a t.b p≠0∧orient t.b t.c p=orient t.a t.b p∧orient t.c t.a p=orient t.a t.b p then 1 else-1
theorem insideT_pc (t:Tri) (p:Pt) (h1:ht3 t≤2^26) (h2:hp p≤2^26):PC prog 80 [trV t,pV p] (.prim (.int .i64 (insideT t p))):=by
 have a1:=ht3_a t;have a2:=ht3_b t;have a3:=ht3_c t
 have b1:=between_pc t.a t.b p (by omega) (by omega) h2
 have b2:=between_pc t.b t.c p (by omega) (by omega) h2
 have b3:=between_pc t.c t.a p (by omega) (by omega) h2
 have o1:=orient_pc t.a t.b p (by omega) (by omega) h2
 have o2:=orient_pc t.b t.c p (by omega) (by omega) h2
 have o3:=orient_pc t.c t.a p (by omega) (by omega) h2
 have hI:insideT t p=if between t.a t.b p=true∨between t.b t.c p=true∨between t.c t.a p=true then 0
  else if orient t.a t.b p≠0∧orient t.b t.c p=orient t.a t.b p∧orient t.c t.a p=orient t.a t.b p then 1 else-1:=rfl
 generalize between t.a t.b p=x1 at*
 generalize between t.b t.c p=x2 at*
 generalize between t.c t.a p=x3 at*
 generalize orient t.a t.b p=n1 at*
 generalize orient t.b t.c p=n2 at*
 generalize orient t.c t.a p=n3 at*
 generalize insideT t p=r at*
 refine PCi ?_
 conv in trip _ _=>cbv
 simp only [runT,RN,simprocAttr]
 cases x1 with
 |true=>
  rw [if_pos (.inl rfl)] at hI;subst hI
  simp (disch:=omega) only [↓RS,RZ,simprocAttr,trV,trc,pV,ptV]
  refine cX b1 ?_
  simp (disch:=omega) only [↓RS,RZ,simprocAttr]
 |false=>
  cases x2 with
  |true=>
   rw [if_pos (.inr (.inl rfl))] at hI;subst hI
   simp (disch:=omega) only [↓RS,RZ,simprocAttr,trV,trc,pV,ptV]
   refine cX b1 ?_
   simp (disch:=omega) only [↓RS,RZ,simprocAttr,pV,ptV]
   refine cX b2 ?_
   simp (disch:=omega) only [↓RS,RZ,simprocAttr]
  |false=>
   cases x3 with
   |true=>
    rw [if_pos (.inr (.inr rfl))] at hI;subst hI
    simp (disch:=omega) only [↓RS,RZ,simprocAttr,trV,trc,pV,ptV]
    refine cX b1 ?_
    simp (disch:=omega) only [↓RS,RZ,simprocAttr,pV,ptV]
    refine cX b2 ?_
    simp (disch:=omega) only [↓RS,RZ,simprocAttr,pV,ptV]
    refine cX b3 ?_
    simp (disch:=omega) only [↓RS,RZ,simprocAttr]
   |false=>
    rw [if_neg (by simp)] at hI
    simp (disch:=omega) only [↓RS,RZ,simprocAttr,trV,trc,pV,ptV]
    refine cX b1 ?_
    simp (disch:=omega) only [↓RS,RZ,simprocAttr,pV,ptV]
    refine cX b2 ?_
    simp (disch:=omega) only [↓RS,RZ,simprocAttr,pV,ptV]
    refine cX b3 ?_
    simp (disch:=omega) only [↓RS,RZ,simprocAttr,pV,ptV]
    refine cX o1 ?_
    by_cases e1:n1=0
    ·rw [if_neg (fun h=>h.1 e1)] at hI;subst hI
     simp (disch:=omega) only [↓RS,RZ,simprocAttr,pV,ptV]
    ·by_cases e2:n2=n1
     ·by_cases e3:n3=n1
      ·rw [if_pos ⟨e1,e2,e3⟩] at hI;subst hI
       simp (disch:=omega) only [↓RS,RZ,simprocAttr,pV,ptV]
       refine cX o2 ?_
       simp (disch:=omega) only [↓RS,RZ,simprocAttr,pV,ptV]
       refine cX o3 ?_
       simp (disch:=omega) only [↓RS,RZ,simprocAttr,pV,ptV]
      ·rw [if_neg (fun h=>e3 h.2.2)] at hI;subst hI
       simp (disch:=omega) only [↓RS,RZ,simprocAttr,pV,ptV]
       refine cX o2 ?_
       simp (disch:=omega) only [↓RS,RZ,simprocAttr,pV,ptV]
       refine cX o3 ?_
       simp (disch:=omega) only [↓RS,RZ,simprocAttr,pV,ptV]
     ·rw [if_neg (fun h=>e2 h.2.1)] at hI;subst hI
      simp (disch:=omega) only [↓RS,RZ,simprocAttr,pV,ptV]
      refine cX o2 ?_
      simp (disch:=omega) only [↓RS,RZ,simprocAttr,pV,ptV]
theorem third_pc:PC prog 35 [.prim (.int .i64 (1)),.prim (.int .i64 (3))] (.tup [qV (1/3),.prim (.int .i64 (0))]):=by
 have o1:=of_pc 1 (by omega) (by omega)
 have o2:=of_pc 3 (by omega) (by omega)
 have d1:= @dl_small 1 (by omega)
 have d2:= @dl_small 3 (by omega)
 have n:=newC_pc 1 3 (by simp only [Int.natAbs_one];omega) (by show dl 3<_;omega)
 rw [if_neg (by omega),show qI 1 3=1/3 by decide+kernel] at n
 refine PCi ?_
 conv in trip _ _=>cbv
 simp only [runT,RN,simprocAttr]
 simp (disch:=omega) only [↓RS,RZ,simprocAttr]
 refine cX o1 ?_
 simp (disch:=omega) only [↓RS,RZ,simprocAttr,cI,iN]
 refine cX o2 ?_
 simp (disch:=omega) only [↓RS,RZ,simprocAttr,cI,iN]
 refine cX n ?_
 simp (disch:=omega) only [↓RS,RZ,simprocAttr,qV,rV]
def ctr (t:Tri):Pt:=(t.a.add (t.b.add t.c)).smul (1/3)
theorem ht_third:ht (1/3)≤4:=by
 have:=ht_div 1 3;have e3:ht 3≤1:=by have h:((3:Int):Rat)=3:=rfl;rw [←h];exact ht_int (by omega)
 have e:ht 1≤1:= @ht_int 1 (by omega);omega
theorem hp_ctr (t:Tri):hp (ctr t)≤3*ht3 t+6:=by
 have a1:=ht3_a t;have a2:=ht3_b t;have a3:=ht3_c t
 have a4:=hp_add t.b t.c
 have a5:=hp_add t.a (t.b.add t.c)
 have a6:=hp_smul (t.a.add (t.b.add t.c)) (1/3)
 have:=ht_third
 unfold ctr;omega
theorem ctr_pc (t:Tri) (h1:ht3 t≤2^26):PC prog 81 [trV t] (pV (ctr t)):=by
 have a1:=ht3_a t;have a2:=ht3_b t;have a3:=ht3_c t
 have a4:=hp_add t.b t.c
 have a5:=hp_add t.a (t.b.add t.c)
 have h3:=ht_third
 have th:=third_pc
 have c1:=vadd_pc t.b t.c (by omega) (by omega)
 have c2:=vadd_pc t.a (t.b.add t.c) (by omega) (by omega)
 have c3:=vscale_pc (t.a.add (t.b.add t.c)) (1/3) (by omega) (by omega)
 have e:ctr t=(t.a.add (t.b.add t.c)).smul (1/3):=rfl
 rw [e]
 refine PCi ?_
 conv in trip _ _=>cbv
 simp only [runT,RN,simprocAttr]
 simp (disch:=omega) only [↓RS,RZ,simprocAttr,trV,trc]
 refine cX th ?_
 simp (disch:=omega) only [↓RS,RZ,simprocAttr,qV,rV,pV,ptV]
 refine cX c1 ?_
 simp (disch:=omega) only [↓RS,RZ,simprocAttr,pV,ptV,qV,rV]
 refine cX c2 ?_
 simp (disch:=omega) only [↓RS,RZ,simprocAttr,pV,ptV,qV,rV]
 refine cX c3 ?_
 simp (disch:=omega) only [↓RS,RZ,simprocAttr,pV,ptV]
def orI (x y z:Int):Int:=if x≠0 then x else if y≠0 then y else z
def cmpT (s t:Tri):Int:=orI (cmpP s.a t.a) (cmpP s.b t.b) (cmpP s.c t.c)
theorem or_pc (x y z:Int):PC prog 142 [.lst 1 [[.prim (.int .i64 (x))],[.prim (.int .i64 (y))],[.prim (.int .i64 (z))]]] (.prim (.int .i64 (orI x y z))):=by
 have hO:orI x y z=if x≠0 then x else if y≠0 then y else z:=rfl
 generalize orI x y z=r at*
 refine PCi ?_
 conv in trip _ _=>cbv
 simp only [runT,RN,simprocAttr]
 by_cases hx:x=0
 ·by_cases hy:y=0
  ·by_cases hz:z=0
   ·subst hx hy hz
    rw [if_neg (by simp),if_neg (by simp)] at hO;subst hO
    simp (disch:=omega) only [↓RS,RZ,simprocAttr]
    refine wp_iter 4 ?_
    simp (disch:=omega) only [↓RS,RZ,simprocAttr,iterL_s,itQ_normal,itQ_exit,itQ_ret,Int.reduceAdd,Int.reduceToNat,Int.zero_add]
   ·subst hx hy
    rw [if_neg (by simp),if_neg (by simp)] at hO;subst hO
    simp (disch:=omega) only [↓RS,RZ,simprocAttr]
    refine wp_iter 4 ?_
    simp (disch:=omega) only [↓RS,RZ,simprocAttr,iterL_s,itQ_normal,itQ_exit,itQ_ret,Int.reduceAdd,Int.reduceToNat,Int.zero_add]
  ·subst hx
   rw [if_neg (by simp),if_pos hy] at hO;subst hO
   simp (disch:=omega) only [↓RS,RZ,simprocAttr]
   refine wp_iter 4 ?_
   simp (disch:=omega) only [↓RS,RZ,simprocAttr,iterL_s,itQ_normal,itQ_exit,itQ_ret,Int.reduceAdd,Int.reduceToNat,Int.zero_add]
 ·rw [if_pos hx] at hO;subst hO
  simp (disch:=omega) only [↓RS,RZ,simprocAttr]
  refine wp_iter 4 ?_
  simp (disch:=omega) only [↓RS,RZ,simprocAttr,iterL_s,itQ_normal,itQ_exit,itQ_ret,Int.reduceAdd,Int.reduceToNat,Int.zero_add]
theorem cmpT_pc (s t:Tri) (h1:ht3 s≤2^26) (h2:ht3 t≤2^26):PC prog 83 [trV s,trV t] (.prim (.int .i64 (cmpT s t))):=by
 have a1:=ht3_a s;have a2:=ht3_b s;have a3:=ht3_c s
 have b1:=ht3_a t;have b2:=ht3_b t;have b3:=ht3_c t
 have c1:=vcmp_pc s.a t.a (by omega) (by omega)
 have c2:=vcmp_pc s.b t.b (by omega) (by omega)
 have c3:=vcmp_pc s.c t.c (by omega) (by omega)
 have c4:=or_pc (cmpP s.a t.a) (cmpP s.b t.b) (cmpP s.c t.c)
 have e:cmpT s t=orI (cmpP s.a t.a) (cmpP s.b t.b) (cmpP s.c t.c):=rfl
 rw [e]
 refine PCi ?_
 conv in trip _ _=>cbv
 simp only [runT,RN,simprocAttr]
 simp (disch:=omega) only [↓RS,RZ,simprocAttr,trV,trc,pV,ptV]
 refine cX c1 ?_
 simp (disch:=omega) only [↓RS,RZ,simprocAttr,pV,ptV]
 refine cX c2 ?_
 simp (disch:=omega) only [↓RS,RZ,simprocAttr,pV,ptV]
 refine cX c3 ?_
 simp (disch:=omega) only [↓RS,RZ,simprocAttr]
 refine cX c4 ?_
 simp (disch:=omega) only [↓RS,RZ,simprocAttr]
end Go.Av
namespace Go.Av
open Go.RowKit
open Go.Proofs.Tryz (prog)
theorem eqA_pt8 {X Y Z W:Rt}:eqA (tyOf prog) 8 37 (.agg [.prim (.bool X.neg),.prim (.string (bs (X.num))),.prim (.string (bs (X.den))),.prim (.bool Y.neg),.prim (.string (bs (Y.num))),.prim (.string (bs (Y.den)))]) (.agg [.prim (.bool Z.neg),.prim (.string (bs (Z.num))),.prim (.string (bs (Z.den))),.prim (.bool W.neg),.prim (.string (bs (W.num))),.prim (.string (bs (W.den)))])=some (decide (X=Z∧Y=W)):=by
 have h1:= @eqA_rat 5 X.neg Z.neg X.num X.den Z.num Z.den
 have h2:= @eqA_rat 5 Y.neg W.neg Y.num Y.den W.num W.den
 unfold eqA
 simp only [RT,eqA.eqFs,Bool.false_eq_true,if_false,String.reduceEq,readAt,TK.isAgg,if_true,List.length_cons,List.length_nil,Nat.reduceAdd,Nat.reduceLeDiff,List.drop_zero,List.drop_succ_cons,List.take_succ_cons,List.take_zero,h1,h2]
 have e1:decide (Rt.mk X.neg X.num X.den=Rt.mk Z.neg Z.num Z.den)=decide (X=Z):=rfl
 have e2:decide (Rt.mk Y.neg Y.num Y.den=Rt.mk W.neg W.num W.den)=decide (Y=W):=rfl
 rw [e1,e2]
 by_cases a:X=Z<;>by_cases b:Y=W<;>simp [a,b]
theorem eqA_sg (s t:Sg):eqA (tyOf prog) 9 39 (.agg (sgc s)) (.agg (sgc t))=some (decide (s=t)):=by
 have h1:= @eqA_pt8 (can s.a.x) (can s.a.y) (can t.a.x) (can t.a.y)
 have h2:= @eqA_pt8 (can s.b.x) (can s.b.y) (can t.b.x) (can t.b.y)
 rw [can_eq] at h1 h2
 unfold eqA
 simp only [sgc,RT,eqA.eqFs,Bool.false_eq_true,if_false,String.reduceEq,readAt,TK.isAgg,if_true,List.length_cons,List.length_nil,Nat.reduceAdd,Nat.reduceLeDiff,List.drop_zero,List.drop_succ_cons,List.take_succ_cons,List.take_zero,h1,h2]
 by_cases a:s.a=t.a<;>by_cases b:s.b=t.b
 ·simp [a,b,Sg.ext a b]
 ·have:s≠t:=fun e=>b (by rw [e])
  simp [a,b,this]
 ·have:s≠t:=fun e=>a (by rw [e])
  simp [a,b,this]
 ·have:s≠t:=fun e=>a (by rw [e])
  simp [a,b,this]
def mpM (ks:List Sg):List (V×V):=ks.map fun s=>(.agg (sgc s),.prim (.bool true))
theorem findV_mpM (s:Sg):∀ (ks:List Sg) (i:Nat),(s∉ks∧findV (tyOf prog) 39 (.agg (sgc s)) (mpM ks) i=some none)∨
 (s∈ks∧∃ j,findV (tyOf prog) 39 (.agg (sgc s)) (mpM ks) i=some (some (i+j,.prim (.bool true)))∧(mpM ks)[j]? =some (.agg (sgc s),.prim (.bool true)))
 |[],i=> .inl ⟨by simp,rfl⟩
 |t::ks,i=>by
  have e:mpM (t::ks)=(.agg (sgc t),.prim (.bool true))::mpM ks:=rfl
  rw [e]
  unfold findV
  simp only [eqA_sg]
  by_cases h:s=t
  ·rw [decide_eq_true h]
   exact .inr ⟨by simp [h],0,rfl,by rw [h];rfl⟩
  ·rw [decide_eq_false h]
   try simp only
   rcases findV_mpM s ks (i+1) with ⟨h1,h2⟩|⟨h1,j,h2,h3⟩
   ·exact .inl ⟨by simp [h,h1],h2⟩
   ·exact .inr ⟨by simp [h1],j+1,by rw [h2];congr 3;omega,by simpa using h3⟩
theorem eqA_self (s:Sg):eqA (tyOf prog) 9 39 (.agg (sgc s)) (.agg (sgc s))=some true:=by rw [eqA_sg,decide_eq_true rfl]
theorem lookV_mpM (s:Sg) (ks:List Sg):lookV (tyOf prog) 39 4 (.agg (sgc s)) false (mpM ks)=some (.prim (.bool (decide (s∈ks)))):=by
 unfold lookV
 rw [eqA_self]
 rcases findV_mpM s ks 0 with ⟨h1,h2⟩|⟨h1,j,h2,_⟩
 ·rw [h2,decide_eq_false h1]
  simp only [RT]
  rfl
 ·rw [h2,decide_eq_true h1]
  simp only [RT]
  rfl
def addK (ks:List Sg) (s:Sg):List Sg:=if s∈ks then ks else ks++[s]
theorem pureK_sg (s:Sg):pureK (.agg (sgc s))=true:=rfl
theorem set_same {α:Type} {l:List α} {j:Nat} {x:α} (h:l[j]? =some x):l.set j x=l:=by
 refine List.ext_getElem? fun c=> ?_
 rw [List.getElem?_set]
 split
 ·rename_i hc;subst hc;rw [if_pos (List.getElem?_eq_some_iff.1 h).1,h]
 ·rfl
theorem t_map:tyOf prog 107 =some ⟨1,8,[.map none],.map 39 4,false⟩:=by kernel_rfl
theorem wpMapU_sg {T:List V} {H:Hp} {m k x:Operand} {K:V→Hp→Prop} {b:Nat} {ks:List Sg} {s:Sg} (hm:ev T m= .mpr b) (hk:ev T k= .agg (sgc s)) (hx:ev T x= .prim (.bool true)) (hb:get H b=some (.mp (mpM ks)))
 (hK:K undefV (H.set b (some (.mp (mpM (addK ks s)))))):wpMapU prog T H 107 m k x K:=by
 unfold wpMapU
 simp only [t_map,hm,hk,hx,hb,eqA_self]
 refine ⟨trivial,?_⟩
 rcases findV_mpM s ks 0 with ⟨h1,h2⟩|⟨h1,j,h2,h3⟩
 ·rw [h2]
  rw [addK,if_neg h1,mpM,List.map_append] at hK
  exact hK
 ·rw [h2]
  simp only [Nat.zero_add]
  rw [addK,if_pos h1] at hK
  exact ⟨h3,pureK_sg s,by rw [set_same h3];exact hK⟩
def sidesOf (E ds:List Sg):List Sg:=ds.foldl addK ((E.map Sg.order).foldl addK [])
theorem foldl_snoc {α β:Type} (f:α→β→α) (a:α) (l:List β) (x:β):(l++[x]).foldl f a=f (l.foldl f a) x:=by rw [List.foldl_append];rfl
theorem mem_addK {ks:List Sg} {s t:Sg}:t∈addK ks s↔t∈ks∨t=s:=by
 unfold addK;split
 ·rename_i h
  exact ⟨.inl,fun k=>k.elim id (fun e=>by rw [e];exact h)⟩
 ·simp
theorem mem_addKs {t:Sg}:∀ {l ks:List Sg},t∈l.foldl addK ks↔t∈ks∨t∈l
 |[],ks=>by simp
 |s::l,ks=>by
  rw [List.foldl_cons,mem_addKs,mem_addK,List.mem_cons,or_assoc]
theorem mem_sidesOf {E ds:List Sg} {t:Sg}:t∈sidesOf E ds↔t∈E.map Sg.order∨t∈ds:=by
 unfold sidesOf;rw [mem_addKs,mem_addKs];simp
def triOf (s:Sg) (q:Pt):Tri:=if orient s.a s.b q<0 then ⟨s.a,q,s.b⟩ else ⟨s.a,s.b,q⟩
def goodT (l:List Pt) (W:Pt→Int) (t:Tri):Prop:=0<orient t.a t.b t.c∧0<W (ctr t)∧(anyTo l.length fun i=>decide (0<insideT t (l.getD i default)))=false
instance (l:List Pt) (W:Pt→Int) (t:Tri):Decidable (goodT l W t):=inferInstanceAs (Decidable (_∧_∧_))
def linkT (K:List Sg) (s:Sg) (q:Pt):Prop:=cmpP s.b q<0∧(⟨s.a,q⟩:Sg)∈K∧(⟨s.b,q⟩:Sg)∈K
instance (K:List Sg) (s:Sg) (q:Pt):Decidable (linkT K s q):=inferInstanceAs (Decidable (_∧_∧_))
def addT (K:List Sg) (l:List Pt) (W:Pt→Int) (s:Sg) (out:List Tri) (q:Pt):List Tri:=
 if linkT K s q∧goodT l W (triOf s q) then out++[triOf s q] else out
def addS (K:List Sg) (l:List Pt) (W:Pt→Int) (out:List Tri) (s:Sg):List Tri:=
 if s∈K then l.foldl (addT K l W s) out else out
def buildOf (K:List Sg) (l:List Pt) (W:Pt→Int) (m:List (Nat×Nat)):List Tri:=m.foldl (fun out x=>addS K l W out (prS l x)) []
theorem buildOf_snoc (K:List Sg) (l:List Pt) (W:Pt→Int) (m:List (Nat×Nat)) (x:Nat×Nat):buildOf K l W (m++[x])=addS K l W (buildOf K l W m) (prS l x):=by
 unfold buildOf;rw [List.foldl_append];rfl
theorem trs_getD {l:List Tri} {k:Nat} (h:k<l.length):(l.map trc).getD k []=trc (l.getD k tr0):=by
 rw [List.getD_eq_getElem?_getD,List.getD_eq_getElem?_getD,List.getElem?_map,List.getElem?_eq_getElem h];rfl
theorem trc_prims (l:List Tri):Prims (l.map trc):=by
 intro e he v hv
 obtain ⟨s,_,rfl⟩:=List.mem_map.1 he
 simp only [trc,List.mem_cons,List.not_mem_nil,or_false] at hv
 rcases hv with h|h|h|h|h|h|h|h|h|h|h|h|h|h|h|h|h|h<;>exact ⟨_,h⟩
theorem indexPL_sc (l:List Pt) (f:FuncId) (cap:List V) (p:Nat→Bool) {H:Hp} {K:V→Hp→Prop} (hn:l.length<2^40)
 (hf:Asks f cap l.length (fun i=>pV (l.getD i default)) p H) (hK:∀ H',Ext H H'→K (.prim (.int .i64 (idxP l.length p))) H'):
 SC prog 128 [psV l,.clo f [] cap] H K:=by
 refine SCi ?_
 conv in trip _ _=>cbv
 simp only [runT,RN,simprocAttr]
 simp (disch:=omega) only [↓RS,RZ,simprocAttr,psV,pc_length]
 refine wp_lp (fun (i:Nat) J=>ov [(0,psV l),(1,.clo f [] cap),(4,.prim (.int .i64 (0))),(6,psV l),(7,.prim (.int .i64 ((l.length:Nat):Int))),(8,.prim (.int .i64 ((i:Nat):Int)))] J 0 19) (fun i H'=>(i≤l.length∧∀ j,j<i→p j=false)∧Ext H H') (fun i=>l.length-i) 0 rfl ⟨⟨Nat.zero_le _,fun j hj=>absurd hj (Nat.not_lt_zero j)⟩,Ext.refl⟩ ?_
 rintro i J H1 ⟨⟨hi,hp⟩,hE⟩
 try conv in ov _ _ _ _=>simp only [ov,List.lookup,RO,simprocAttr]
 rcases Nat.lt_or_ge i l.length with hlt|hge
 ·have g:=pc_getD hlt
  simp (disch:=omega) only [↓RS,RZ,simprocAttr,psV,pc_length,g,pc]
  refine call_sc (hf i _ _ hlt hE ?_)
  intro H2 hE2
  have hE3:=hE.trans hE2
  cases hpi:p i with
  |true=>
   rw [idxP_found hlt hpi hp] at hK
   simp (disch:=omega) only [↓RS,RZ,simprocAttr]
   exact hK _ hE3
  |false=>
   simp (disch:=omega) only [↓RS,RZ,simprocAttr]
   exact lp_next (i+1) rfl ⟨⟨hlt,fun j hj=>by
    rcases Nat.lt_or_ge j i with h|h
    ·exact hp j h
    ·rw [show j=i by omega];exact hpi⟩,hE3⟩ (by omega)
 ·have hia:i=l.length:=by omega
  subst hia
  rw [idxP_none hp] at hK
  simp (disch:=omega) only [↓RS,RZ,simprocAttr,psV,pc_length]
  exact hK _ hE
theorem containsPL_sc (l:List Pt) (f:FuncId) (cap:List V) (p:Nat→Bool) {H:Hp} {K:V→Hp→Prop} (hn:l.length<2^40)
 (hf:Asks f cap l.length (fun i=>pV (l.getD i default)) p H) (hK:∀ H',Ext H H'→K (.prim (.bool (anyTo l.length p))) H'):
 SC prog 60 [psV l,.clo f [] cap] H K:=by
 unfold anyTo at hK
 rw [←idxP_nonneg] at hK
 refine SCi ?_
 conv in trip _ _=>cbv
 simp only [runT,RN,simprocAttr]
 simp (disch:=omega) only [↓RS,RZ,simprocAttr,psV]
 refine call_sc (indexPL_sc l f cap p hn hf ?_)
 intro H' hE
 by_cases h:0≤idxP l.length p
 ·rw [decide_eq_true h] at hK
  simp (disch:=omega) only [↓RS,RZ,simprocAttr]
  exact hK _ hE
 ·rw [decide_eq_false h] at hK
  simp (disch:=omega) only [↓RS,RZ,simprocAttr]
  exact hK _ hE
theorem build1_sc (t:Tri) (p:Pt) (h1:ht3 t≤2^26) (h2:hp p≤2^26) {b:Nat} {H:Hp} {K:V→Hp→Prop} (hb:get H b=some (.row 18 true [trc t])) (hK:∀ H',Ext H H'→K (.prim (.bool (decide (0<insideT t p)))) H'):
 SC prog 79 [pV p,.ptr b 0 0] H K:=by
 have c:=insideT_pc t p h1 h2
 have w1:∀ y,get (H++[y]) b=some (.row 18 true [trc t]):=fun y=>get_app hb
 have hk:=fun y=>hK _ (Ext.app [y])
 generalize insideT t p=n at*
 refine SCi ?_
 conv in trip _ _=>cbv
 simp only [runT,RN,simprocAttr]
 simp (disch:=omega) only [↓RS,RZ,simprocAttr,pV,ptV,hb,w1,trc]
 refine cX c ?_
 simp (disch:=omega) only [↓RS,RZ,simprocAttr]
 exact hk _
end Go.Av
