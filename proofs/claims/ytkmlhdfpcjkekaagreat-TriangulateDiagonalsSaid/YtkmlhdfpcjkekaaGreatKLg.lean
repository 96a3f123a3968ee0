/- Helping texts: Lg, Lh, Lu1. -/
import Derived.Test.YtkmlhdfpcjkekaaGreatKNa
import Derived.Test.YtkmlhdfpcjkekaaGreatKLa
import Derived.Test.YtkmlhdfpcjkekaaGreatKMm
set_option linter.unusedSimpArgs false
set_option linter.unusedVariables false
set_option maxRecDepth 100000
set_option maxHeartbeats 16000000
namespace Go.Av
open Go.RowKit
open Go.Proofs.Tryz (prog)
structure Tri where
 a:Pt
 b:Pt
 c:Pt
deriving DecidableEq
def trc (t:Tri):List V:=[.prim (.bool (can t.a.x).neg),.prim (.string (bs ((can t.a.x).num))),.prim (.string (bs ((can t.a.x).den))),.prim (.bool (can t.a.y).neg),.prim (.string (bs ((can t.a.y).num))),.prim (.string (bs ((can t.a.y).den))),.prim (.bool (can t.b.x).neg),.prim (.string (bs ((can t.b.x).num))),.prim (.string (bs ((can t.b.x).den))),.prim (.bool (can t.b.y).neg),.prim (.string (bs ((can t.b.y).num))),.prim (.string (bs ((can t.b.y).den))),.prim (.bool (can t.c.x).neg),.prim (.string (bs ((can t.c.x).num))),.prim (.string (bs ((can t.c.x).den))),.prim (.bool (can t.c.y).neg),.prim (.string (bs ((can t.c.y).num))),.prim (.string (bs ((can t.c.y).den)))]
def trV (t:Tri):V:= .agg (trc t)
def tsV (l:List Tri):V:= .lst 18 (l.map trc)
def tr0:Tri:=⟨pt0,pt0,pt0⟩
def ht3 (t:Tri):Nat:=max (hp t.a) (max (hp t.b) (hp t.c))
theorem GU (t:Tri):hp t.a≤ht3 t:=Nat.le_max_left _ _
theorem GT (t:Tri):hp t.b≤ht3 t:=bi (Nat.le_max_left _ _) (Nat.le_max_right _ _)
theorem GS (t:Tri):hp t.c≤ht3 t:=bi (Nat.le_max_right _ _) (Nat.le_max_right _ _)
theorem EZ {a b c:Pt} {k:Nat} (h1:hp a≤k) (h2:hp b≤k) (h3:hp c≤k):ht3 ⟨a,b,c⟩≤k:=Nat.max_le.2 ⟨h1,Nat.max_le.2 ⟨h2,h3⟩⟩
def jK (t:Tri) (p:Pt):Int:=
 if gY t.a t.b p=true∨gY t.b t.c p=true∨gY t.c t.a p=true then 0
 else if fB t.a t.b p≠0∧fB t.b t.c p=fB t.a t.b p∧fB t.c t.a p=fB t.a t.b p then 1 else-1
theorem Iv (t:Tri) (p:Pt) (h1:ht3 t≤2^26) (h2:hp p≤2^26):PC prog 80 [trV t,pV p] (.prim (.int .i64 (jK t p))):=by
 have a1:=GU t;have a2:=GT t;have a3:=GS t
 have b1:=sH t.a t.b p (by omega) (by omega) h2
 have b2:=sH t.b t.c p (by omega) (by omega) h2
 have b3:=sH t.c t.a p (by omega) (by omega) h2
 have o1:=l6 t.a t.b p (by omega) (by omega) h2
 have o2:=l6 t.b t.c p (by omega) (by omega) h2
 have o3:=l6 t.c t.a p (by omega) (by omega) h2
 have hI:jK t p=if gY t.a t.b p=true∨gY t.b t.c p=true∨gY t.c t.a p=true then 0
  else if fB t.a t.b p≠0∧fB t.b t.c p=fB t.a t.b p∧fB t.c t.a p=fB t.a t.b p then 1 else-1:=rfl
 generalize gY t.a t.b p=x1 at*
 generalize gY t.b t.c p=x2 at*
 generalize gY t.c t.a p=x3 at*
 generalize fB t.a t.b p=n1 at*
 generalize fB t.b t.c p=n2 at*
 generalize fB t.c t.a p=n3 at*
 generalize jK t p=r at*
 refine PCi ?_
 conv in bL _ _=>cbv
 simp only [bM,RN,simprocAttr]
 cases x1 with
 |true=>
  rw [if_pos (.inl rfl)] at hI;subst hI
  simp (disch:=omega) only [↓RS,RZ,simprocAttr,trV,trc,pV,ptV]
  refine cX b1 ?_
  simp (disch:=omega) only [↓RS,RZ,simprocAttr]
 |false=>
  cases x2 with
  |true=>
   rw [if_pos (.inr (.inl rfl))] at hI;subst hI
   simp (disch:=omega) only [↓RS,RZ,simprocAttr,trV,trc,pV,ptV]
   refine cX b1 ?_
   simp (disch:=omega) only [↓RS,RZ,simprocAttr,pV,ptV]
   refine cX b2 ?_
   simp (disch:=omega) only [↓RS,RZ,simprocAttr]
  |false=>
   cases x3 with
   |true=>
    rw [if_pos (.inr (.inr rfl))] at hI;subst hI
    simp (disch:=omega) only [↓RS,RZ,simprocAttr,trV,trc,pV,ptV]
    refine cX b1 ?_
    simp (disch:=omega) only [↓RS,RZ,simprocAttr,pV,ptV]
    refine cX b2 ?_
    simp (disch:=omega) only [↓RS,RZ,simprocAttr,pV,ptV]
    refine cX b3 ?_
    simp (disch:=omega) only [↓RS,RZ,simprocAttr]
   |false=>
    rw [if_neg (by simp)] at hI
    simp (disch:=omega) only [↓RS,RZ,simprocAttr,trV,trc,pV,ptV]
    refine cX b1 ?_
    simp (disch:=omega) only [↓RS,RZ,simprocAttr,pV,ptV]
    refine cX b2 ?_
    simp (disch:=omega) only [↓RS,RZ,simprocAttr,pV,ptV]
    refine cX b3 ?_
    simp (disch:=omega) only [↓RS,RZ,simprocAttr,pV,ptV]
    refine cX o1 ?_
    by_cases e1:n1=0
    ·rw [if_neg (fun h=>h.1 e1)] at hI;subst hI
     simp (disch:=omega) only [↓RS,RZ,simprocAttr,pV,ptV]
    ·by_cases e2:n2=n1
     ·by_cases e3:n3=n1
      ·rw [if_pos ⟨e1,e2,e3⟩] at hI;subst hI
       simp (disch:=omega) only [↓RS,RZ,simprocAttr,pV,ptV]
       refine cX o2 ?_
       simp (disch:=omega) only [↓RS,RZ,simprocAttr,pV,ptV]
       refine cX o3 ?_
       simp (disch:=omega) only [↓RS,RZ,simprocAttr,pV,ptV]
      ·rw [if_neg (fun h=>e3 h.2.2)] at hI;subst hI
       simp (disch:=omega) only [↓RS,RZ,simprocAttr,pV,ptV]
       refine cX o2 ?_
       simp (disch:=omega) only [↓RS,RZ,simprocAttr,pV,ptV]
       refine cX o3 ?_
       simp (disch:=omega) only [↓RS,RZ,simprocAttr,pV,ptV]
     ·rw [if_neg (fun h=>e2 h.2.1)] at hI;subst hI
      simp (disch:=omega) only [↓RS,RZ,simprocAttr,pV,ptV]
      refine cX o2 ?_
      simp (disch:=omega) only [↓RS,RZ,simprocAttr,pV,ptV]
theorem MQ:PC prog 35 [.prim (.int .i64 (1)),.prim (.int .i64 (3))] (.tup [qV (1/3),.prim (.int .i64 (0))]):=by
 have o1:=wl 1 (by omega) (by omega)
 have o2:=wl 3 (by omega) (by omega)
 have d1:= @wN 1 (by omega)
 have d2:= @wN 3 (by omega)
 have n:=EQ 1 3 (by simp only [Int.natAbs_one];omega) (by show dl 3<_;omega)
 rw [if_neg (by omega),show qI 1 3=1/3 by decide+kernel] at n
 refine PCi ?_
 conv in bL _ _=>cbv
 simp only [bM,RN,simprocAttr]
 simp (disch:=omega) only [↓RS,RZ,simprocAttr]
 refine cX o1 ?_
 simp (disch:=omega) only [↓RS,RZ,simprocAttr,cI,iN]
 refine cX o2 ?_
 simp (disch:=omega) only [↓RS,RZ,simprocAttr,cI,iN]
 refine cX n ?_
 simp (disch:=omega) only [↓RS,RZ,simprocAttr,qV,rV]
def ctr (t:Tri):Pt:=(t.a.add (t.b.add t.c)).smul (1/3)
theorem GQ:ht (1/3)≤4:=by
 have:=xF 1 3;have e3:ht 3≤1:=by have h:((3:Int):Rat)=3:=rfl;rw [←h];exact tI (by omega)
 have e:ht 1≤1:= @tI 1 (by omega);omega
theorem OS (t:Tri):hp (ctr t)≤3*ht3 t+6:=by
 have a1:=GU t;have a2:=GT t;have a3:=GS t
 have a4:=AN t.b t.c
 have a5:=AN t.a (t.b.add t.c)
 have a6:=E3 (t.a.add (t.b.add t.c)) (1/3)
 have:=GQ
 unfold ctr;omega
theorem Pn (t:Tri) (h1:ht3 t≤2^26):PC prog 81 [trV t] (pV (ctr t)):=by
 have a1:=GU t;have a2:=GT t;have a3:=GS t
 have a4:=AN t.b t.c
 have a5:=AN t.a (t.b.add t.c)
 have h3:=GQ
 have th:=MQ
 have c1:=zq t.b t.c (by omega) (by omega)
 have c2:=zq t.a (t.b.add t.c) (by omega) (by omega)
 have c3:=CL (t.a.add (t.b.add t.c)) (1/3) (by omega) (by omega)
 have e:ctr t=(t.a.add (t.b.add t.c)).smul (1/3):=rfl
 rw [e]
 refine PCi ?_
 conv in bL _ _=>cbv
 simp only [bM,RN,simprocAttr]
 simp (disch:=omega) only [↓RS,RZ,simprocAttr,trV,trc]
 refine cX th ?_
 simp (disch:=omega) only [↓RS,RZ,simprocAttr,qV,rV,pV,ptV]
 refine cX c1 ?_
 simp (disch:=omega) only [↓RS,RZ,simprocAttr,pV,ptV,qV,rV]
 refine cX c2 ?_
 simp (disch:=omega) only [↓RS,RZ,simprocAttr,pV,ptV,qV,rV]
 refine cX c3 ?_
 simp (disch:=omega) only [↓RS,RZ,simprocAttr,pV,ptV]
def orI (x y z:Int):Int:=if x≠0 then x else if y≠0 then y else z
def ql (s t:Tri):Int:=orI (bO s.a t.a) (bO s.b t.b) (bO s.c t.c)
theorem or_pc (x y z:Int):PC prog 142 [.lst 1 [[.prim (.int .i64 (x))],[.prim (.int .i64 (y))],[.prim (.int .i64 (z))]]] (.prim (.int .i64 (orI x y z))):=by
 have hO:orI x y z=if x≠0 then x else if y≠0 then y else z:=rfl
 generalize orI x y z=r at*
 refine PCi ?_
 conv in bL _ _=>cbv
 simp only [bM,RN,simprocAttr]
 by_cases hx:x=0
 ·by_cases hy:y=0
  ·by_cases hz:z=0
   ·subst hx hy hz
    rw [if_neg (by simp),if_neg (by simp)] at hO;subst hO
    simp (disch:=omega) only [↓RS,RZ,simprocAttr]
    refine pD 4 ?_
    simp (disch:=omega) only [↓RS,RZ,simprocAttr,mJ,j5,lK,mK,Int.reduceAdd,Int.reduceToNat,Int.zero_add]
   ·subst hx hy
    rw [if_neg (by simp),if_neg (by simp)] at hO;subst hO
    simp (disch:=omega) only [↓RS,RZ,simprocAttr]
    refine pD 4 ?_
    simp (disch:=omega) only [↓RS,RZ,simprocAttr,mJ,j5,lK,mK,Int.reduceAdd,Int.reduceToNat,Int.zero_add]
  ·subst hx
   rw [if_neg (by simp),if_pos hy] at hO;subst hO
   simp (disch:=omega) only [↓RS,RZ,simprocAttr]
   refine pD 4 ?_
   simp (disch:=omega) only [↓RS,RZ,simprocAttr,mJ,j5,lK,mK,Int.reduceAdd,Int.reduceToNat,Int.zero_add]
 ·rw [if_pos hx] at hO;subst hO
  simp (disch:=omega) only [↓RS,RZ,simprocAttr]
  refine pD 4 ?_
  simp (disch:=omega) only [↓RS,RZ,simprocAttr,mJ,j5,lK,mK,Int.reduceAdd,Int.reduceToNat,Int.zero_add]
theorem QU (s t:Tri) (h1:ht3 s≤2^26) (h2:ht3 t≤2^26):PC prog 83 [trV s,trV t] (.prim (.int .i64 (ql s t))):=by
 have a1:=GU s;have a2:=GT s;have a3:=GS s
 have b1:=GU t;have b2:=GT t;have b3:=GS t
 have c1:=kT s.a t.a (by omega) (by omega)
 have c2:=kT s.b t.b (by omega) (by omega)
 have c3:=kT s.c t.c (by omega) (by omega)
 have c4:=or_pc (bO s.a t.a) (bO s.b t.b) (bO s.c t.c)
 have e:ql s t=orI (bO s.a t.a) (bO s.b t.b) (bO s.c t.c):=rfl
 rw [e]
 refine PCi ?_
 conv in bL _ _=>cbv
 simp only [bM,RN,simprocAttr]
 simp (disch:=omega) only [↓RS,RZ,simprocAttr,trV,trc,pV,ptV]
 refine cX c1 ?_
 simp (disch:=omega) only [↓RS,RZ,simprocAttr,pV,ptV]
 refine cX c2 ?_
 simp (disch:=omega) only [↓RS,RZ,simprocAttr,pV,ptV]
 refine cX c3 ?_
 simp (disch:=omega) only [↓RS,RZ,simprocAttr]
 refine cX c4 ?_
 simp (disch:=omega) only [↓RS,RZ,simprocAttr]
end Go.Av
namespace Go.Av
open Go.RowKit
open Go.Proofs.Tryz (prog)
theorem wJ {X Y Z W:Rt}:eqA (aD prog) 8 37 (.agg [.prim (.bool X.neg),.prim (.string (bs (X.num))),.prim (.string (bs (X.den))),.prim (.bool Y.neg),.prim (.string (bs (Y.num))),.prim (.string (bs (Y.den)))]) (.agg [.prim (.bool Z.neg),.prim (.string (bs (Z.num))),.prim (.string (bs (Z.den))),.prim (.bool W.neg),.prim (.string (bs (W.num))),.prim (.string (bs (W.den)))])=some (decide (X=Z∧Y=W)):=by
 have h1:= @uE 5 X.neg Z.neg X.num X.den Z.num Z.den
 have h2:= @uE 5 Y.neg W.neg Y.num Y.den W.num W.den
 unfold eqA
 simp only [RT,eqA.eqFs,Bool.false_eq_true,if_false,String.reduceEq,eS,TK.isAgg,if_true,aC,aI,Nat.reduceAdd,Nat.reduceLeDiff,List.drop_zero,List.drop_succ_cons,List.take_succ_cons,List.take_zero,h1,h2]
 have e1:decide (Rt.mk X.neg X.num X.den=Rt.mk Z.neg Z.num Z.den)=decide (X=Z):=rfl
 have e2:decide (Rt.mk Y.neg Y.num Y.den=Rt.mk W.neg W.num W.den)=decide (Y=W):=rfl
 rw [e1,e2]
 by_cases a:X=Z<;>by_cases b:Y=W<;>simp [a,b]
theorem IM (s t:Sg):eqA (aD prog) 9 39 (.agg (sgc s)) (.agg (sgc t))=some (decide (s=t)):=by
 have h1:= @wJ (can s.a.x) (can s.a.y) (can t.a.x) (can t.a.y)
 have h2:= @wJ (can s.b.x) (can s.b.y) (can t.b.x) (can t.b.y)
 rw [I2] at h1 h2
 unfold eqA
 simp only [sgc,RT,eqA.eqFs,Bool.false_eq_true,if_false,String.reduceEq,eS,TK.isAgg,if_true,aC,aI,Nat.reduceAdd,Nat.reduceLeDiff,List.drop_zero,List.drop_succ_cons,List.take_succ_cons,List.take_zero,h1,h2]
 by_cases a:s.a=t.a<;>by_cases b:s.b=t.b
 ·simp [a,b,Sg.ext a b]
 ·have:s≠t:=fun e=>b (by rw [e])
  simp [a,b,this]
 ·have:s≠t:=fun e=>a (by rw [e])
  simp [a,b,this]
 ·have:s≠t:=fun e=>a (by rw [e])
  simp [a,b,this]
def mpM (ks:List Sg):List (V×V):=ks.map fun s=>(.agg (sgc s),.prim (.bool true))
theorem xL (s:Sg):∀ (ks:List Sg) (i:Nat),(s∉ks∧sL (aD prog) 39 (.agg (sgc s)) (mpM ks) i=some none)∨
 (s∈ks∧∃ j,sL (aD prog) 39 (.agg (sgc s)) (mpM ks) i=some (some (i+j,.prim (.bool true)))∧(mpM ks)[j]? =some (.agg (sgc s),.prim (.bool true)))
 |[],i=> .inl ⟨by simp,rfl⟩
 |t::ks,i=>by
  have e:mpM (t::ks)=(.agg (sgc t),.prim (.bool true))::mpM ks:=rfl
  rw [e]
  unfold sL
  simp only [IM]
  by_cases h:s=t
  ·rw [an h]
   exact .inr ⟨by simp [h],0,rfl,by rw [h];rfl⟩
  ·rw [ak h]
   try simp only
   rcases xL s ks (i+1) with ⟨h1,h2⟩|⟨h1,j,h2,h3⟩
   ·exact .inl ⟨by simp [h,h1],h2⟩
   ·exact .inr ⟨by simp [h1],j+1,by rw [h2];congr 3;omega,by simpa using h3⟩
theorem Bp (s:Sg):eqA (aD prog) 9 39 (.agg (sgc s)) (.agg (sgc s))=some true:=by rw [IM,an rfl]
theorem xB (s:Sg) (ks:List Sg):GK (aD prog) 39 4 (.agg (sgc s)) false (mpM ks)=some (.prim (.bool (decide (s∈ks)))):=by
 unfold GK
 rw [Bp]
 rcases xL s ks 0 with ⟨h1,h2⟩|⟨h1,j,h2,_⟩
 ·rw [h2,ak h1]
  simp only [RT]
  rfl
 ·rw [h2,an h1]
  simp only [RT]
  rfl
def wV (ks:List Sg) (s:Sg):List Sg:=if s∈ks then ks else ks++[s]
theorem NN (s:Sg):yv (.agg (sgc s))=true:=rfl
theorem NH {α:Type} {l:List α} {j:Nat} {x:α} (h:l[j]? =some x):l.set j x=l:=by
 refine List.ext_getElem? fun c=> ?_
 rw [fS]
 split
 ·rename_i hc;subst hc;rw [if_pos (aH.1 h).1,h]
 ·rfl
theorem iG:aD prog 107 =some ⟨1,8,[.map none],.map 39 4,false⟩:=by kernel_rfl
theorem CH {T:List V} {H:Hp} {m k x:Operand} {K:V→Hp→Prop} {b:Nat} {ks:List Sg} {s:Sg} (hm:ev T m= .mpr b) (hk:ev T k= .agg (sgc s)) (hx:ev T x= .prim (.bool true)) (hb:get H b=some (.mp (mpM ks)))
 (hK:K cW (H.set b (some (.mp (mpM (wV ks s)))))):p6 prog T H 107 m k x K:=by
 unfold p6
 simp only [iG,hm,hk,hx,hb,Bp]
 refine ⟨trivial,?_⟩
 rcases xL s ks 0 with ⟨h1,h2⟩|⟨h1,j,h2,h3⟩
 ·rw [h2]
  rw [wV,if_neg h1,mpM,bz] at hK
  exact hK
 ·rw [h2]
  simp only [aX]
  rw [wV,if_pos h1] at hK
  exact ⟨h3,NN s,by rw [NH h3];exact hK⟩
def rZ (E ds:List Sg):List Sg:=ds.foldl wV ((E.map Sg.order).foldl wV [])
theorem nA {α β:Type} (f:α→β→α) (a:α) (l:List β) (x:β):(l++[x]).foldl f a=f (l.foldl f a) x:=by rw [List.foldl_append];rfl
theorem Ox {ks:List Sg} {s t:Sg}:t∈wV ks s↔t∈ks∨t=s:=by
 unfold wV;split
 ·rename_i h
  exact ⟨.inl,fun k=>k.elim id (fun e=>by rw [e];exact h)⟩
 ·simp
theorem xx {t:Sg}:∀ {l ks:List Sg},t∈l.foldl wV ks↔t∈ks∨t∈l
 |[],ks=>by simp
 |s::l,ks=>by
  rw [List.foldl_cons,xx,Ox,ay,or_assoc]
theorem yx {E ds:List Sg} {t:Sg}:t∈rZ E ds↔t∈E.map Sg.order∨t∈ds:=by
 unfold rZ;rw [xx,xx];simp
def jr (s:Sg) (q:Pt):Tri:=if fB s.a s.b q<0 then ⟨s.a,q,s.b⟩ else ⟨s.a,s.b,q⟩
def rH (l:List Pt) (W:Pt→Int) (t:Tri):Prop:=0<fB t.a t.b t.c∧0<W (ctr t)∧(jI l.length fun i=>decide (0<jK t (l.getD i default)))=false
instance (l:List Pt) (W:Pt→Int) (t:Tri):Decidable (rH l W t):=inferInstanceAs (Decidable (_∧_∧_))
def sK (K:List Sg) (s:Sg) (q:Pt):Prop:=bO s.b q<0∧(⟨s.a,q⟩:Sg)∈K∧(⟨s.b,q⟩:Sg)∈K
instance (K:List Sg) (s:Sg) (q:Pt):Decidable (sK K s q):=inferInstanceAs (Decidable (_∧_∧_))
def rS (K:List Sg) (l:List Pt) (W:Pt→Int) (s:Sg) (out:List Tri) (q:Pt):List Tri:=
 if sK K s q∧rH l W (jr s q) then out++[jr s q] else out
def rT (K:List Sg) (l:List Pt) (W:Pt→Int) (out:List Tri) (s:Sg):List Tri:=
 if s∈K then l.foldl (rS K l W s) out else out
def ke (K:List Sg) (l:List Pt) (W:Pt→Int) (m:List (Nat×Nat)):List Tri:=m.foldl (fun out x=>rT K l W out (prS l x)) []
theorem Fx (K:List Sg) (l:List Pt) (W:Pt→Int) (m:List (Nat×Nat)) (x:Nat×Nat):ke K l W (m++[x])=rT K l W (ke K l W m) (prS l x):=by
 unfold ke;rw [List.foldl_append];rfl
theorem MK {l:List Tri} {k:Nat} (h:k<l.length):(l.map trc).getD k []=trc (l.getD k tr0):=by
 rw [ae,ae,aW,af h];rfl
theorem KR (l:List Tri):BQ (l.map trc):=by
 intro e he v hv
 obtain ⟨s,_,rfl⟩:=av.1 he
 simp only [trc,ay,List.not_mem_nil,or_false] at hv
 rcases hv with h|h|h|h|h|h|h|h|h|h|h|h|h|h|h|h|h|h<;>exact ⟨_,h⟩
theorem IA (l:List Pt) (f:FuncId) (cap:List V) (p:Nat→Bool) {H:Hp} {K:V→Hp→Prop} (hn:l.length<2^40)
 (hf:FG f cap l.length (fun i=>pV (l.getD i default)) p H) (hK:∀ H',Ext H H'→K (.prim (.int .i64 (oa l.length p))) H'):
 SC prog 128 [psV l,.clo f [] cap] H K:=by
 refine SCi ?_
 conv in bL _ _=>cbv
 simp only [bM,RN,simprocAttr]
 simp (disch:=omega) only [↓RS,RZ,simprocAttr,psV,cU]
 refine eG (fun (i:Nat) J=>ov [(0,psV l),(1,.clo f [] cap),(4,.prim (.int .i64 (0))),(6,psV l),(7,.prim (.int .i64 ((l.length:Nat):Int))),(8,.prim (.int .i64 ((i:Nat):Int)))] J 0 19) (fun i H'=>(i≤l.length∧∀ j,j<i→p j=false)∧Ext H H') (fun i=>l.length-i) 0 rfl ⟨⟨bh _,fun j hj=>absurd hj (Nat.not_lt_zero j)⟩,Ext.refl⟩ ?_
 rintro i J H1 ⟨⟨hi,hp⟩,hE⟩
 try conv in ov _ _ _ _=>simp only [ov,List.lookup,RO,simprocAttr]
 rcases am i l.length with hlt|hge
 ·have g:=lj hlt
  simp (disch:=omega) only [↓RS,RZ,simprocAttr,psV,cU,g,pc]
  refine bI (hf i _ _ hlt hE ?_)
  intro H2 hE2
  have hE3:=hE.trans hE2
  cases hpi:p i with
  |true=>
   rw [lT hlt hpi hp] at hK
   simp (disch:=omega) only [↓RS,RZ,simprocAttr]
   exact hK _ hE3
  |false=>
   simp (disch:=omega) only [↓RS,RZ,simprocAttr]
   exact bl (i+1) rfl ⟨⟨hlt,fun j hj=>by
    rcases am j i with h|h
    ·exact hp j h
    ·rw [show j=i by omega];exact hpi⟩,hE3⟩ (by omega)
 ·have hia:i=l.length:=by omega
  subst hia
  rw [ki hp] at hK
  simp (disch:=omega) only [↓RS,RZ,simprocAttr,psV,cU]
  exact hK _ hE
theorem va (l:List Pt) (f:FuncId) (cap:List V) (p:Nat→Bool) {H:Hp} {K:V→Hp→Prop} (hn:l.length<2^40)
 (hf:FG f cap l.length (fun i=>pV (l.getD i default)) p H) (hK:∀ H',Ext H H'→K (.prim (.bool (jI l.length p))) H'):
 SC prog 60 [psV l,.clo f [] cap] H K:=by
 unfold jI at hK
 rw [←kX] at hK
 refine SCi ?_
 conv in bL _ _=>cbv
 simp only [bM,RN,simprocAttr]
 simp (disch:=omega) only [↓RS,RZ,simprocAttr,psV]
 refine bI (IA l f cap p hn hf ?_)
 intro H' hE
 by_cases h:0≤oa l.length p
 ·rw [an h] at hK
  simp (disch:=omega) only [↓RS,RZ,simprocAttr]
  exact hK _ hE
 ·rw [ak h] at hK
  simp (disch:=omega) only [↓RS,RZ,simprocAttr]
  exact hK _ hE
theorem Eb (t:Tri) (p:Pt) (h1:ht3 t≤2^26) (h2:hp p≤2^26) {b:Nat} {H:Hp} {K:V→Hp→Prop} (hb:get H b=some (.row 18 true [trc t])) (hK:∀ H',Ext H H'→K (.prim (.bool (decide (0<jK t p)))) H'):
 SC prog 79 [pV p,.ptr b 0 0] H K:=by
 have c:=Iv t p h1 h2
 have w1:∀ y,get (H++[y]) b=some (.row 18 true [trc t]):=fun y=>aO hb
 have hk:=fun y=>hK _ (Ext.app [y])
 generalize jK t p=n at*
 refine SCi ?_
 conv in bL _ _=>cbv
 simp only [bM,RN,simprocAttr]
 simp (disch:=omega) only [↓RS,RZ,simprocAttr,pV,ptV,hb,w1,trc]
 refine cX c ?_
 simp (disch:=omega) only [↓RS,RZ,simprocAttr]
 exact hk _
end Go.Av
namespace Go.Av
open Go.RowKit
open Go.Proofs.Tryz (prog)
def zo (dec:Rat→Tri) (Dm:Rat→Prop) (F:FuncId):Prop:=∀ p q,Dm p→Dm q→PC prog F [trV (dec p),trV (dec q)] (.prim (.int .i64 (jV p q)))
def tq (dec:Rat→Tri) (r:Rat):List V:=trc (dec r)
def hD (Dm:Rat→Prop) (l:List Rat):Prop:=∀ i,i<l.length→Dm (l.getD i 0)
theorem eW {dec:Rat→Tri} {l:List Rat} {i:Nat} (h:i<l.length):(l.map (tq dec))[i]? =some (tq dec (l.getD i 0)):=by
 rw [aW,ae,af h];rfl
theorem Sw.hD {a b:Nat} {l m:List Rat} {Dm:Rat→Prop} (h:Sw a b l m) (hl:hD Dm l):hD Dm m:=by
 induction h with
 |refl=>exact hl
 |step i j p1 p2 p3 p4 p5 h ih=>
  have:=h.length
  intro x hx
  rw [rX] at hx
  rw [nf (by omega) (by omega)]
  split
  ·exact ih i (by omega)
  ·split
   ·exact ih j (by omega)
   ·exact ih x hx
theorem nS {dec:Rat→Tri} {m:List Rat} {i j:Nat}:((m.map (tq dec)).set i (tq dec (m.getD j 0))).set j (tq dec (m.getD i 0))=(swp m i j).map (tq dec):=by
 unfold swp;rw [List.map_set,List.map_set]
theorem jk {p q:Rat}:jV p q<0↔p<q:=by
 unfold jV
 by_cases h1:p<q
 ·rw [if_pos h1];exact ⟨fun _=>h1,fun _=>by decide⟩
 ·rw [if_neg h1]
  split
  ·exact ⟨fun h=>absurd h (by decide),fun h=>absurd h h1⟩
  ·exact ⟨fun h=>absurd h (by decide),fun h=>absurd h h1⟩
theorem LM {F:FuncId} {dec:Rat→Tri} {Dm:Rat→Prop} (hF:zo dec Dm F) (l:List Rat) (a b:Nat) (hab:a≤b) (hbl:b≤l.length) (hn:l.length≤2^20) (hl0:hD Dm l) {blk:Nat} {fx:Bool} {H:Hp} {K:V→Hp→Prop} (hb:get H blk=some (.row 18 true (l.map (tq dec))))
 (hK:∀ m,Sw a b l m→Srt a b m→K (.tup []) (H.set blk (some (.row 18 true (m.map (tq dec)))))):
 SC prog 204 [.sref blk 0 l.length l.length 18 fx,.prim (.int .i64 ((a:Nat):Int)),.prim (.int .i64 ((b:Nat):Int)),.clo F [] []] H K:=by
 have hbk:=bF hb
 have s1:∀ x,get (H.set blk x) blk=x:=fun x=>dF hbk
 have s2:∀ x y,(H.set blk x).set blk y=H.set blk y:=fun x y=>List.set_set ..
 refine SCi ?_
 conv in bL _ _=>cbv
 simp only [bM,RN,simprocAttr]
 simp (disch:=omega) only [↓RS,RZ,simprocAttr]
 refine eG (fun (i:Nat) J=>ov [(0,.sref blk 0 l.length l.length 18 fx),(1,.prim (.int .i64 ((a:Nat):Int))),(2,.prim (.int .i64 ((b:Nat):Int))),(3,.clo F [] []),(8,.prim (.int .i64 ((i:Nat):Int)))] J 0 53) (fun i H'=>∃ m:List Rat,((a+1≤i∧(i≤b∨i=a+1))∧Sw a b l m∧Srt a i m)∧H'=H.set blk (some (.row 18 true (m.map (tq dec))))) (fun i=>b-i) (a+1) rfl ⟨l,⟨⟨ax _,.inr rfl⟩,.refl l,fun k h1 h2=>by omega⟩,(vW hb).symm⟩ ?_
 rintro i J _ ⟨m,⟨⟨hi1,hi⟩,hsw,hs⟩,rfl⟩
 try conv in ov _ _ _ _=>simp only [ov,List.lookup,RO,simprocAttr]
 have hml:=hsw.length
 rcases am i b with hlt|hge
 ·simp (disch:=omega) only [↓RS,RZ,simprocAttr]
  refine eG (fun (j:Nat) J=>ov [(0,.sref blk 0 l.length l.length 18 fx),(1,.prim (.int .i64 ((a:Nat):Int))),(2,.prim (.int .i64 ((b:Nat):Int))),(3,.clo F [] []),(8,.prim (.int .i64 ((i:Nat):Int))),(9,.prim (.int .i64 ((j:Nat):Int)))] J 0 53) (fun j H'=>∃ m:List Rat,(Sw a b l m∧HJ a i j m)∧H'=H.set blk (some (.row 18 true (m.map (tq dec))))) (fun j=>j) i rfl ⟨m,⟨hsw,.start hs (by omega)⟩,rfl⟩ ?_
  rintro j J' _ ⟨m',⟨hsw',hI⟩,rfl⟩
  try conv in ov _ _ _ _=>simp only [ov,List.lookup,RO,simprocAttr]
  have hml':=hsw'.length
  have q:=hsw'.hD hl0
  have h1:=hI.lo
  have h2:=hI.hi
  by_cases hj:j=a
  ·simp (disch:=omega) only [↓RS,RZ,simprocAttr]
   exact bl (i+1) rfl ⟨m',⟨⟨by omega,.inl hlt⟩,hsw',hI.stop (.inl hj)⟩,rfl⟩ (by omega)
  ·obtain ⟨k,rfl⟩:∃ k,j=k+1:=⟨j-1,by omega⟩
   have g1:=eW (dec:=dec) (l:=m') (i:=k) (by omega)
   have g2:=eW (dec:=dec) (l:=m') (i:=k+1) (by omega)
   have c:=hF (m'.getD (k+1) 0) (m'.getD k 0) (q _ (by omega)) (q _ (by omega))
   have hst:=hI.stop
   have hdn:=fun h=>hI.down (by omega) (by omega) h
   rw [Nat.add_sub_cancel] at hst hdn
   simp (disch:=omega) only [↓RS,RZ,simprocAttr,s1,g1,g2,tq,trc,Nat.add_sub_cancel,aX]
   refine cX c ?_
   by_cases hc:jV (m'.getD (k+1) 0) (m'.getD k 0)<0
   ·have g3:∀ x,((m'.map (tq dec)).set (k+1) x)[k]? =some (tq dec (m'.getD k 0)):=fun x=>by rw [List.getElem?_set_ne (by omega)];exact g1
    have es:= @nS dec m' (k+1) k
    simp only [tq,trc] at es
    simp (disch:=omega) only [↓RS,RZ,simprocAttr,s1,s2,g1,g2,g3,tq,trc,Nat.add_sub_cancel,aX,es]
    exact bl k rfl ⟨swp m' (k+1) k,⟨hsw'.trans (.step _ _ (by omega) (by omega) (by omega) (by omega) (by omega) (.refl _)),hdn (jk.1 hc)⟩,rfl⟩ (Nat.lt_succ_self k)
   ·simp (disch:=omega) only [↓RS,RZ,simprocAttr]
    exact bl (i+1) rfl ⟨m',⟨⟨by omega,.inl hlt⟩,hsw',hst (.inr (Rat.not_lt.1 fun h=>hc (jk.2 h)))⟩,rfl⟩ (by omega)
 ·simp (disch:=omega) only [↓RS,RZ,simprocAttr]
  exact hK m hsw (fun k h1 h2=>hs k h1 (by omega))
theorem JA {F:FuncId} {dec:Rat→Tri} {Dm:Rat→Prop} (hF:zo dec Dm F) (l:List Rat) (f lo n:Nat) (hfn:f+n≤l.length) (hlo:lo≤n) (hn:l.length≤2^20) (hl0:hD Dm l) (hh:Hep f (lo+1) n l) {blk:Nat} {fx:Bool} {H:Hp} {K:V→Hp→Prop} (hb:get H blk=some (.row 18 true (l.map (tq dec))))
 (hK:∀ m,Sw f (f+n) l m→Hep f lo n m→K (.tup []) (H.set blk (some (.row 18 true (m.map (tq dec)))))):
 SC prog 260 [.sref blk 0 l.length l.length 18 fx,.prim (.int .i64 ((lo:Nat):Int)),.prim (.int .i64 ((n:Nat):Int)),.prim (.int .i64 ((f:Nat):Int)),.clo F [] []] H K:=by
 have hbk:=bF hb
 have s1:∀ x,get (H.set blk x) blk=x:=fun x=>dF hbk
 have s2:∀ x y,(H.set blk x).set blk y=H.set blk y:=fun x y=>List.set_set ..
 refine SCi ?_
 conv in bL _ _=>cbv
 simp only [bM,RN,simprocAttr]
 simp (disch:=omega) only [↓RS,RZ,simprocAttr]
 refine eG (fun (r:Nat) J=>ov [(0,.sref blk 0 l.length l.length 18 fx),(2,.prim (.int .i64 ((n:Nat):Int))),(3,.prim (.int .i64 ((f:Nat):Int))),(4,.clo F [] []),(10,.prim (.int .i64 ((r:Nat):Int)))] J 0 82) (fun r H'=>∃ m:List Rat,(r≤n∧Sw f (f+n) l m∧y8 f lo n r m)∧H'=H.set blk (some (.row 18 true (m.map (tq dec))))) (fun r=>n-r) lo rfl ⟨l,⟨hlo,.refl l,.start hh⟩,(vW hb).symm⟩ ?_
 rintro r J _ ⟨m,⟨hrn,hsw,hI⟩,rfl⟩
 try conv in ov _ _ _ _=>simp only [ov,List.lookup,RO,simprocAttr]
 have hml:=hsw.length
 have q:=hsw.hD hl0
 have e2:(2:Int)*(r:Int)=((2*r:Nat):Int):=by omega
 by_cases hc0:n≤2*r+1
 ·simp (disch:=omega) only [↓RS,RZ,simprocAttr,e2]
  exact hK m hsw (hI.stop fun c h1 h2=>by omega)
 ·have g0:=eW (dec:=dec) (l:=m) (i:=f+r) (by omega)
  have g1:=eW (dec:=dec) (l:=m) (i:=f+(2*r+1)) (by omega)
  have fin:∀ c,(c=2*r+1∨c=2*r+2)→c<n→(∀ d,(d=2*r+1∨d=2*r+2)→d<n→m.getD (f+d) 0≤m.getD (f+c) 0)→¬m.getD (f+r) 0<m.getD (f+c) 0→Hep f lo n m:=fun c h1 h2 h3 h4=>
   hI.stop fun d k1 k2=>iy (h3 d k1 k2) (Rat.not_lt.1 h4)
  by_cases hc1:2*r+2<n
  ·have g2:=eW (dec:=dec) (l:=m) (i:=f+(2*r+1)+1) (by omega)
   have c1:=hF (m.getD (f+(2*r+1)) 0) (m.getD (f+(2*r+1)+1) 0) (q _ (by omega)) (q _ (by omega))
   simp (disch:=omega) only [↓RS,RZ,simprocAttr,e2,s1,g1,g2,tq,trc,aX]
   refine cX c1 ?_
   by_cases hz:jV (m.getD (f+(2*r+1)) 0) (m.getD (f+(2*r+1)+1) 0)<0
   ·have hz':=jk.1 hz
    have gc:=eW (dec:=dec) (l:=m) (i:=f+(2*r+1+1)) (by omega)
    have c2:=hF (m.getD (f+r) 0) (m.getD (f+(2*r+1+1)) 0) (q _ (by omega)) (q _ (by omega))
    have hmx:∀ d,(d=2*r+1∨d=2*r+2)→d<n→m.getD (f+d) 0≤m.getD (f+(2*r+1+1)) 0:=by
     rintro d (rfl|rfl) hd
     ·exact ai hz'
     ·exact Rat.le_refl
    have gx:∀ x,((m.map (tq dec)).set (f+r) x)[f+(2*r+1+1)]? =some (tq dec (m.getD (f+(2*r+1+1)) 0)):=fun x=>by rw [List.getElem?_set_ne (by omega)];exact gc
    have es:= @nS dec m (f+r) (f+(2*r+1+1))
    simp only [tq,trc] at es
    simp (disch:=omega) only [↓RS,RZ,simprocAttr,s1,g0,gc,tq,trc,aX]
    refine cX c2 ?_
    by_cases hk:jV (m.getD (f+r) 0) (m.getD (f+(2*r+1+1)) 0)<0
    ·simp (disch:=omega) only [↓RS,RZ,simprocAttr,s1,s2,g0,gc,gx,tq,trc,aX,es]
     exact bl (2*r+1+1) rfl ⟨_,⟨by omega,hsw.trans (.step (f+r) (f+(2*r+1+1)) (by omega) (by omega) (by omega) (by omega) (by omega) (.refl _)),hI.down (by omega) (by omega) (by omega) (jk.1 hk) hmx⟩,rfl⟩ (by omega)
    ·simp (disch:=omega) only [↓RS,RZ,simprocAttr]
     exact hK m hsw (fin (2*r+1+1) (by omega) (by omega) hmx fun h=>hk (jk.2 h))
   ·have hz':=Rat.not_lt.1 (fun h=>hz (jk.2 h))
    have gc:=eW (dec:=dec) (l:=m) (i:=f+(2*r+1)) (by omega)
    have c2:=hF (m.getD (f+r) 0) (m.getD (f+(2*r+1)) 0) (q _ (by omega)) (q _ (by omega))
    have hmx:∀ d,(d=2*r+1∨d=2*r+2)→d<n→m.getD (f+d) 0≤m.getD (f+(2*r+1)) 0:=by
     rintro d (rfl|rfl) hd
     ·exact Rat.le_refl
     ·exact hz'
    have gx:∀ x,((m.map (tq dec)).set (f+r) x)[f+(2*r+1)]? =some (tq dec (m.getD (f+(2*r+1)) 0)):=fun x=>by rw [List.getElem?_set_ne (by omega)];exact gc
    have es:= @nS dec m (f+r) (f+(2*r+1))
    simp only [tq,trc] at es
    simp (disch:=omega) only [↓RS,RZ,simprocAttr,s1,g0,gc,tq,trc,aX]
    refine cX c2 ?_
    by_cases hk:jV (m.getD (f+r) 0) (m.getD (f+(2*r+1)) 0)<0
    ·simp (disch:=omega) only [↓RS,RZ,simprocAttr,s1,s2,g0,gc,gx,tq,trc,aX,es]
     exact bl (2*r+1) rfl ⟨_,⟨by omega,hsw.trans (.step (f+r) (f+(2*r+1)) (by omega) (by omega) (by omega) (by omega) (by omega) (.refl _)),hI.down (by omega) (by omega) (by omega) (jk.1 hk) hmx⟩,rfl⟩ (by omega)
    ·simp (disch:=omega) only [↓RS,RZ,simprocAttr]
     exact hK m hsw (fin (2*r+1) (by omega) (by omega) hmx fun h=>hk (jk.2 h))
  ·simp (disch:=omega) only [↓RS,RZ,simprocAttr,e2]
   have gc:=eW (dec:=dec) (l:=m) (i:=f+(2*r+1)) (by omega)
   have c2:=hF (m.getD (f+r) 0) (m.getD (f+(2*r+1)) 0) (q _ (by omega)) (q _ (by omega))
   have hmx:∀ d,(d=2*r+1∨d=2*r+2)→d<n→m.getD (f+d) 0≤m.getD (f+(2*r+1)) 0:=by
    rintro d (rfl|rfl) hd
    ·exact Rat.le_refl
    ·omega
   have gx:∀ x,((m.map (tq dec)).set (f+r) x)[f+(2*r+1)]? =some (tq dec (m.getD (f+(2*r+1)) 0)):=fun x=>by rw [List.getElem?_set_ne (by omega)];exact gc
   have es:= @nS dec m (f+r) (f+(2*r+1))
   simp only [tq,trc] at es
   simp (disch:=omega) only [↓RS,RZ,simprocAttr,s1,g0,gc,tq,trc,aX]
   refine cX c2 ?_
   by_cases hk:jV (m.getD (f+r) 0) (m.getD (f+(2*r+1)) 0)<0
   ·simp (disch:=omega) only [↓RS,RZ,simprocAttr,s1,s2,g0,gc,gx,tq,trc,aX,es]
    exact bl (2*r+1) rfl ⟨_,⟨by omega,hsw.trans (.step (f+r) (f+(2*r+1)) (by omega) (by omega) (by omega) (by omega) (by omega) (.refl _)),hI.down (by omega) (by omega) (by omega) (jk.1 hk) hmx⟩,rfl⟩ (by omega)
   ·simp (disch:=omega) only [↓RS,RZ,simprocAttr]
    exact hK m hsw (fin (2*r+1) (by omega) (by omega) hmx fun h=>hk (jk.2 h))
theorem QG {F:FuncId} {dec:Rat→Tri} {Dm:Rat→Prop} (hF:zo dec Dm F) (l:List Rat) (a b:Nat) (hab:a<b) (hbl:b≤l.length) (hn:l.length≤2^20) (hl0:hD Dm l) {blk:Nat} {fx:Bool} {H:Hp} {K:V→Hp→Prop} (hb:get H blk=some (.row 18 true (l.map (tq dec))))
 (hK:∀ m,Sw a b l m→Srt a b m→K (.tup []) (H.set blk (some (.row 18 true (m.map (tq dec)))))):
 SC prog 205 [.sref blk 0 l.length l.length 18 fx,.prim (.int .i64 ((a:Nat):Int)),.prim (.int .i64 ((b:Nat):Int)),.clo F [] []] H K:=by
 have hbk:=bF hb
 have s1:∀ x,get (H.set blk x) blk=x:=fun x=>dF hbk
 have s2:∀ x y,(H.set blk x).set blk y=H.set blk y:=fun x y=>List.set_set ..
 obtain ⟨n,rfl⟩:∃ n,b=a+n:=⟨b-a,by omega⟩
 have ed:((a+n:Nat):Int)-(a:Int)=((n:Nat):Int):=by omega
 have e1:((n:Nat):Int)-1=((n-1:Nat):Int):=by omega
 have e2:(((n-1:Nat):Int)).tdiv 2=(((n-1)/2:Nat):Int):=uV (n-1) 2
 refine SCi ?_
 conv in bL _ _=>cbv
 simp only [bM,RN,simprocAttr]
 simp (disch:=omega) only [↓RS,RZ,simprocAttr,ed,e1,e2]
 refine eG (fun (s:Nat) J=>ov [(0,.sref blk 0 l.length l.length 18 fx),(3,.clo F [] []),(8,.prim (.int .i64 ((a:Nat):Int))),(9,.prim (.int .i64 (0))),(10,.prim (.int .i64 ((n:Nat):Int))),(11,.prim (.int .i64 ((s:Int)-1)))] J 0 60) (fun s H'=>∃ m:List Rat,(s≤(n-1)/2+1∧Sw a (a+n) l m∧Hep a s n m)∧H'=H.set blk (some (.row 18 true (m.map (tq dec))))) (fun s=>s) ((n-1)/2+1) (by rw [show (((n-1)/2+1:Nat):Int)-1=(((n-1)/2:Nat):Int) by omega];rfl) ⟨l,⟨ax _,.refl l,.late (by omega)⟩,(vW hb).symm⟩ ?_
 rintro s J _ ⟨m,⟨hs,hsw,hh⟩,rfl⟩
 try conv in ov _ _ _ _=>simp only [ov,List.lookup,RO,simprocAttr]
 have hml:=hsw.length
 have q:=hsw.hD hl0
 rcases s with _|k
 ·simp (disch:=omega) only [↓RS,RZ,simprocAttr,e1]
  refine eG (fun (s:Nat) J=>ov [(0,.sref blk 0 l.length l.length 18 fx),(3,.clo F [] []),(8,.prim (.int .i64 ((a:Nat):Int))),(9,.prim (.int .i64 (0))),(10,.prim (.int .i64 ((n:Nat):Int))),(12,.prim (.int .i64 ((s:Int)-1)))] J 0 60) (fun s H'=>∃ m:List Rat,(s≤n∧Sw a (a+n) l m∧HH a n s m)∧H'=H.set blk (some (.row 18 true (m.map (tq dec))))) (fun s=>s) n (by rw [e1];rfl) ⟨m,⟨ax _,hsw,.start hh⟩,rfl⟩ ?_
  rintro s J' _ ⟨m',⟨hs',hsw',hp⟩,rfl⟩
  try conv in ov _ _ _ _=>simp only [ov,List.lookup,RO,simprocAttr]
  have hml':=hsw'.length
  have q':=hsw'.hD hl0
  rcases s with _|k
  ·simp (disch:=omega) only [↓RS,RZ,simprocAttr]
   exact hK m' hsw' (by have:=hp.srt;rwa [Nat.add_zero] at this)
  ·have ek:((k+1:Nat):Int)-1=((k:Nat):Int):=by omega
   rw [ek]
   have g1:=eW (dec:=dec) (l:=m') (i:=a) (by omega)
   have g2:=eW (dec:=dec) (l:=m') (i:=a+k) (by omega)
   have gx:((m'.map (tq dec)).set a (tq dec (m'.getD (a+k) 0)))[a+k]? =some (tq dec (m'.getD (a+k) 0)):=by
    rcases Nat.eq_zero_or_pos k with h0|h0
    ·subst h0;rw [Nat.add_zero,List.getElem?_set_self (by rw [az];omega)]
    ·rw [List.getElem?_set_ne (by omega)];exact g2
   have es:= @nS dec m' a (a+k)
   simp only [tq,trc] at es gx
   have hsl:=rX m' a (a+k)
   have st:Sw a (a+n) m' (swp m' a (a+k)):= .step _ _ (by omega) (by omega) (by omega) (by omega) (by omega) (.refl _)
   have sf:=fun H0 K0 hb0 hK0=> @JA F dec Dm hF (swp m' a (a+k)) a 0 k (by omega) (bh _) (by omega) (st.hD q') (hp.swap (by omega) (by omega)) blk fx H0 K0 hb0 hK0
   rw [hsl,hml'] at sf
   simp (disch:=omega) only [↓RS,RZ,simprocAttr,s1,s2,g1,g2,gx,tq,trc,aX,es]
   refine bI (sf _ _ (s1 _) fun m2 hw2 hh2=> ?_)
   rw [s2]
   simp (disch:=omega) only [↓RS,RZ,simprocAttr]
   exact bl k rfl ⟨m2,⟨by omega,(hsw'.trans st).trans (hw2.mono (ax _) (by omega) (by omega)),hp.step (by omega) (by omega) hw2 hh2⟩,rfl⟩ (Nat.lt_succ_self k)
 ·have ek:((k+1:Nat):Int)-1=((k:Nat):Int):=by omega
  rw [ek]
  have sf:=fun H0 K0 hb0 hK0=> @JA F dec Dm hF m a k n (by omega) (by omega) (by omega) q hh blk fx H0 K0 hb0 hK0
  rw [hml] at sf
  simp (disch:=omega) only [↓RS,RZ,simprocAttr]
  refine bI (sf _ _ (s1 _) fun m2 hw2 hh2=> ?_)
  rw [s2]
  simp (disch:=omega) only [↓RS,RZ,simprocAttr]
  exact bl k rfl ⟨m2,⟨by omega,hsw.trans hw2,hh2⟩,rfl⟩ (Nat.lt_succ_self k)
end Go.Av
