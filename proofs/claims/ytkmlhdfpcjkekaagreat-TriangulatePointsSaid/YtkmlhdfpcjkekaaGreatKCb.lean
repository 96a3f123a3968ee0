/- Helping texts: Cb, Cd, Ce. -/
import Derived.Test.YtkmlhdfpcjkekaaGreatKBg
import Derived.Test.YtkmlhdfpcjkekaaGreatKCt
import Derived.Test.YtkmlhdfpcjkekaaGreatKCc
set_option linter.unusedSimpArgs false
set_option linter.unusedVariables false
set_option maxRecDepth 100000
set_option maxHeartbeats 16000000
open Nat (reduceAdd reduceLT reduceLeDiff reducePow reduceDiv reduceMod reduceEqDiff)
namespace Go.Av
open Go.RowKit
open Go.Proofs.Tryz (prog)
def Cap (H:Hp) (b c sz:Nat) (es:List (List V)):Prop:=∃ junk,get H b=some (.row sz true (es++junk))∧es.length+junk.length=c
theorem Cap.app {H:Hp} {b c sz:Nat} {es:List (List V)} (h:Cap H b c sz es) (l:Hp):Cap (H++l) b c sz es:=by
 obtain ⟨j,h1,h2⟩:=h;exact ⟨j,get_app h1,h2⟩
theorem Cap.append {P:Program} {H:Hp} {b n c:Nat} {fx:Bool} {ei:TyI} {es ys:List (List V)} {K:V→Hp→Prop} (h:Cap H b c ei.sz es) (hn:n=es.length) (hy:∀ y∈ys,∀ v∈y,cellV v=true) (h1:es.length+ys.length≤c)
 (hK:∀ H',Cap H' b c ei.sz (es++ys)→(∀ d k,d≠b→get H d=some k→get H' d=some k)→K (.sref b 0 (n+ys.length) c ei.sz fx) H'):wpAppend P H ei (.sref b 0 n c ei.sz fx) ys K:=by
 subst hn
 obtain ⟨junk,hg,hj⟩:=h
 refine ⟨hy,?_⟩
 simp only [hg]
 refine ⟨trivial,by simp,.inl ⟨h1,by simp;omega,trivial,?_⟩⟩
 refine hK _ ⟨junk.drop ys.length,?_,by simp;omega⟩ (fun d k hd hk=>by rw [get_set_ne hd];exact hk)
 rw [get_set_same hg]
 simp only [splice,Nat.zero_add,List.take_left',List.append_assoc]
 congr 3
 rw [List.drop_append]
 simp
theorem lval_take_succ (l:List Nat) {i:Nat} (h:i<l.length):lval (l.take (i+1))=lval (l.take i)+4294967296^i*l.getD i 0:=by
 rw [List.take_add_one,List.getElem?_eq_getElem h,lval_append,List.getD_eq_getElem?_getD,List.getElem?_eq_getElem h]
 simp only [Option.toList_some,lval,List.length_take,Option.getD_some,Nat.min_eq_left (Nat.le_of_lt h)]
 simp
theorem lval_take_ge (l:List Nat) {i:Nat} (h:l.length≤i):lval (l.take i)=lval l:=by rw [List.take_of_length_le h]
theorem lval_step {a b:List Nat} {o:List Nat} {i c x y w d:Nat} (ho:o.length=i) (hv:lval o+4294967296^i*c=lval (a.take i)+lval (b.take i))
 (ha:lval (a.take (i+1))=lval (a.take i)+4294967296^i*x) (hb:lval (b.take (i+1))=lval (b.take i)+4294967296^i*y) (h:c+x+y=w+4294967296*d):
 lval (o++[w])+4294967296^(i+1)*d=lval (a.take (i+1))+lval (b.take (i+1)):=by
 rw [lval_append,ho,ha,hb,Nat.pow_succ]
 simp only [lval,Nat.mul_zero,Nat.add_zero]
 generalize 4294967296^i=p at*
 have e5:p*4294967296*d=p*(4294967296*d):=Nat.mul_assoc ..
 have e6:p*(c+x+y)=p*w+p*(4294967296*d):=by rw [h,Nat.mul_add]
 have e7:p*(c+x+y)=p*c+p*x+p*y:=by rw [Nat.mul_add,Nat.mul_add]
 omega
theorem lval_stepB {a b:List Nat} {o:List Nat} {i c x y s:Nat} (ho:o.length=i) (hv:lval o+4294967296^i*c=lval (a.take i)+lval (b.take i))
 (ha:lval (a.take (i+1))=lval (a.take i)+4294967296^i*x) (hb:lval (b.take (i+1))=lval (b.take i)+4294967296^i*y) (h:c+x+y=s):
 lval (o++[s%4294967296])+4294967296^(i+1)*(s/4294967296)=lval (a.take (i+1))+lval (b.take (i+1)):=lval_step ho hv ha hb (by omega)
structure PlusInv (a b:List Nat) (x:Nat×Nat×List Nat) (H:Hp):Prop where
 i:x.1≤a.length
 c:x.2.1≤1
 o:x.2.2.length=x.1
 l:Limb x.2.2
 v:lval x.2.2+4294967296^x.1*x.2.1=lval (a.take x.1)+lval (b.take x.1)
 H:Cap H 0 (a.length+1) 1 (lw x.2.2)
theorem shr32 (n:Nat):((n:Nat):Int).fdiv (2^min (Int.toNat 32) IntKind.u64.bits)=((n/4294967296:Nat):Int):=by
 show ((n:Nat):Int).fdiv ((4294967296:Nat):Int)=_
 rw [Int.fdiv_eq_ediv_of_nonneg _ (by omega)];rfl
theorem Limb.snoc {l:List Nat} (h:Limb l) {x:Nat} (hx:x<4294967296):Limb (l++[x]):=by
 intro z hz
 rcases List.mem_append.1 hz with hz|hz
 ·exact h z hz
 ·simp at hz;subst hz;exact hx
theorem plus_pc (l m:List Nat) (hl:l.length<2^38) (hm:m.length<2^38) (hL:Limb l) (hM:Limb m):PC prog 222 [.lst 1 (lw l),.lst 1 (lw m)] (.lst 1 (lw (limbsOf (lval l+lval m)))):=by
 refine PCi ?_
 conv in trip _ _=>cbv
 simp only [runT,RN,Nat.reduceAdd,Nat.reduceSub]
 rcases Nat.lt_or_ge l.length m.length with h|h
 simp (maxSteps:=2000000) (disch:=omega) only [↓RS,RY,reduceCtorEq,reduceAdd,reduceLT,reduceLeDiff,List.reduceReplicate,lw_length]
 rw [Nat.add_comm (lval l)]
 have hba:=Nat.le_of_lt h
 have hA:=hM;have hB:=hL
 clear h hL hM
 generalize l=b at*
 generalize m=a at*
 rotate_left
 simp (maxSteps:=2000000) (disch:=omega) only [↓RS,RY,reduceCtorEq,reduceAdd,reduceLT,reduceLeDiff,List.reduceReplicate,lw_length]
 have hba:m.length≤l.length:=h
 have hA:=hL;have hB:=hM
 clear h hL hM
 generalize l=a at*
 generalize m=b at*
 all_goals
  refine wp_lp (fun (x:Nat×Nat×List Nat) J=>ov [(0,.lst 1 (lw a)),(1,.lst 1 (lw b)),(4,.prim (.slice none 0 0)),(5,.sref 0 0 x.1 (a.length+1) 1 true),(6,.prim (.int .u64 ((x.2.1:Nat):Int))),(20,.lst 1 (lw a)),(21,.prim (.int .i64 ((a.length:Nat):Int))),(22,.prim (.int .i64 ((x.1:Nat):Int)))] J 0 56)
   (PlusInv a b) (fun x=>a.length-x.1) (0,0,[]) rfl
   ⟨Nat.zero_le _,Nat.zero_le _,rfl,fun x hx=>by simp at hx,by simp [lval],⟨List.replicate (a.length+1) [.prim (.int .u32 ((0:Nat):Int))],by simp [lw,get],by simp [lw]⟩⟩ ?_
  rintro ⟨i,c,o⟩ J H ⟨hi,hc,ho,hO,hv,hC⟩
  try conv in ov _ _ _ _=>simp only [ov,List.lookup,Option.getD_some,Option.getD_none,Nat.reduceAdd,Nat.reduceBEq]
  simp only at hi hc ho hO hv hC ⊢
  rcases Nat.lt_or_ge i a.length with hlt|hge
  ·have hx:=hA.getD i
   have t1:=lval_take_succ a hlt
   have g1:=lw_getD (l:=a) (k:=i) hlt
   generalize a.getD i 0=x at*
   rcases Nat.lt_or_ge i b.length with hlb|hgb
   ·have g2:=lw_getD (l:=b) (k:=i) hlb
    have hy:=hB.getD i
    have t2:=lval_take_succ b hlb
    generalize b.getD i 0=y at*
    simp (maxSteps:=2000000) (disch:=omega) only [↓RS,RY,reduceCtorEq,reduceAdd,reduceLT,reduceLeDiff,List.reduceReplicate,lw_length,g1,g2]
    refine Cap.append (hC.app _) (by rw [lw_length,ho]) (by simp [cellV]) (by rw [lw_length,ho];simp only [List.length_cons,List.length_nil];omega) ?_
    intro H' hC' _
    simp (maxSteps:=2000000) (disch:=omega) only [↓RS,RY,reduceCtorEq,reduceAdd,reduceLT,reduceLeDiff,List.reduceReplicate,shr32]
    refine lp_next (i+1,(c+x+y)/4294967296,o++[(c+x+y)%4294967296]) rfl ⟨hlt,Nat.le_of_lt_succ (Nat.div_lt_of_lt_mul (by omega)),by simp [ho],hO.snoc (by omega),lval_stepB ho hv t1 t2 rfl,by simp only [lw_append];exact hC'⟩ (by simp only;omega)
   ·have t2:lval (b.take (i+1))=lval (b.take i)+4294967296^i*0:=by rw [lval_take_ge b (by omega),lval_take_ge b hgb];omega
    simp (maxSteps:=2000000) (disch:=omega) only [↓RS,RY,reduceCtorEq,reduceAdd,reduceLT,reduceLeDiff,List.reduceReplicate,lw_length,g1]
    refine Cap.append (hC.app _) (by rw [lw_length,ho]) (by simp [cellV]) (by rw [lw_length,ho];simp only [List.length_cons,List.length_nil];omega) ?_
    intro H' hC' _
    simp (maxSteps:=2000000) (disch:=omega) only [↓RS,RY,reduceCtorEq,reduceAdd,reduceLT,reduceLeDiff,List.reduceReplicate,shr32]
    refine lp_next (i+1,(c+x)/4294967296,o++[(c+x)%4294967296]) rfl ⟨hlt,Nat.le_of_lt_succ (Nat.div_lt_of_lt_mul (by omega)),by simp [ho],hO.snoc (by omega),lval_stepB ho hv t1 t2 rfl,by simp only [lw_append];exact hC'⟩ (by simp only;omega)
  ·have hia:i=a.length:=by omega
   simp (maxSteps:=2000000) (disch:=omega) only [↓RS,RY,reduceCtorEq,reduceAdd,reduceLT,reduceLeDiff,List.reduceReplicate,lw_length]
   refine Cap.append (hC.app _) (by rw [lw_length,ho]) (by simp [cellV]) (by rw [lw_length,ho];simp only [List.length_cons,List.length_nil];omega) ?_
   rintro H' ⟨junk,hg',hj'⟩ _
   simp (maxSteps:=2000000) (disch:=omega) only [↓RS,RY,reduceCtorEq,reduceAdd,reduceLT,reduceLeDiff,List.reduceReplicate]
   have hval:lval (o++[c])=lval a+lval b:=by
    rw [lval_append,ho];simp only [lval,Nat.mul_zero,Nat.add_zero]
    rw [hv,hia,lval_take_ge a (Nat.le_refl _),lval_take_ge b hba]
   refine call_sc ?_
   have hc1:lw o++[[.prim (.int .u32 ((c:Nat):Int))]]=lw (o++[c]):=by rw [lw_append];rfl
   rw [hc1] at hg' hj'
   refine trim_sc hg' (x:=o++[c]) (by rw [List.length_append,lw_length];simp [ho]) (by rw [List.drop_zero];exact List.take_left' (by rw [lw_length];simp [ho])) (by simp [ho];omega) (hO.snoc (by omega)) ?_
   rw [hval]
   simp (maxSteps:=2000000) (disch:=omega) only [↓RS,RY,reduceCtorEq,reduceAdd,reduceLT,reduceLeDiff,List.reduceReplicate]
end Go.Av
namespace Go.Av
open Go.RowKit
open Go.Proofs.Tryz (prog)
theorem lval_replicate (n:Nat):lval (List.replicate n 0)=0:=by
 induction n with
 |zero=>rfl
 |succ n ih=>simp [List.replicate_succ,lval,ih]
theorem limb_replicate (n:Nat):Limb (List.replicate n 0):=fun x hx=>by
 have:=List.eq_of_mem_replicate hx
 omega
theorem getD_replicate (n i:Nat):(List.replicate n 0).getD i 0=0:=by
 rw [List.getD_eq_getElem?_getD,List.getElem?_replicate];split<;>rfl
theorem getD_set_ne {l:List Nat} {i j x:Nat} (h:i≠j):(l.set i x).getD j 0=l.getD j 0:=by
 rw [List.getD_eq_getElem?_getD,List.getD_eq_getElem?_getD,List.getElem?_set_ne h]
theorem getD_set_eq {l:List Nat} {i x:Nat} (h:i<l.length):(l.set i x).getD i 0=x:=by
 rw [List.getD_eq_getElem?_getD,List.getElem?_set_self h];rfl
structure MinusInv (a b:List Nat) (x:Nat×Nat×List Nat) (H:Hp):Prop where
 i:x.1≤a.length
 c:x.2.1≤1
 o:x.2.2.length=a.length
 l:Limb x.2.2
 z:∀ k,x.1≤k→x.2.2.getD k 0=0
 v:lval x.2.2+lval (b.take x.1)=lval (a.take x.1)+4294967296^x.1*x.2.1
 H:H=[some (.row 1 true (lw x.2.2))]
theorem minus_step {p x y c D B O A M:Nat} (hv:O+M=A+p*c) (h:x+4294967296*B=D+y+c):O+p*D+(M+p*y)=A+p*x+p*4294967296*B:=by
 have e:p*(x+4294967296*B)=p*(D+y+c):=by rw [h]
 rw [Nat.mul_add,Nat.mul_add,Nat.mul_add,←Nat.mul_assoc] at e
 omega
theorem minus_inv {a b o:List Nat} {i c x y:Nat} (hlt:i<a.length) (hc:c≤1) (ho:o.length=a.length) (hO:Limb o) (hz:∀ k,i≤k→o.getD k 0=0)
 (hv:lval o+lval (b.take i)=lval (a.take i)+4294967296^i*c) (t1:lval (a.take (i+1))=lval (a.take i)+4294967296^i*x) (t2:lval (b.take (i+1))=lval (b.take i)+4294967296^i*y)
 (hx:x<4294967296) (hy:y<4294967296):MinusInv a b (i+1,subB x y c,o.set i (subD x y c)) [some (.row 1 true (lw (o.set i (subD x y c))))]:=by
 have hs:=lval_set o i (subD x y c) (by omega)
 rw [hz i (Nat.le_refl _),Nat.mul_zero,Nat.add_zero] at hs
 refine ⟨hlt,subB_le _ _ _,by simp [ho],hO.set _ (subD_lt _ _ _),fun k hk=> ?_,?_,rfl⟩
 ·simp only at hk ⊢
  rw [getD_set_ne (by omega)];exact hz k (by omega)
 ·try simp only
  rw [hs,t1,t2,Nat.pow_succ]
  exact minus_step hv (subD_eq hx hy hc)
theorem minus_pc (l m:List Nat) (hl:l.length<2^38) (hm:m.length<2^38) (hL:Limb l) (hM:Limb m) (hle:lval m≤lval l) (hlen:m.length≤l.length):PC prog 223 [.lst 1 (lw l),.lst 1 (lw m)] (.lst 1 (lw (limbsOf (lval l-lval m)))):=by
 refine PCi ?_
 conv in trip _ _=>cbv
 simp only [runT,RN,simprocAttr]
 simp (maxSteps:=2000000) (disch:=omega) only [↓RS,RY,simprocAttr,lw_length]
 refine wp_lp (fun (x:Nat×Nat×List Nat) J=>ov [(0,.lst 1 (lw l)),(1,.lst 1 (lw m)),(4,.prim (.slice none 0 0)),(5,.sref 0 0 l.length l.length 1 true),(6,.prim (.int .u32 ((x.2.1:Nat):Int))),(13,.lst 1 (lw l)),(14,.prim (.int .i64 ((l.length:Nat):Int))),(15,.prim (.int .i64 ((x.1:Nat):Int)))] J 0 41)
  (MinusInv l m) (fun x=>l.length-x.1) (0,0,List.replicate l.length 0) rfl
  ⟨Nat.zero_le _,Nat.zero_le _,by simp,limb_replicate _,fun k _=>getD_replicate _ _,by simp [lval,lval_replicate],by simp [lw]⟩ ?_
 rintro ⟨i,c,o⟩ J H ⟨hi,hc,ho,hO,hz,hv,rfl⟩
 try conv in ov _ _ _ _=>simp only [ov,List.lookup,RO,simprocAttr]
 simp only at hi hc ho hO hz hv ⊢
 rcases Nat.lt_or_ge i l.length with hlt|hge
 ·have hx:=hL.getD i
  have t1:=lval_take_succ l hlt
  have g1:=lw_getD (l:=l) (k:=i) hlt
  generalize l.getD i 0=x at*
  have g3:=lw_get (l:=o) (k:=i) (by omega)
  rcases Nat.lt_or_ge i m.length with hlb|hgb
  ·have g2:=lw_getD (l:=m) (k:=i) hlb
   have hy:=hM.getD i
   have t2:=lval_take_succ m hlb
   generalize m.getD i 0=y at*
   simp (maxSteps:=2000000) (disch:=omega) only [↓RS,RY,simprocAttr,lw_length,g1,g2]
   refine call_pc (sub32_pc x y c hx hy hc) (.inl rfl) ?_
   simp (maxSteps:=2000000) (disch:=omega) only [↓RS,RY,simprocAttr,lw_length,g3,lw_set]
   exact lp_next (i+1,subB x y c,o.set i (subD x y c)) rfl (minus_inv hlt hc ho hO hz hv t1 t2 hx hy) (by simp only;omega)
  ·have t2:lval (m.take (i+1))=lval (m.take i)+4294967296^i*0:=by rw [lval_take_ge m (by omega),lval_take_ge m hgb];omega
   simp (maxSteps:=2000000) (disch:=omega) only [↓RS,RY,simprocAttr,lw_length,g1]
   refine call_pc (sub32_pc x 0 c hx (by omega) hc) (.inl rfl) ?_
   simp (maxSteps:=2000000) (disch:=omega) only [↓RS,RY,simprocAttr,lw_length,g3,lw_set]
   exact lp_next (i+1,subB x 0 c,o.set i (subD x 0 c)) rfl (minus_inv hlt hc ho hO hz hv t1 t2 hx (by omega)) (by simp only;omega)
 ·have hia:i=l.length:=by omega
  subst hia
  have hval:lval o=lval l-lval m:=by
   rw [lval_take_ge m hlen,lval_take_ge l (Nat.le_refl _)] at hv
   have h1:=lval_lt hO
   rw [ho] at h1
   have hc0:c=0:=by
    rcases Nat.lt_or_ge c 1 with h|h
    ·omega
    ·have:c=1:=by omega
     subst this;omega
   subst hc0;omega
  simp (maxSteps:=2000000) (disch:=omega) only [↓RS,RY,simprocAttr,lw_length]
  refine call_sc (trim_sc rfl (x:=o) (by rw [lw_length];omega) (by rw [List.drop_zero,←ho,←lw_length];exact List.take_length) (by omega) hO ?_)
  rw [hval]
  simp (maxSteps:=2000000) (disch:=omega) only [↓RS,RY,simprocAttr]
end Go.Av
open Nat (reduceAdd reduceLT reduceLeDiff reducePow reduceDiv reduceMod reduceEqDiff)
namespace Go.Av
open Go.RowKit
open Go.Proofs.Tryz (prog)
structure TimesInv (a b:List Nat) (x:Nat×List Nat) (H:Hp):Prop where
 i:x.1≤a.length
 o:x.2.length=a.length+b.length
 l:Limb x.2
 z:∀ k,x.1+b.length≤k→x.2.getD k 0=0
 v:lval x.2=lval (a.take x.1)*lval b
 H:H=[some (.row 1 true (lw x.2))]
structure TimesIn (a b:List Nat) (i x:Nat) (s:Nat×Nat×List Nat) (H:Hp):Prop where
 k:s.1≤b.length
 c:s.2.1<4294967296
 o:s.2.2.length=a.length+b.length
 l:Limb s.2.2
 z:∀ k,i+b.length≤k→s.2.2.getD k 0=0
 v:lval s.2.2+4294967296^(i+s.1)*s.2.1=lval (a.take i)*lval b+4294967296^i*x*lval (b.take s.1)
 H:H=[some (.row 1 true (lw s.2.2))]
theorem times_step {p q x y c w s O O' A M B:Nat} (hs:c+(x*y+w)=s) (hv:O+p*q*c=A+p*x*M) (ho:O'+p*q*w=O+p*q*(s%B)):O'+p*(q*B)*(s/B)=A+p*x*(M+q*y):=by
 have h1:s=s%B+B*(s/B):=(Nat.mod_add_div s B).symm
 have e1:p*q*s=p*q*(s%B)+p*(q*B)*(s/B):=by
  conv=>lhs;rw [h1]
  rw [Nat.mul_add];congr 1;rw [Nat.mul_assoc,Nat.mul_assoc,Nat.mul_assoc]
 have e2:p*q*s=p*q*c+p*x*(q*y)+p*q*w:=by
  rw [←hs,Nat.mul_add,Nat.mul_add,←Nat.add_assoc];congr 2
  rw [Nat.mul_assoc,Nat.mul_assoc,Nat.mul_left_comm q x y]
 rw [Nat.mul_add]
 omega
theorem times_pc (l m:List Nat) (hl:l.length<2^38) (hm:m.length<2^38) (hL:Limb l) (hM:Limb m):PC prog 190 [.lst 1 (lw l),.lst 1 (lw m)] (.lst 1 (lw (limbsOf (lval l*lval m)))):=by
 refine PCi ?_
 conv in trip _ _=>cbv
 simp only [runT,RN,Nat.reduceAdd,Nat.reduceSub]
 simp (maxSteps:=2000000) (disch:=omega) only [↓RS,RY,reduceCtorEq,reduceAdd,reduceLT,reduceLeDiff,List.reduceReplicate,lw_length]
 refine wp_lp (fun (x:Nat×List Nat) J=>ov [(0,.lst 1 (lw l)),(1,.lst 1 (lw m)),(4,.prim (.slice none 0 0)),(5,.sref 0 0 (l.length+m.length) (l.length+m.length) 1 true),(17,.lst 1 (lw l)),(18,.prim (.int .i64 ((l.length:Nat):Int))),(19,.prim (.int .i64 ((x.1:Nat):Int)))] J 0 67)
  (TimesInv l m) (fun x=>l.length-x.1) (0,List.replicate (l.length+m.length) 0) rfl
  ⟨Nat.zero_le _,by simp,limb_replicate _,fun k _=>getD_replicate _ _,by simp [lval,lval_replicate],by simp [lw]⟩ ?_
 rintro ⟨i,o⟩ J H ⟨hi,ho,hO,hz,hv,rfl⟩
 try conv in ov _ _ _ _=>simp only [ov,List.lookup,Option.getD_some,Option.getD_none,Nat.reduceAdd,Nat.reduceBEq]
 simp only at hi ho hO hz hv ⊢
 rcases Nat.lt_or_ge i l.length with hlt|hge
 ·have hx:=hL.getD i
  have t1:=lval_take_succ l hlt
  have g1:=lw_getD (l:=l) (k:=i) hlt
  generalize l.getD i 0=x at*
  simp (maxSteps:=2000000) (disch:=omega) only [↓RS,RY,reduceCtorEq,reduceAdd,reduceLT,reduceLeDiff,List.reduceReplicate,lw_length,g1]
  refine wp_lp (fun (s:Nat×Nat×List Nat) J=>ov [(0,.lst 1 (lw l)),(1,.lst 1 (lw m)),(4,.prim (.slice none 0 0)),(5,.sref 0 0 (l.length+m.length) (l.length+m.length) 1 true),(6,.prim (.int .i64 ((i:Nat):Int))),(7,.prim (.int .u32 ((x:Nat):Int))),(8,.prim (.int .u64 ((s.2.1:Nat):Int))),(17,.lst 1 (lw l)),(18,.prim (.int .i64 ((l.length:Nat):Int))),(19,.prim (.int .i64 ((i:Nat):Int))),(24,.lst 1 (lw m)),(25,.prim (.int .i64 ((m.length:Nat):Int))),(26,.prim (.int .i64 ((s.1:Nat):Int)))] J 0 67)
   (TimesIn l m i x) (fun s=>m.length-s.1) (0,0,o) rfl
   ⟨Nat.zero_le _,Nat.zero_lt_succ _,ho,hO,hz,by simp [lval,hv],rfl⟩ ?_
  rintro ⟨k,c,o'⟩ J' H ⟨hk,hc,ho',hO',hz',hv',rfl⟩
  try conv in ov _ _ _ _=>simp only [ov,List.lookup,Option.getD_some,Option.getD_none,Nat.reduceAdd,Nat.reduceBEq]
  simp only at hk hc ho' hO' hz' hv' ⊢
  rcases Nat.lt_or_ge k m.length with hkm|hkm
  ·have hy:=hM.getD k
   have t2:=lval_take_succ m hkm
   have g2:=lw_getD (l:=m) (k:=k) hkm
   generalize m.getD k 0=y at*
   have g3:=lw_get (l:=o') (k:=i+k) (by omega)
   have hs:=lval_set o' (i+k)
   have hw:=hO'.getD (i+k)
   generalize hwe:o'.getD (i+k) 0=w at*
   have hxy:x*y≤4294967295*4294967295:=Nat.mul_le_mul (by omega) (by omega)
   simp (maxSteps:=2000000) (disch:=omega) only [↓RS,RY,reduceCtorEq,reduceAdd,reduceLT,reduceLeDiff,List.reduceReplicate,lw_length,g1,g2,g3,lw_set,shr32_u64]
   refine lp_next (k+1,(c+(x*y+w))/4294967296,o'.set (i+k) ((c+(x*y+w))%4294967296)) rfl ⟨hkm,by simp only;omega,by simp [ho'],hO'.set _ (by omega),fun j hj=> ?_,?_,rfl⟩ (by simp only;omega)
   ·try simp only
    rw [getD_set_ne (by omega)];exact hz' j hj
   ·have h1:=hs ((c+(x*y+w))%4294967296) (by omega)
    try simp only
    rw [t2,Nat.pow_add 4294967296 i (k+1),Nat.pow_succ]
    rw [Nat.pow_add] at h1 hv'
    exact times_step rfl hv' h1
  ·have hkm':k=m.length:=by omega
   subst hkm'
   have g3:=lw_get (l:=o') (k:=i+m.length) (by omega)
   simp (maxSteps:=2000000) (disch:=omega) only [↓RS,RY,reduceCtorEq,reduceAdd,reduceLT,reduceLeDiff,List.reduceReplicate,lw_length,g3,lw_set]
   have hs:=lval_set o' (i+m.length) c (by omega)
   rw [hz' _ (Nat.le_refl _),Nat.mul_zero,Nat.add_zero] at hs
   refine lp_next (i+1,o'.set (i+m.length) c) rfl ⟨hlt,by simp [ho'],hO'.set _ hc,fun j hj=> ?_,?_,rfl⟩ (by simp only;omega)
   ·simp only at hj ⊢
    rw [getD_set_ne (by omega)];exact hz' j (by omega)
   ·try simp only
    rw [hs,hv',t1,lval_take_ge m (Nat.le_refl _),Nat.add_mul]
 ·have hia:i=l.length:=by omega
  subst hia
  rw [lval_take_ge l (Nat.le_refl _)] at hv
  simp (maxSteps:=2000000) (disch:=omega) only [↓RS,RY,reduceCtorEq,reduceAdd,reduceLT,reduceLeDiff,List.reduceReplicate,lw_length]
  refine call_sc (trim_sc rfl (x:=o) (by rw [lw_length];omega) (by rw [List.drop_zero,←ho,←lw_length];exact List.take_length) (by omega) hO ?_)
  rw [hv]
  simp (maxSteps:=2000000) (disch:=omega) only [↓RS,RY,reduceCtorEq,reduceAdd,reduceLT,reduceLeDiff,List.reduceReplicate]
end Go.Av
