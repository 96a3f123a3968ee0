/- Helping texts: Cm, Cn, Co, Cx. -/
import Derived.Test.YtkmlhdfpcjkekaaGreatKCk
import Derived.Test.YtkmlhdfpcjkekaaGreatKCt
set_option linter.unusedSimpArgs false
set_option linter.unusedVariables false
set_option maxRecDepth 100000
set_option maxHeartbeats 16000000
open Nat (reduceAdd reduceLT reduceLeDiff reducePow reduceDiv reduceMod reduceEqDiff)
namespace Go.Av
open Go.RowKit
open Go.Proofs.Tryz (prog)
theorem Km (s:Bool) (l m:List UInt8) (hl:l.length<2^36) (hm:m.length<2^36) (h0:0<bn m) (hd:bn l%bn m=0):PC prog 219 [iN s l,iN false m] (.tup [cI (sg s (bn l/bn m)),cI 0,.prim (.int .i64 (0))]):=by
 refine PCi ?_
 conv in bL _ _=>cbv
 simp only [bM,RN,Nat.reduceAdd,Nat.reduceSub]
 have h1:=lI l
 have h2:=lI m
 have h3:= @pK (bn m) h0
 have hdv:=DW (bn l) (bn m) (by omega) (by omega) h0
 rw [hd] at hdv
 have h4:= @sk (bn l/bn m) (bn l) (Nat.div_le_self _ _)
 have k1:=pI (s !=false) (bf (bn l/bn m)) (by omega) (cY _)
 have k2:=pI s (bf 0) (by rw [jj];simp) (cY _)
 rw [cS] at k1 k2
 have e0:sg s 0=0:=by cases s<;>rfl
 have e1:(s !=false)=s:=by cases s<;>rfl
 rw [e0] at k2
 rw [e1] at k1
 simp (disch:=omega) only [↓RS,RZ,reduceCtorEq,reduceAdd,reduceLT,reduceLeDiff,List.reduceReplicate,reducePow,reduceDiv,reduceMod,reduceEqDiff,Nat.reduceBEq,iN]
 refine gB (n7 m (by omega)) (.inl rfl) ?_
 simp (disch:=omega) only [↓RS,RZ,reduceCtorEq,reduceAdd,reduceLT,reduceLeDiff,List.reduceReplicate,reducePow,reduceDiv,reduceMod,reduceEqDiff,Nat.reduceBEq,aP]
 refine gB (n7 l (by omega)) (.inl rfl) ?_
 simp (disch:=omega) only [↓RS,RZ,reduceCtorEq,reduceAdd,reduceLT,reduceLeDiff,List.reduceReplicate,reducePow,reduceDiv,reduceMod,reduceEqDiff,Nat.reduceBEq,aP]
 refine gB hdv (.inl rfl) ?_
 simp (disch:=omega) only [↓RS,RZ,reduceCtorEq,reduceAdd,reduceLT,reduceLeDiff,List.reduceReplicate,reducePow,reduceDiv,reduceMod,reduceEqDiff,Nat.reduceBEq,nH,JW,e1]
 refine cX k1 ?_
 simp (disch:=omega) only [↓RS,RZ,reduceCtorEq,reduceAdd,reduceLT,reduceLeDiff,List.reduceReplicate,reducePow,reduceDiv,reduceMod,reduceEqDiff,Nat.reduceBEq]
 refine cX k2 ?_
 have d0:(bZ (Int.natAbs 0)==[])=true:=by rw [show Int.natAbs 0=0 from rfl,Bs];rfl
 simp (disch:=omega) only [↓RS,RZ,reduceCtorEq,reduceAdd,reduceLT,reduceLeDiff,List.reduceReplicate,reducePow,reduceDiv,reduceMod,reduceEqDiff,Nat.reduceBEq,cI,iN,d0]
 try rfl
structure S3 (g:Nat) (x:Nat×Nat) (k:Nat):Prop where
 g:Nat.gcd x.1 x.2=g
 a:(bf x.1).length≤k
 b:(bf x.2).length≤k
theorem SG (s t:Bool) (l m:List UInt8) (hl:l.length<2^36) (hm:m.length<2^36):PC prog 218 [iN s l,iN t m] (cI (Nat.gcd (bn l) (bn m))):=by
 refine PCi ?_
 conv in bL _ _=>cbv
 simp only [bM,RN,Nat.reduceAdd,Nat.reduceSub]
 have h1:=lI l
 have h2:=lI m
 simp (disch:=omega) only [↓RS,RZ,reduceCtorEq,reduceAdd,reduceLT,reduceLeDiff,List.reduceReplicate,reducePow,reduceDiv,reduceMod,reduceEqDiff,Nat.reduceBEq,iN]
 refine cX (n7 l (by omega)) ?_
 simp (disch:=omega) only [↓RS,RZ,reduceCtorEq,reduceAdd,reduceLT,reduceLeDiff,List.reduceReplicate,reducePow,reduceDiv,reduceMod,reduceEqDiff,Nat.reduceBEq,aP]
 refine cX (n7 m (by omega)) ?_
 simp (disch:=omega) only [↓RS,RZ,reduceCtorEq,reduceAdd,reduceLT,reduceLeDiff,List.reduceReplicate,reducePow,reduceDiv,reduceMod,reduceEqDiff,Nat.reduceBEq,aP]
 refine eG (fun (x:Nat×Nat) J=>ov [(4,.ptr 2 0 0),(5,.lst 1 (lw (bf x.1))),(6,.lst 1 (lw (bf x.2)))] J 0 28)
  (fun x H=>S3 (Nat.gcd (bn l) (bn m)) x (2^36)∧H=[some (.row 2 true [[.prim (.bool s),.prim (.string (bs l))]]),some (.row 2 true [[.prim (.bool t),.prim (.string (bs m))]]),some (.row 2 true [[.prim (.bool false),.prim (.string (bs ([])))]])]) (fun x=>x.2) (bn l,bn m) rfl ⟨⟨rfl,by simp only;omega,by simp only;omega⟩,rfl⟩ ?_
 rintro ⟨a,b⟩ J H ⟨⟨hg,ha,hb⟩,rfl⟩
 try conv in ov _ _ _ _=>simp only [ov,List.lookup,bG,Option.getD_none,Nat.reduceAdd,Nat.reduceBEq]
 simp only at hg ha hb ⊢
 rcases Nat.eq_zero_or_pos b with hb0|hb0
 ·subst hb0
  have h3:= @vk 0 rfl
  rw [Nat.gcd_zero_right] at hg
  have k1:=pI false (bf a) (by omega) (cY _)
  rw [cS] at k1
  simp (disch:=omega) only [↓RS,RZ,reduceCtorEq,reduceAdd,reduceLT,reduceLeDiff,List.reduceReplicate,reducePow,reduceDiv,reduceMod,reduceEqDiff,Nat.reduceBEq,aP]
  refine gB k1 (.inl rfl) ?_
  have e:sg false a=((Nat.gcd (bn l) (bn m):Nat):Int):=by rw [←hg];rfl
  rw [e]
  simp (disch:=omega) only [↓RS,RZ,reduceCtorEq,reduceAdd,reduceLT,reduceLeDiff,List.reduceReplicate,reducePow,reduceDiv,reduceMod,reduceEqDiff,Nat.reduceBEq,cI,iN]
 ·have h3:= @pK b hb0
  have hdv:=DW a b (by omega) (by omega) hb0
  simp (disch:=omega) only [↓RS,RZ,reduceCtorEq,reduceAdd,reduceLT,reduceLeDiff,List.reduceReplicate,reducePow,reduceDiv,reduceMod,reduceEqDiff,Nat.reduceBEq,aP]
  refine gB hdv (.inl rfl) ?_
  simp (disch:=omega) only [↓RS,RZ,reduceCtorEq,reduceAdd,reduceLT,reduceLeDiff,List.reduceReplicate,reducePow,reduceDiv,reduceMod,reduceEqDiff,Nat.reduceBEq,aP]
  refine bl (b,a%b) rfl ⟨⟨by simp only;rw [←hg,Nat.gcd_comm b,←Nat.gcd_rec,Nat.gcd_comm],hb,bi (sk (Nat.le_of_lt (Nat.mod_lt a hb0))) hb⟩,rfl⟩ (Nat.mod_lt _ hb0)
end Go.Av
open Nat (reduceAdd reduceLT reduceLeDiff reducePow reduceDiv reduceMod reduceEqDiff)
namespace Go.Av
open Go.RowKit
open Go.Proofs.Tryz (prog)
structure Rt where
 neg:Bool
 num:List UInt8
 den:List UInt8
instance:DecidableEq Rt:=fun a b=>decidable_of_iff (a.neg=b.neg∧a.num=b.num∧a.den=b.den) (by cases a;cases b;simp)
def rV (r:Rt):V:= .agg [.prim (.bool r.neg),.prim (.string (bs (r.num))),.prim (.string (bs (r.den)))]
def Rt.n (r:Rt):Int:=du r.neg r.num
def Rt.d (r:Rt):Nat:=if bn r.den=0 then 1 else bn r.den
theorem Rt.d_pos (r:Rt):0<r.d:=by unfold Rt.d;split<;>omega
def Rt.val (r:Rt):Rat:=mkRat r.n r.d
def can (q:Rat):Rt:=⟨decide (q.num<0),bZ q.num.natAbs,if q.den=1 then [] else bZ q.den⟩
theorem ln (q:Rat):(can q).val=q:=by
 unfold Rt.val Rt.n Rt.d can
 simp only [mE]
 by_cases h:q.den=1
 ·simp only [h,if_true,Hq]
  conv=>rhs;rw [←Rat.mkRat_self q,h]
 ·simp only [h,if_false,eU]
  rw [if_neg q.den_nz,Rat.mkRat_self]
theorem Kt {p q:Rat} (h:can p=can q):p=q:=by rw [←ln p,←ln q,h]
theorem Im (n:Int) (d:Nat) (hd:0<d):(mkRat n d).num=sg (decide (n<0)) (n.natAbs/Nat.gcd n.natAbs d)∧(mkRat n d).den=d/Nat.gcd n.natAbs d:=by
 have hne:d≠0:=by omega
 have h0:mkRat n d=Rat.normalize n d hne:=by rw [mkRat,dif_neg hne]
 rw [h0,Rat.normalize_eq]
 refine ⟨?_,rfl⟩
 try simp only
 have hg:0<Nat.gcd n.natAbs d:=Nat.gcd_pos_of_pos_right _ hd
 have hdv:Nat.gcd n.natAbs d ∣ n.natAbs:=Nat.gcd_dvd_left _ _
 generalize Nat.gcd n.natAbs d=g at*
 by_cases h:n<0
 ·obtain ⟨k,hk⟩:∃ k:Nat,n= -(k:Int):=⟨n.natAbs,by omega⟩
  subst hk
  rw [Int.natAbs_neg,Int.natAbs_natCast] at hdv ⊢
  rw [an h,sg,if_pos rfl,Int.neg_ediv_of_dvd (Int.natCast_dvd_natCast.2 hdv)]
  rfl
 ·obtain ⟨k,hk⟩:∃ k:Nat,n=(k:Int):=⟨n.natAbs,by omega⟩
  subst hk
  rw [Int.natAbs_natCast,ak h]
  rfl
theorem AH (s:Bool) (l:List UInt8):PC prog 216 [.prim (.bool s),.prim (.string (bs l))] (iN s l):=by
 refine PCi ?_
 conv in bL _ _=>cbv
 simp only [bM,RN,Nat.reduceAdd,Nat.reduceSub]
 simp (disch:=omega) only [↓RS,RZ,reduceCtorEq,reduceAdd,reduceLT,reduceLeDiff,List.reduceReplicate,reducePow,reduceDiv,reduceMod,reduceEqDiff,Nat.reduceBEq,iN]
theorem OL (s:Bool) (l:List UInt8) (n:Int) (hl:l.length<2^36) (h1: -256<n) (h2:n<256):PC prog 217 [iN s l,.prim (.int .i64 (n))] (.prim (.bool (decide (du s l=n)))):=by
 refine PCi ?_
 conv in bL _ _=>cbv
 simp only [bM,RN,Nat.reduceAdd,Nat.reduceSub]
 have hd:= @u6 n.natAbs 1 (by omega)
 have hd2:(bZ n.natAbs).length<2^36:=by unfold dl at hd;omega
 simp (disch:=omega) only [↓RS,RZ,reduceCtorEq,reduceAdd,reduceLT,reduceLeDiff,List.reduceReplicate,reducePow,reduceDiv,reduceMod,reduceEqDiff,Nat.reduceBEq,iN]
 refine cX (wl n (by omega) (by omega)) ?_
 have h:=qJ s (decide (n<0)) l (bZ n.natAbs) hl hd2
 rw [mE] at h
 simp (disch:=omega) only [↓RS,RZ,reduceCtorEq,reduceAdd,reduceLT,reduceLeDiff,List.reduceReplicate,reducePow,reduceDiv,reduceMod,reduceEqDiff,Nat.reduceBEq,iN,cI]
 refine cX h ?_
 have e:(sQ (du s l) n==0)=decide (du s l=n):=by
  unfold sQ
  by_cases h1:du s l<n
  ·rw [if_pos h1];have:¬du s l=n:=by omega
   simp [this]
  ·by_cases h2:n<du s l
   ·rw [if_neg h1,if_pos h2];have:¬du s l=n:=by omega
    simp [this]
   ·rw [if_neg h1,if_neg h2];have:du s l=n:=by omega
    simp [this]
 simp (disch:=omega) only [↓RS,RZ,reduceCtorEq,reduceAdd,reduceLT,reduceLeDiff,List.reduceReplicate,reducePow,reduceDiv,reduceMod,reduceEqDiff,Nat.reduceBEq,e]
def fV (s:Bool) (l m:List UInt8):V:= .agg [.prim (.bool s),.prim (.string (bs l)),.prim (.bool false),.prim (.string (bs m))]
def Rt.dd (r:Rt):List UInt8:=if bn r.den=0 then bZ 1 else r.den
theorem mz (r:Rt):bn r.dd=r.d:=by
 unfold Rt.dd Rt.d;split
 ·exact eU 1
 ·rfl
theorem tu (r:Rt) (h1:r.num.length<2^36) (h2:r.den.length<2^36):PC prog 147 [rV r] (fV r.neg r.num r.dd):=by
 refine PCi ?_
 conv in bL _ _=>cbv
 simp only [bM,RN,Nat.reduceAdd,Nat.reduceSub]
 have hi:=OL false r.den 0 h2 (by omega) (by omega)
 have e:du false r.den=(bn r.den:Nat):=rfl
 rw [e] at hi
 simp (disch:=omega) only [↓RS,RZ,reduceCtorEq,reduceAdd,reduceLT,reduceLeDiff,List.reduceReplicate,reducePow,reduceDiv,reduceMod,reduceEqDiff,Nat.reduceBEq,rV]
 refine cX (AH r.neg r.num) ?_
 simp (disch:=omega) only [↓RS,RZ,reduceCtorEq,reduceAdd,reduceLT,reduceLeDiff,List.reduceReplicate,reducePow,reduceDiv,reduceMod,reduceEqDiff,Nat.reduceBEq,iN]
 refine cX (AH false r.den) ?_
 simp (disch:=omega) only [↓RS,RZ,reduceCtorEq,reduceAdd,reduceLT,reduceLeDiff,List.reduceReplicate,reducePow,reduceDiv,reduceMod,reduceEqDiff,Nat.reduceBEq,iN]
 have h1:PC prog 217 [.agg [.prim (.bool false),.prim (.string (bs (r.den)))],.prim (.int .i64 (0))] (.prim (.bool (decide ((bn r.den:Nat)=(0:Int))))):=hi
 refine cX h1 ?_
 by_cases hz:bn r.den=0
 ·have hz':((bn r.den:Nat):Int)=0:=by omega
  have hdd:r.dd=bZ 1:=by rw [Rt.dd,if_pos hz]
  simp (disch:=omega) only [↓RS,RZ,reduceCtorEq,reduceAdd,reduceLT,reduceLeDiff,List.reduceReplicate,reducePow,reduceDiv,reduceMod,reduceEqDiff,Nat.reduceBEq,hz']
  refine cX (wl 1 (by omega) (by omega)) ?_
  simp (disch:=omega) only [↓RS,RZ,reduceCtorEq,reduceAdd,reduceLT,reduceLeDiff,List.reduceReplicate,reducePow,reduceDiv,reduceMod,reduceEqDiff,Nat.reduceBEq,cI,iN,fV,hdd]
  rfl
 ·have hz':((bn r.den:Nat):Int)≠0:=by omega
  have hdd:r.dd=r.den:=by rw [Rt.dd,if_neg hz]
  simp (disch:=omega) only [↓RS,RZ,reduceCtorEq,reduceAdd,reduceLT,reduceLeDiff,List.reduceReplicate,reducePow,reduceDiv,reduceMod,reduceEqDiff,Nat.reduceBEq,hz']
  simp (disch:=omega) only [↓RS,RZ,reduceCtorEq,reduceAdd,reduceLT,reduceLeDiff,List.reduceReplicate,reducePow,reduceDiv,reduceMod,reduceEqDiff,Nat.reduceBEq,fV,hdd]
end Go.Av
namespace Go.Av
open Go.RowKit
open Go.Proofs.Tryz (prog)
theorem I5 (k:Nat):cI (k:Int)=iN false (bZ k):=by rw [cI,ak (by omega),Int.natAbs_natCast]
theorem lP (s:Bool) (l:List UInt8):(du s l).natAbs=bn l:=by cases s<;>simp [du,sg]
theorem xE {s:Bool} {l:List UInt8}:du s l=0↔bn l=0:=by cases s<;>simp [du,sg]
theorem GN {s:Bool} {l:List UInt8} (h:bn l≠0):decide (du s l<0)=s:=by cases s<;>simp [du,sg];omega
theorem rP:can 0=⟨false,[],[]⟩:=by simp [can,il]
theorem tF (n:Nat):(bZ n).length=dl n:=rfl
theorem SM {s:Bool} {l:List UInt8} {d:Nat} (hd:0<d) (h:bn l≠0):can (mkRat (du s l) d)=⟨decide (sg s (bn l/Nat.gcd (bn l) d)<0),bZ (sg s (bn l/Nat.gcd (bn l) d)).natAbs,if d/Nat.gcd (bn l) d=1 then [] else bZ (d/Nat.gcd (bn l) d)⟩:=by
 obtain ⟨h1,h2⟩:=Im (du s l) d hd
 rw [lP,GN h] at h1
 rw [lP] at h2
 unfold can
 rw [h1,h2]
theorem rC (s:Bool) (l m:List UInt8) (hl:l.length<2^36) (hm:m.length<2^36) (h0:0<bn m):PC prog 148 [fV s l m] (rV (can (mkRat (du s l) (bn m)))):=by
 refine PCi ?_
 conv in bL _ _=>cbv
 simp only [bM,RN,simprocAttr]
 have i1:=OL s l 0 hl (by omega) (by omega)
 by_cases hz:bn l=0
 ·have hz':du s l=0:=xE.2 hz
  have e:rV (can (mkRat (du s l) (bn m)))= .agg [.prim (.bool false),.prim (.string (bs ([]))),.prim (.string (bs ([])))]:=by rw [hz',Rat.zero_mkRat,rP];rfl
  rw [e]
  rw [an hz'] at i1
  simp (disch:=omega) only [↓RS,RZ,simprocAttr,fV,iN]
  refine cX i1 ?_
  simp (disch:=omega) only [↓RS,RZ,simprocAttr]
 ·have hz':du s l≠0:=fun h=>hz (xE.1 h)
  rw [ak hz'] at i1
  have hg:=SG s false l m hl hm
  rw [I5] at hg
  have hg0:0<Nat.gcd (bn l) (bn m):=Nat.gcd_pos_of_pos_right _ h0
  have hgl:=Nat.gcd_dvd_left (bn l) (bn m)
  have hgm:=Nat.gcd_dvd_right (bn l) (bn m)
  have hgle:Nat.gcd (bn l) (bn m)≤bn m:=Nat.le_of_dvd h0 hgm
  rw [SM h0 hz]
  generalize Nat.gcd (bn l) (bn m)=g at*
  have hgd:=sC hgle
  have hmd:=ll m
  rw [←tF] at hgd
  have d1:=Km s l (bZ g) hl (by omega) (by rw [eU];exact hg0) (by rw [eU];exact Nat.mod_eq_zero_of_dvd hgl)
  have d2:=Km false m (bZ g) hm (by omega) (by rw [eU];exact hg0) (by rw [eU];exact Nat.mod_eq_zero_of_dvd hgm)
  rw [eU] at d1 d2
  have e2:sg false (bn m/g)=((bn m/g:Nat):Int):=rfl
  rw [e2,I5] at d2
  have h3:= @sC (bn m/g) (bn m) (Nat.div_le_self _ _)
  rw [←tF] at h3
  have i2:=OL false (bZ (bn m/g)) 1 (by omega) (by omega) (by omega)
  have e3:du false (bZ (bn m/g))=((bn m/g:Nat):Int):=by rw [du,eU];rfl
  rw [e3] at i2
  simp (disch:=omega) only [↓RS,RZ,simprocAttr,fV,iN]
  refine cX i1 ?_
  simp (disch:=omega) only [↓RS,RZ,simprocAttr]
  refine cX hg ?_
  simp (disch:=omega) only [↓RS,RZ,simprocAttr,iN]
  refine cX d1 ?_
  simp (disch:=omega) only [↓RS,RZ,simprocAttr,cI,iN]
  refine cX d2 ?_
  simp (disch:=omega) only [↓RS,RZ,simprocAttr,cI,iN]
  refine cX i2 ?_
  by_cases h1:bn m/g=1
  ·have h1':((bn m/g:Nat):Int)=1:=by omega
   simp (disch:=omega) only [↓RS,RZ,simprocAttr,h1',rV,h1]
   try rfl
  ·have h1':((bn m/g:Nat):Int)≠1:=by omega
   simp (disch:=omega) only [↓RS,RZ,simprocAttr,h1',rV,h1]
   try rfl
theorem uE {n:Nat} {s t:Bool} {a b c d:List UInt8}:eqA (aD prog) (n+2) 35 (.agg [.prim (.bool s),.prim (.string (bs a)),.prim (.string (bs b))]) (.agg [.prim (.bool t),.prim (.string (bs c)),.prim (.string (bs d))])=some (decide (Rt.mk s a b=Rt.mk t c d)):=by
 have e:decide (Rt.mk s a b=Rt.mk t c d)=((s==t)&&(a==c)&&(b==d)):=by
  rw [Bool.eq_iff_iff];simp [and_assoc]
 rw [e]
 simp only [eqA,RT,eqA.eqFs,Bool.false_eq_true,if_false,String.reduceEq,eS,TK.isAgg,aN,aV,eE]
 cases h1:(s==t)<;>cases h2:(a==c)<;>cases h3:(b==d)<;>rfl
theorem Ss (n:Int) (h1: -9223372036854775808≤n) (h2:n<9223372036854775808):PC prog 112 [.prim (.int .i64 (n))] (rV (can (n:Rat))):=by
 refine PCi ?_
 conv in bL _ _=>cbv
 simp only [bM,RN,simprocAttr]
 have hd:= @u6 n.natAbs 8 (by simp only [Nat.reducePow];omega)
 rw [←tF] at hd
 have h:=rC (decide (n<0)) (bZ n.natAbs) (bZ 1) (by omega) (by have:= @u6 1 1 (by omega);rw [←tF] at this;omega) (by rw [eU];omega)
 rw [mE,eU,Rat.mkRat_one] at h
 simp (disch:=omega) only [↓RS,RZ,simprocAttr]
 refine cX (wl n h1 h2) ?_
 simp (disch:=omega) only [↓RS,RZ,simprocAttr,cI,iN]
 refine cX (wl 1 (by omega) (by omega)) ?_
 simp (disch:=omega) only [↓RS,RZ,simprocAttr,cI,iN]
 refine cX h ?_
 simp (disch:=omega) only [↓RS,RZ,simprocAttr,rV]
 try rfl
theorem Rx:du false []=0:=rfl
theorem dl1:(bZ 1).length≤1:= @u6 1 1 (by omega)
def qI (n d:Int):Rat:=Rat.divInt n d
theorem EI {n d:Int} (h:0<d):mkRat n d.natAbs=qI n d:=by
 obtain ⟨k,rfl⟩:∃ k:Nat,d=(k:Int):=⟨d.natAbs,by omega⟩
 rfl
theorem NM {n d:Int}:qI (-n) (-d)=qI n d:=Rat.neg_divInt_neg ..
theorem Pw {t:Bool} {m:List UInt8} (h:du t m≠0):0<bn m:=by
 rcases Nat.eq_zero_or_pos (bn m) with h0|h0
 ·exact absurd (xE.2 h0) h
 ·exact h0
theorem DE {l:List UInt8} (h:l.length<2^36):(bZ (bn l)).length<2^36:=by
 have:=ll l
 rw [←tF] at this;omega
theorem Su (s t:Bool) (l m:List UInt8) (hl:l.length<2^36) (hm:m.length<2^36):PC prog 92 [iN s l,iN t m] (if du t m=0 then .tup [rV ⟨false,[],[]⟩,.prim (.int .i64 (10))] else .tup [rV (can (qI (du s l) (du t m))),.prim (.int .i64 (0))]):=by
 refine PCi ?_
 conv in bL _ _=>cbv
 simp only [bM,RN,simprocAttr]
 have hc:=qJ t false m [] hm (by simp)
 rw [Rx] at hc
 simp (disch:=omega) only [↓RS,RZ,simprocAttr,iN]
 refine cX hc ?_
 by_cases hz:du t m=0
 ·have e:sQ (du t m) 0=0:=by rw [hz];rfl
  rw [if_pos hz]
  simp (disch:=omega) only [↓RS,RZ,simprocAttr,e,rV]
 ·rw [if_neg hz]
  have hp:=Pw hz
  have hb1:=DE hl
  have hb2:=DE hm
  by_cases hn:du t m<0
  ·have e:sQ (du t m) 0= -1:=by rw [sQ,if_pos hn]
   have k1:=N0 s l hl
   have k2:=N0 t m hm
   rw [cI,Int.natAbs_neg,lP] at k1 k2
   have e2:decide (-du t m<0)=false:=ak (by omega)
   rw [e2] at k2
   have hnum:=rC (decide (-du s l<0)) (bZ (bn l)) (bZ (bn m)) hb1 hb2 (by rw [eU];exact hp)
   have e3:du (decide (-du s l<0)) (bZ (bn l))= -du s l:=by
    have:=mE (-du s l)
    rwa [Int.natAbs_neg,lP] at this
   rw [e3,eU] at hnum
   have e4:mkRat (-du s l) (bn m)=qI (du s l) (du t m):=by
    rw [←NM,←EI (by omega),Int.natAbs_neg,lP]
   rw [e4] at hnum
   simp (disch:=omega) only [↓RS,RZ,simprocAttr,e]
   refine cX k1 ?_
   simp (disch:=omega) only [↓RS,RZ,simprocAttr,iN]
   refine cX k2 ?_
   simp (disch:=omega) only [↓RS,RZ,simprocAttr,iN]
   refine cX hnum ?_
   simp (disch:=omega) only [↓RS,RZ,simprocAttr,rV]
   try rfl
  ·have e:sQ (du t m) 0=1:=by rw [sQ,if_neg hn,if_pos (by omega)]
   have ht:t=false:=by
    have:=GN (s:=t) (Nat.ne_of_gt hp)
    rw [←this];exact ak hn
   subst ht
   have hnum:=rC s l m hl hm hp
   have e4:mkRat (du s l) (bn m)=qI (du s l) (du false m):=by
    rw [←EI (by omega),lP]
   rw [e4] at hnum
   simp (disch:=omega) only [↓RS,RZ,simprocAttr,e]
   refine cX hnum ?_
   simp (disch:=omega) only [↓RS,RZ,simprocAttr,rV]
   try rfl
theorem PY (r:Rt):(Rt.mk (!r.neg) r.num r.den).val= -r.val:=by
 unfold Rt.val Rt.n Rt.d
 rw [OK,Rat.neg_mkRat]
theorem Mj (r:Rt) (h1:r.num.length<2^36) (h2:r.den.length<2^36):PC prog 86 [rV r] (.prim (.int .i64 (if r=can r.val then 0 else 1))):=by
 refine PCi ?_
 conv in bL _ _=>cbv
 simp only [bM,RN,simprocAttr]
 have hr:=tu r h1 h2
 have hdd:r.dd.length<2^36:=by unfold Rt.dd;have:=dl1;split<;>omega
 have hn:=rC r.neg r.num r.dd h1 hdd (by rw [mz];exact r.d_pos)
 rw [mz] at hn
 simp (disch:=omega) only [↓RS,RZ,simprocAttr,rV]
 refine cX hr ?_
 simp (disch:=omega) only [↓RS,RZ,simprocAttr,fV]
 refine cX hn ?_
 have e1:Rt.mk r.neg r.num r.den=r:=rfl
 have e2:Rt.mk (can (mkRat (du r.neg r.num) r.d)).neg (can (mkRat (du r.neg r.num) r.d)).num (can (mkRat (du r.neg r.num) r.d)).den=can r.val:=rfl
 by_cases h:r=can r.val
 ·have hd:decide (Rt.mk r.neg r.num r.den=Rt.mk (can (mkRat (du r.neg r.num) r.d)).neg (can (mkRat (du r.neg r.num) r.d)).num (can (mkRat (du r.neg r.num) r.d)).den)=true:=an h
  rw [if_pos h]
  simp (disch:=omega) only [↓RS,RZ,simprocAttr,rV,uE,hd]
 ·have hd:decide (Rt.mk r.neg r.num r.den=Rt.mk (can (mkRat (du r.neg r.num) r.d)).neg (can (mkRat (du r.neg r.num) r.d)).num (can (mkRat (du r.neg r.num) r.d)).den)=false:=ak h
  rw [if_neg h]
  simp (disch:=omega) only [↓RS,RZ,simprocAttr,rV,uE,hd]
end Go.Av
open Nat (reduceAdd reduceLT reduceLeDiff reducePow reduceDiv reduceMod reduceEqDiff)
namespace Go.Av
open Go.RowKit
open Go.Proofs.Tryz (prog)
def pg (k:Nat) (t:List UInt8):List V:=List.replicate k (.prim (.int .u8 ((0:Nat):Int)))++t.map fun b=> .prim (.int .u8 ((b.toNat:Nat):Int))
theorem uW {k:Nat} {t:List UInt8}:(pg k t).length=k+t.length:=by simp [pg]
theorem Ev {k:Nat} {t:List UInt8} {b:UInt8} {x:V} (h:x= .prim (.int .u8 ((b.toNat:Nat):Int))):jf (pg (k+1) t) k [x]=pg k (b::t):=by
 subst h
 have e:pg (k+1) t=List.replicate k (.prim (.int .u8 ((0:Nat):Int)))++(.prim (.int .u8 ((0:Nat):Int)))::t.map fun b=> .prim (.int .u8 ((b.toNat:Nat):Int)):=by
  unfold pg;rw [List.replicate_succ',bE];rfl
 rw [e]
 unfold jf pg
 rw [List.take_left' (by simp),←List.drop_drop,List.drop_left' (by simp)]
 simp
theorem HT {k:Nat} {t:List UInt8}:((pg k t).all fun| .prim x=>uQ x|_=>false)=true:=by
 simp [pg,List.all_append,uQ]
theorem Ew {k:Nat} {t:List UInt8}:(((pg k t).map ([·])).drop k).take (k+t.length-k)=bw t:=by
 unfold pg bw
 rw [bz,List.drop_left' (by simp),List.take_of_length_le (by simp),List.map_map]
 rfl
theorem Jn:aD prog 240 =some ⟨8,8,List.replicate 8 (.int .u8 0),.array 8 5,false⟩:=by kernel_rfl
theorem Jr (n:Nat) (h:n<9223372036854775808):PC prog 220 [.prim (.int .i64 ((n:Nat):Int))] (.prim (.string (bs (bZ n)))):=by
 refine PCi ?_
 conv in bL _ _=>cbv
 simp only [bM,RN,Nat.reduceAdd,Nat.reduceSub]
 simp (disch:=omega) only [↓RS,RZ,reduceCtorEq,reduceAdd,reduceLT,reduceLeDiff,List.reduceReplicate,reducePow,reduceDiv,reduceMod,reduceEqDiff,Nat.reduceBEq]
 refine eG (fun (s:Nat×Nat×List UInt8) J=>ov [(0,.prim (.int .i64 ((s.1:Nat):Int))),(3,.ptr 0 0 0),(4,.prim (.int .i64 ((s.2.1:Nat):Int)))] J 0 18) (fun s H=>bZ n=bZ s.1++s.2.2∧s.2.1+s.2.2.length=8∧s.1<256^s.2.1∧s.1≤n∧H=[some (.row 8 true [pg s.2.1 s.2.2])]) (fun s=>s.1) (n,8,[]) rfl ⟨by simp,rfl,by simp only [Nat.reducePow];omega,ax _,rfl⟩ ?_
 rintro ⟨m,k,t⟩ J _ ⟨hd,hk,hm,hmn,rfl⟩
 try conv in ov _ _ _ _=>simp only [ov,List.lookup,bG,Option.getD_none,Nat.reduceAdd,Nat.reduceBEq]
 simp only at hd hk hm hmn ⊢
 rcases Nat.eq_zero_or_pos m with rfl|hp
 ·rw [il,List.nil_append] at hd
  rw [hd]
  simp (disch:=omega) only [↓RS,RZ,reduceCtorEq,reduceAdd,reduceLT,reduceLeDiff,List.reduceReplicate,reducePow,reduceDiv,reduceMod,reduceEqDiff,Nat.reduceBEq]
  rw [M6]
  unfold vN
  simp only [Jn,vQ,jy,aB,aM,fO,iz,bj,Option.map_none,gZ]
  refine ⟨⟨by omega,by omega,by omega⟩,trivial,by rw [uW];exact hk,HT,?_⟩
  have e:(8:Nat)=k+t.length:=hk.symm
  rw [Int.toNat_natCast,Int.toNat_natCast,e,Ew]
  have hb:=BG t
  simp (disch:=omega) only [↓RS,RZ,reduceCtorEq,reduceAdd,reduceLT,reduceLeDiff,List.reduceReplicate,reducePow,reduceDiv,reduceMod,reduceEqDiff,Nat.reduceBEq,hb]
 ·obtain ⟨k,rfl⟩:∃ j,k=j+1:=by
   rcases k with _|k
   ·simp at hm;omega
   ·exact ⟨k,rfl⟩
  have hw:=Ev (k:=k) (t:=t) (b:=UInt8.ofNat (m%256)) (x:= .prim (.int .u8 ((m%256:Nat):Int))) (by simp)
  have hlen:=uW (k:=k+1) (t:=t)
  have hk8:k<8:=by omega
  simp (disch:=omega) only [↓RS,RZ,reduceCtorEq,reduceAdd,reduceLT,reduceLeDiff,List.reduceReplicate,reducePow,reduceDiv,reduceMod,reduceEqDiff,Nat.reduceBEq,Jn,NC,qs,hw,hlen]
  refine bl (m/256,k,UInt8.ofNat (m%256)::t) rfl ⟨?_,?_,?_,?_,?_⟩ (by simp only;omega)
  ·rw [hd,lU (by omega)];simp
  ·simp only [aC];omega
  ·simp only;rw [Nat.pow_succ] at hm;omega
  ·simp only;omega
  ·simp only [←hw,Nat.add_sub_cancel,Nat.mul_one]
   rfl
end Go.Av
