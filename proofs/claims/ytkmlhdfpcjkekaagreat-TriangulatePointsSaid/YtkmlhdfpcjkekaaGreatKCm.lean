/- Helping texts: Cm, Cn, Co, Cx. -/
import Derived.Test.YtkmlhdfpcjkekaaGreatKCk
import Derived.Test.YtkmlhdfpcjkekaaGreatKBa
set_option linter.unusedSimpArgs false
set_option linter.unusedVariables false
set_option maxRecDepth 100000
set_option maxHeartbeats 16000000
open Nat (reduceAdd reduceLT reduceLeDiff reducePow reduceDiv reduceMod reduceEqDiff)
namespace Go.Av
open Go.RowKit
open Go.Proofs.Tryz (prog)
theorem divX_pc (s:Bool) (l m:List UInt8) (hl:l.length<2^36) (hm:m.length<2^36) (h0:0<bval m) (hd:bval l%bval m=0):PC prog 219 [iN s l,iN false m] (.tup [cI (sg s (bval l/bval m)),cI 0,.prim (.int .i64 (0))]):=by
 refine PCi ?_
 conv in trip _ _=>cbv
 simp only [runT,RN,Nat.reduceAdd,Nat.reduceSub]
 have h1:=limbs_len l
 have h2:=limbs_len m
 have h3:= @limbs_lenpos (bval m) h0
 have hdv:=divide_pc (bval l) (bval m) (by omega) (by omega) h0
 rw [hd] at hdv
 have h4:= @limbs_mono (bval l/bval m) (bval l) (Nat.div_le_self _ _)
 have k1:=pack_pc (s !=false) (limbsOf (bval l/bval m)) (by omega) (limb_limbsOf _)
 have k2:=pack_pc s (limbsOf 0) (by rw [limbsOf_zero];simp) (limb_limbsOf _)
 rw [lval_limbsOf] at k1 k2
 have e0:sg s 0=0:=by cases s<;>rfl
 have e1:(s !=false)=s:=by cases s<;>rfl
 rw [e0] at k2
 rw [e1] at k1
 simp (disch:=omega) only [↓RS,RZ,reduceCtorEq,reduceAdd,reduceLT,reduceLeDiff,List.reduceReplicate,reducePow,reduceDiv,reduceMod,reduceEqDiff,Nat.reduceBEq,iN]
 refine call_pc (load_pc m (by omega)) (.inl rfl) ?_
 simp (disch:=omega) only [↓RS,RZ,reduceCtorEq,reduceAdd,reduceLT,reduceLeDiff,List.reduceReplicate,reducePow,reduceDiv,reduceMod,reduceEqDiff,Nat.reduceBEq,lw_length]
 refine call_pc (load_pc l (by omega)) (.inl rfl) ?_
 simp (disch:=omega) only [↓RS,RZ,reduceCtorEq,reduceAdd,reduceLT,reduceLeDiff,List.reduceReplicate,reducePow,reduceDiv,reduceMod,reduceEqDiff,Nat.reduceBEq,lw_length]
 refine call_pc hdv (.inl rfl) ?_
 simp (disch:=omega) only [↓RS,RZ,reduceCtorEq,reduceAdd,reduceLT,reduceLeDiff,List.reduceReplicate,reducePow,reduceDiv,reduceMod,reduceEqDiff,Nat.reduceBEq,eqA_bool9,not_beq,e1]
 refine cX k1 ?_
 simp (disch:=omega) only [↓RS,RZ,reduceCtorEq,reduceAdd,reduceLT,reduceLeDiff,List.reduceReplicate,reducePow,reduceDiv,reduceMod,reduceEqDiff,Nat.reduceBEq]
 refine cX k2 ?_
 have d0:(digitsOf (Int.natAbs 0)==[])=true:=by rw [show Int.natAbs 0=0 from rfl,digits_beq];rfl
 simp (disch:=omega) only [↓RS,RZ,reduceCtorEq,reduceAdd,reduceLT,reduceLeDiff,List.reduceReplicate,reducePow,reduceDiv,reduceMod,reduceEqDiff,Nat.reduceBEq,cI,iN,d0]
 try rfl
structure GcdInv (g:Nat) (x:Nat×Nat) (k:Nat):Prop where
 g:Nat.gcd x.1 x.2=g
 a:(limbsOf x.1).length≤k
 b:(limbsOf x.2).length≤k
theorem gcd_pc (s t:Bool) (l m:List UInt8) (hl:l.length<2^36) (hm:m.length<2^36):PC prog 218 [iN s l,iN t m] (cI (Nat.gcd (bval l) (bval m))):=by
 refine PCi ?_
 conv in trip _ _=>cbv
 simp only [runT,RN,Nat.reduceAdd,Nat.reduceSub]
 have h1:=limbs_len l
 have h2:=limbs_len m
 simp (disch:=omega) only [↓RS,RZ,reduceCtorEq,reduceAdd,reduceLT,reduceLeDiff,List.reduceReplicate,reducePow,reduceDiv,reduceMod,reduceEqDiff,Nat.reduceBEq,iN]
 refine cX (load_pc l (by omega)) ?_
 simp (disch:=omega) only [↓RS,RZ,reduceCtorEq,reduceAdd,reduceLT,reduceLeDiff,List.reduceReplicate,reducePow,reduceDiv,reduceMod,reduceEqDiff,Nat.reduceBEq,lw_length]
 refine cX (load_pc m (by omega)) ?_
 simp (disch:=omega) only [↓RS,RZ,reduceCtorEq,reduceAdd,reduceLT,reduceLeDiff,List.reduceReplicate,reducePow,reduceDiv,reduceMod,reduceEqDiff,Nat.reduceBEq,lw_length]
 refine wp_lp (fun (x:Nat×Nat) J=>ov [(4,.ptr 2 0 0),(5,.lst 1 (lw (limbsOf x.1))),(6,.lst 1 (lw (limbsOf x.2)))] J 0 28)
  (fun x H=>GcdInv (Nat.gcd (bval l) (bval m)) x (2^36)∧H=[some (.row 2 true [[.prim (.bool s),.prim (.string (bs l))]]),some (.row 2 true [[.prim (.bool t),.prim (.string (bs m))]]),some (.row 2 true [[.prim (.bool false),.prim (.string (bs ([])))]])]) (fun x=>x.2) (bval l,bval m) rfl ⟨⟨rfl,by simp only;omega,by simp only;omega⟩,rfl⟩ ?_
 rintro ⟨a,b⟩ J H ⟨⟨hg,ha,hb⟩,rfl⟩
 try conv in ov _ _ _ _=>simp only [ov,List.lookup,Option.getD_some,Option.getD_none,Nat.reduceAdd,Nat.reduceBEq]
 simp only at hg ha hb ⊢
 rcases Nat.eq_zero_or_pos b with hb0|hb0
 ·subst hb0
  have h3:= @limbs_len0 0 rfl
  rw [Nat.gcd_zero_right] at hg
  have k1:=pack_pc false (limbsOf a) (by omega) (limb_limbsOf _)
  rw [lval_limbsOf] at k1
  simp (disch:=omega) only [↓RS,RZ,reduceCtorEq,reduceAdd,reduceLT,reduceLeDiff,List.reduceReplicate,reducePow,reduceDiv,reduceMod,reduceEqDiff,Nat.reduceBEq,lw_length]
  refine call_pc k1 (.inl rfl) ?_
  have e:sg false a=((Nat.gcd (bval l) (bval m):Nat):Int):=by rw [←hg];rfl
  rw [e]
  simp (disch:=omega) only [↓RS,RZ,reduceCtorEq,reduceAdd,reduceLT,reduceLeDiff,List.reduceReplicate,reducePow,reduceDiv,reduceMod,reduceEqDiff,Nat.reduceBEq,cI,iN]
 ·have h3:= @limbs_lenpos b hb0
  have hdv:=divide_pc a b (by omega) (by omega) hb0
  simp (disch:=omega) only [↓RS,RZ,reduceCtorEq,reduceAdd,reduceLT,reduceLeDiff,List.reduceReplicate,reducePow,reduceDiv,reduceMod,reduceEqDiff,Nat.reduceBEq,lw_length]
  refine call_pc hdv (.inl rfl) ?_
  simp (disch:=omega) only [↓RS,RZ,reduceCtorEq,reduceAdd,reduceLT,reduceLeDiff,List.reduceReplicate,reducePow,reduceDiv,reduceMod,reduceEqDiff,Nat.reduceBEq,lw_length]
  refine lp_next (b,a%b) rfl ⟨⟨by simp only;rw [←hg,Nat.gcd_comm b,←Nat.gcd_rec,Nat.gcd_comm],hb,Nat.le_trans (limbs_mono (Nat.le_of_lt (Nat.mod_lt a hb0))) hb⟩,rfl⟩ (Nat.mod_lt _ hb0)
end Go.Av
open Nat (reduceAdd reduceLT reduceLeDiff reducePow reduceDiv reduceMod reduceEqDiff)
namespace Go.Av
open Go.RowKit
open Go.Proofs.Tryz (prog)
structure Rt where
 neg:Bool
 num:List UInt8
 den:List UInt8
instance:DecidableEq Rt:=fun a b=>decidable_of_iff (a.neg=b.neg∧a.num=b.num∧a.den=b.den) (by cases a;cases b;simp)
def rV (r:Rt):V:= .agg [.prim (.bool r.neg),.prim (.string (bs (r.num))),.prim (.string (bs (r.den)))]
def Rt.n (r:Rt):Int:=ival r.neg r.num
def Rt.d (r:Rt):Nat:=if bval r.den=0 then 1 else bval r.den
theorem Rt.d_pos (r:Rt):0<r.d:=by unfold Rt.d;split<;>omega
def Rt.val (r:Rt):Rat:=mkRat r.n r.d
def can (q:Rat):Rt:=⟨decide (q.num<0),digitsOf q.num.natAbs,if q.den=1 then [] else digitsOf q.den⟩
theorem can_val (q:Rat):(can q).val=q:=by
 unfold Rt.val Rt.n Rt.d can
 simp only [ival_can]
 by_cases h:q.den=1
 ·simp only [h,if_true,bval_nil]
  conv=>rhs;rw [←Rat.mkRat_self q,h]
 ·simp only [h,if_false,bval_digitsOf]
  rw [if_neg q.den_nz,Rat.mkRat_self]
theorem can_inj {p q:Rat} (h:can p=can q):p=q:=by rw [←can_val p,←can_val q,h]
theorem mk_num (n:Int) (d:Nat) (hd:0<d):(mkRat n d).num=sg (decide (n<0)) (n.natAbs/Nat.gcd n.natAbs d)∧(mkRat n d).den=d/Nat.gcd n.natAbs d:=by
 have hne:d≠0:=by omega
 have h0:mkRat n d=Rat.normalize n d hne:=by rw [mkRat,dif_neg hne]
 rw [h0,Rat.normalize_eq]
 refine ⟨?_,rfl⟩
 try simp only
 have hg:0<Nat.gcd n.natAbs d:=Nat.gcd_pos_of_pos_right _ hd
 have hdv:Nat.gcd n.natAbs d ∣ n.natAbs:=Nat.gcd_dvd_left _ _
 generalize Nat.gcd n.natAbs d=g at*
 by_cases h:n<0
 ·obtain ⟨k,hk⟩:∃ k:Nat,n= -(k:Int):=⟨n.natAbs,by omega⟩
  subst hk
  rw [Int.natAbs_neg,Int.natAbs_natCast] at hdv ⊢
  rw [decide_eq_true h,sg,if_pos rfl,Int.neg_ediv_of_dvd (Int.natCast_dvd_natCast.2 hdv)]
  rfl
 ·obtain ⟨k,hk⟩:∃ k:Nat,n=(k:Int):=⟨n.natAbs,by omega⟩
  subst hk
  rw [Int.natAbs_natCast,decide_eq_false h]
  rfl
theorem integer_pc (s:Bool) (l:List UInt8):PC prog 216 [.prim (.bool s),.prim (.string (bs l))] (iN s l):=by
 refine PCi ?_
 conv in trip _ _=>cbv
 simp only [runT,RN,Nat.reduceAdd,Nat.reduceSub]
 simp (disch:=omega) only [↓RS,RZ,reduceCtorEq,reduceAdd,reduceLT,reduceLeDiff,List.reduceReplicate,reducePow,reduceDiv,reduceMod,reduceEqDiff,Nat.reduceBEq,iN]
theorem is_pc (s:Bool) (l:List UInt8) (n:Int) (hl:l.length<2^36) (h1: -256<n) (h2:n<256):PC prog 217 [iN s l,.prim (.int .i64 (n))] (.prim (.bool (decide (ival s l=n)))):=by
 refine PCi ?_
 conv in trip _ _=>cbv
 simp only [runT,RN,Nat.reduceAdd,Nat.reduceSub]
 have hd:= @dl_le n.natAbs 1 (by omega)
 have hd2:(digitsOf n.natAbs).length<2^36:=by unfold dl at hd;omega
 simp (disch:=omega) only [↓RS,RZ,reduceCtorEq,reduceAdd,reduceLT,reduceLeDiff,List.reduceReplicate,reducePow,reduceDiv,reduceMod,reduceEqDiff,Nat.reduceBEq,iN]
 refine cX (of_pc n (by omega) (by omega)) ?_
 have h:=compareI_pc s (decide (n<0)) l (digitsOf n.natAbs) hl hd2
 rw [ival_can] at h
 simp (disch:=omega) only [↓RS,RZ,reduceCtorEq,reduceAdd,reduceLT,reduceLeDiff,List.reduceReplicate,reducePow,reduceDiv,reduceMod,reduceEqDiff,Nat.reduceBEq,iN,cI]
 refine cX h ?_
 have e:(cmpI (ival s l) n==0)=decide (ival s l=n):=by
  unfold cmpI
  by_cases h1:ival s l<n
  ·rw [if_pos h1];have:¬ival s l=n:=by omega
   simp [this]
  ·by_cases h2:n<ival s l
   ·rw [if_neg h1,if_pos h2];have:¬ival s l=n:=by omega
    simp [this]
   ·rw [if_neg h1,if_neg h2];have:ival s l=n:=by omega
    simp [this]
 simp (disch:=omega) only [↓RS,RZ,reduceCtorEq,reduceAdd,reduceLT,reduceLeDiff,List.reduceReplicate,reducePow,reduceDiv,reduceMod,reduceEqDiff,Nat.reduceBEq,e]
def fV (s:Bool) (l m:List UInt8):V:= .agg [.prim (.bool s),.prim (.string (bs l)),.prim (.bool false),.prim (.string (bs m))]
def Rt.dd (r:Rt):List UInt8:=if bval r.den=0 then digitsOf 1 else r.den
theorem bval_dd (r:Rt):bval r.dd=r.d:=by
 unfold Rt.dd Rt.d;split
 ·exact bval_digitsOf 1
 ·rfl
theorem ofR_pc (r:Rt) (h1:r.num.length<2^36) (h2:r.den.length<2^36):PC prog 147 [rV r] (fV r.neg r.num r.dd):=by
 refine PCi ?_
 conv in trip _ _=>cbv
 simp only [runT,RN,Nat.reduceAdd,Nat.reduceSub]
 have hi:=is_pc false r.den 0 h2 (by omega) (by omega)
 have e:ival false r.den=(bval r.den:Nat):=rfl
 rw [e] at hi
 simp (disch:=omega) only [↓RS,RZ,reduceCtorEq,reduceAdd,reduceLT,reduceLeDiff,List.reduceReplicate,reducePow,reduceDiv,reduceMod,reduceEqDiff,Nat.reduceBEq,rV]
 refine cX (integer_pc r.neg r.num) ?_
 simp (disch:=omega) only [↓RS,RZ,reduceCtorEq,reduceAdd,reduceLT,reduceLeDiff,List.reduceReplicate,reducePow,reduceDiv,reduceMod,reduceEqDiff,Nat.reduceBEq,iN]
 refine cX (integer_pc false r.den) ?_
 simp (disch:=omega) only [↓RS,RZ,reduceCtorEq,reduceAdd,reduceLT,reduceLeDiff,List.reduceReplicate,reducePow,reduceDiv,reduceMod,reduceEqDiff,Nat.reduceBEq,iN]
 have h1:PC prog 217 [.agg [.prim (.bool false),.prim (.string (bs (r.den)))],.prim (.int .i64 (0))] (.prim (.bool (decide ((bval r.den:Nat)=(0:Int))))):=hi
 refine cX h1 ?_
 by_cases hz:bval r.den=0
 ·have hz':((bval r.den:Nat):Int)=0:=by omega
  have hdd:r.dd=digitsOf 1:=by rw [Rt.dd,if_pos hz]
  simp (disch:=omega) only [↓RS,RZ,reduceCtorEq,reduceAdd,reduceLT,reduceLeDiff,List.reduceReplicate,reducePow,reduceDiv,reduceMod,reduceEqDiff,Nat.reduceBEq,hz']
  refine cX (of_pc 1 (by omega) (by omega)) ?_
  simp (disch:=omega) only [↓RS,RZ,reduceCtorEq,reduceAdd,reduceLT,reduceLeDiff,List.reduceReplicate,reducePow,reduceDiv,reduceMod,reduceEqDiff,Nat.reduceBEq,cI,iN,fV,hdd]
  rfl
 ·have hz':((bval r.den:Nat):Int)≠0:=by omega
  have hdd:r.dd=r.den:=by rw [Rt.dd,if_neg hz]
  simp (disch:=omega) only [↓RS,RZ,reduceCtorEq,reduceAdd,reduceLT,reduceLeDiff,List.reduceReplicate,reducePow,reduceDiv,reduceMod,reduceEqDiff,Nat.reduceBEq,hz']
  simp (disch:=omega) only [↓RS,RZ,reduceCtorEq,reduceAdd,reduceLT,reduceLeDiff,List.reduceReplicate,reducePow,reduceDiv,reduceMod,reduceEqDiff,Nat.reduceBEq,fV,hdd]
end Go.Av
namespace Go.Av
open Go.RowKit
open Go.Proofs.Tryz (prog)
theorem cI_nat (k:Nat):cI (k:Int)=iN false (digitsOf k):=by rw [cI,decide_eq_false (by omega),Int.natAbs_natCast]
theorem ival_natAbs (s:Bool) (l:List UInt8):(ival s l).natAbs=bval l:=by cases s<;>simp [ival,sg]
theorem ival_zero {s:Bool} {l:List UInt8}:ival s l=0↔bval l=0:=by cases s<;>simp [ival,sg]
theorem ival_neg {s:Bool} {l:List UInt8} (h:bval l≠0):decide (ival s l<0)=s:=by cases s<;>simp [ival,sg];omega
theorem can_zero:can 0=⟨false,[],[]⟩:=by simp [can,digitsOf_zero]
theorem len_dl (n:Nat):(digitsOf n).length=dl n:=rfl
theorem can_mk {s:Bool} {l:List UInt8} {d:Nat} (hd:0<d) (h:bval l≠0):can (mkRat (ival s l) d)=⟨decide (sg s (bval l/Nat.gcd (bval l) d)<0),digitsOf (sg s (bval l/Nat.gcd (bval l) d)).natAbs,if d/Nat.gcd (bval l) d=1 then [] else digitsOf (d/Nat.gcd (bval l) d)⟩:=by
 obtain ⟨h1,h2⟩:=mk_num (ival s l) d hd
 rw [ival_natAbs,ival_neg h] at h1
 rw [ival_natAbs] at h2
 unfold can
 rw [h1,h2]
theorem number_pc (s:Bool) (l m:List UInt8) (hl:l.length<2^36) (hm:m.length<2^36) (h0:0<bval m):PC prog 148 [fV s l m] (rV (can (mkRat (ival s l) (bval m)))):=by
 refine PCi ?_
 conv in trip _ _=>cbv
 simp only [runT,RN,simprocAttr]
 have i1:=is_pc s l 0 hl (by omega) (by omega)
 by_cases hz:bval l=0
 ·have hz':ival s l=0:=ival_zero.2 hz
  have e:rV (can (mkRat (ival s l) (bval m)))= .agg [.prim (.bool false),.prim (.string (bs ([]))),.prim (.string (bs ([])))]:=by rw [hz',Rat.zero_mkRat,can_zero];rfl
  rw [e]
  rw [decide_eq_true hz'] at i1
  simp (disch:=omega) only [↓RS,RZ,simprocAttr,fV,iN]
  refine cX i1 ?_
  simp (disch:=omega) only [↓RS,RZ,simprocAttr]
 ·have hz':ival s l≠0:=fun h=>hz (ival_zero.1 h)
  rw [decide_eq_false hz'] at i1
  have hg:=gcd_pc s false l m hl hm
  rw [cI_nat] at hg
  have hg0:0<Nat.gcd (bval l) (bval m):=Nat.gcd_pos_of_pos_right _ h0
  have hgl:=Nat.gcd_dvd_left (bval l) (bval m)
  have hgm:=Nat.gcd_dvd_right (bval l) (bval m)
  have hgle:Nat.gcd (bval l) (bval m)≤bval m:=Nat.le_of_dvd h0 hgm
  rw [can_mk h0 hz]
  generalize Nat.gcd (bval l) (bval m)=g at*
  have hgd:=dl_mono hgle
  have hmd:=dl_bval m
  rw [←len_dl] at hgd
  have d1:=divX_pc s l (digitsOf g) hl (by omega) (by rw [bval_digitsOf];exact hg0) (by rw [bval_digitsOf];exact Nat.mod_eq_zero_of_dvd hgl)
  have d2:=divX_pc false m (digitsOf g) hm (by omega) (by rw [bval_digitsOf];exact hg0) (by rw [bval_digitsOf];exact Nat.mod_eq_zero_of_dvd hgm)
  rw [bval_digitsOf] at d1 d2
  have e2:sg false (bval m/g)=((bval m/g:Nat):Int):=rfl
  rw [e2,cI_nat] at d2
  have h3:= @dl_mono (bval m/g) (bval m) (Nat.div_le_self _ _)
  rw [←len_dl] at h3
  have i2:=is_pc false (digitsOf (bval m/g)) 1 (by omega) (by omega) (by omega)
  have e3:ival false (digitsOf (bval m/g))=((bval m/g:Nat):Int):=by rw [ival,bval_digitsOf];rfl
  rw [e3] at i2
  simp (disch:=omega) only [↓RS,RZ,simprocAttr,fV,iN]
  refine cX i1 ?_
  simp (disch:=omega) only [↓RS,RZ,simprocAttr]
  refine cX hg ?_
  simp (disch:=omega) only [↓RS,RZ,simprocAttr,iN]
  refine cX d1 ?_
  simp (disch:=omega) only [↓RS,RZ,simprocAttr,cI,iN]
  refine cX d2 ?_
  simp (disch:=omega) only [↓RS,RZ,simprocAttr,cI,iN]
  refine cX i2 ?_
  by_cases h1:bval m/g=1
  ·have h1':((bval m/g:Nat):Int)=1:=by omega
   simp (disch:=omega) only [↓RS,RZ,simprocAttr,h1',rV,h1]
   try rfl
  ·have h1':((bval m/g:Nat):Int)≠1:=by omega
   simp (disch:=omega) only [↓RS,RZ,simprocAttr,h1',rV,h1]
   try rfl
theorem eqA_rat {n:Nat} {s t:Bool} {a b c d:List UInt8}:eqA (tyOf prog) (n+2) 35 (.agg [.prim (.bool s),.prim (.string (bs a)),.prim (.string (bs b))]) (.agg [.prim (.bool t),.prim (.string (bs c)),.prim (.string (bs d))])=some (decide (Rt.mk s a b=Rt.mk t c d)):=by
 have e:decide (Rt.mk s a b=Rt.mk t c d)=((s==t)&&(a==c)&&(b==d)):=by
  rw [Bool.eq_iff_iff];simp [and_assoc]
 rw [e]
 simp only [eqA,RT,eqA.eqFs,Bool.false_eq_true,if_false,String.reduceEq,readAt,TK.isAgg,List.getElem?_cons_zero,List.getElem?_cons_succ,bs_toList]
 cases h1:(s==t)<;>cases h2:(a==c)<;>cases h3:(b==d)<;>rfl
theorem ofI_pc (n:Int) (h1: -9223372036854775808≤n) (h2:n<9223372036854775808):PC prog 112 [.prim (.int .i64 (n))] (rV (can (n:Rat))):=by
 refine PCi ?_
 conv in trip _ _=>cbv
 simp only [runT,RN,simprocAttr]
 have hd:= @dl_le n.natAbs 8 (by simp only [Nat.reducePow];omega)
 rw [←len_dl] at hd
 have h:=number_pc (decide (n<0)) (digitsOf n.natAbs) (digitsOf 1) (by omega) (by have:= @dl_le 1 1 (by omega);rw [←len_dl] at this;omega) (by rw [bval_digitsOf];omega)
 rw [ival_can,bval_digitsOf,Rat.mkRat_one] at h
 simp (disch:=omega) only [↓RS,RZ,simprocAttr]
 refine cX (of_pc n h1 h2) ?_
 simp (disch:=omega) only [↓RS,RZ,simprocAttr,cI,iN]
 refine cX (of_pc 1 (by omega) (by omega)) ?_
 simp (disch:=omega) only [↓RS,RZ,simprocAttr,cI,iN]
 refine cX h ?_
 simp (disch:=omega) only [↓RS,RZ,simprocAttr,rV]
 try rfl
theorem zeroI:ival false []=0:=rfl
theorem dl1:(digitsOf 1).length≤1:= @dl_le 1 1 (by omega)
def qI (n d:Int):Rat:=Rat.divInt n d
theorem qI_pos {n d:Int} (h:0<d):mkRat n d.natAbs=qI n d:=by
 obtain ⟨k,rfl⟩:∃ k:Nat,d=(k:Int):=⟨d.natAbs,by omega⟩
 rfl
theorem qI_neg {n d:Int}:qI (-n) (-d)=qI n d:=Rat.neg_divInt_neg ..
theorem bval_pos {t:Bool} {m:List UInt8} (h:ival t m≠0):0<bval m:=by
 rcases Nat.eq_zero_or_pos (bval m) with h0|h0
 ·exact absurd (ival_zero.2 h0) h
 ·exact h0
theorem len_bound {l:List UInt8} (h:l.length<2^36):(digitsOf (bval l)).length<2^36:=by
 have:=dl_bval l
 rw [←len_dl] at this;omega
theorem new_pc (s t:Bool) (l m:List UInt8) (hl:l.length<2^36) (hm:m.length<2^36):PC prog 92 [iN s l,iN t m] (if ival t m=0 then .tup [rV ⟨false,[],[]⟩,.prim (.int .i64 (10))] else .tup [rV (can (qI (ival s l) (ival t m))),.prim (.int .i64 (0))]):=by
 refine PCi ?_
 conv in trip _ _=>cbv
 simp only [runT,RN,simprocAttr]
 have hc:=compareI_pc t false m [] hm (by simp)
 rw [zeroI] at hc
 simp (disch:=omega) only [↓RS,RZ,simprocAttr,iN]
 refine cX hc ?_
 by_cases hz:ival t m=0
 ·have e:cmpI (ival t m) 0=0:=by rw [hz];rfl
  rw [if_pos hz]
  simp (disch:=omega) only [↓RS,RZ,simprocAttr,e,rV]
 ·rw [if_neg hz]
  have hp:=bval_pos hz
  have hb1:=len_bound hl
  have hb2:=len_bound hm
  by_cases hn:ival t m<0
  ·have e:cmpI (ival t m) 0= -1:=by rw [cmpI,if_pos hn]
   have k1:=neg_pc s l hl
   have k2:=neg_pc t m hm
   rw [cI,Int.natAbs_neg,ival_natAbs] at k1 k2
   have e2:decide (-ival t m<0)=false:=decide_eq_false (by omega)
   rw [e2] at k2
   have hnum:=number_pc (decide (-ival s l<0)) (digitsOf (bval l)) (digitsOf (bval m)) hb1 hb2 (by rw [bval_digitsOf];exact hp)
   have e3:ival (decide (-ival s l<0)) (digitsOf (bval l))= -ival s l:=by
    have:=ival_can (-ival s l)
    rwa [Int.natAbs_neg,ival_natAbs] at this
   rw [e3,bval_digitsOf] at hnum
   have e4:mkRat (-ival s l) (bval m)=qI (ival s l) (ival t m):=by
    rw [←qI_neg,←qI_pos (by omega),Int.natAbs_neg,ival_natAbs]
   rw [e4] at hnum
   simp (disch:=omega) only [↓RS,RZ,simprocAttr,e]
   refine cX k1 ?_
   simp (disch:=omega) only [↓RS,RZ,simprocAttr,iN]
   refine cX k2 ?_
   simp (disch:=omega) only [↓RS,RZ,simprocAttr,iN]
   refine cX hnum ?_
   simp (disch:=omega) only [↓RS,RZ,simprocAttr,rV]
   try rfl
  ·have e:cmpI (ival t m) 0=1:=by rw [cmpI,if_neg hn,if_pos (by omega)]
   have ht:t=false:=by
    have:=ival_neg (s:=t) (Nat.ne_of_gt hp)
    rw [←this];exact decide_eq_false hn
   subst ht
   have hnum:=number_pc s l m hl hm hp
   have e4:mkRat (ival s l) (bval m)=qI (ival s l) (ival false m):=by
    rw [←qI_pos (by omega),ival_natAbs]
   rw [e4] at hnum
   simp (disch:=omega) only [↓RS,RZ,simprocAttr,e]
   refine cX hnum ?_
   simp (disch:=omega) only [↓RS,RZ,simprocAttr,rV]
   try rfl
theorem val_neg (r:Rt):(Rt.mk (!r.neg) r.num r.den).val= -r.val:=by
 unfold Rt.val Rt.n Rt.d
 rw [ival_not,Rat.neg_mkRat]
theorem checkR_pc (r:Rt) (h1:r.num.length<2^36) (h2:r.den.length<2^36):PC prog 86 [rV r] (.prim (.int .i64 (if r=can r.val then 0 else 1))):=by
 refine PCi ?_
 conv in trip _ _=>cbv
 simp only [runT,RN,simprocAttr]
 have hr:=ofR_pc r h1 h2
 have hdd:r.dd.length<2^36:=by unfold Rt.dd;have:=dl1;split<;>omega
 have hn:=number_pc r.neg r.num r.dd h1 hdd (by rw [bval_dd];exact r.d_pos)
 rw [bval_dd] at hn
 simp (disch:=omega) only [↓RS,RZ,simprocAttr,rV]
 refine cX hr ?_
 simp (disch:=omega) only [↓RS,RZ,simprocAttr,fV]
 refine cX hn ?_
 have e1:Rt.mk r.neg r.num r.den=r:=rfl
 have e2:Rt.mk (can (mkRat (ival r.neg r.num) r.d)).neg (can (mkRat (ival r.neg r.num) r.d)).num (can (mkRat (ival r.neg r.num) r.d)).den=can r.val:=rfl
 by_cases h:r=can r.val
 ·have hd:decide (Rt.mk r.neg r.num r.den=Rt.mk (can (mkRat (ival r.neg r.num) r.d)).neg (can (mkRat (ival r.neg r.num) r.d)).num (can (mkRat (ival r.neg r.num) r.d)).den)=true:=decide_eq_true h
  rw [if_pos h]
  simp (disch:=omega) only [↓RS,RZ,simprocAttr,rV,eqA_rat,hd]
 ·have hd:decide (Rt.mk r.neg r.num r.den=Rt.mk (can (mkRat (ival r.neg r.num) r.d)).neg (can (mkRat (ival r.neg r.num) r.d)).num (can (mkRat (ival r.neg r.num) r.d)).den)=false:=decide_eq_false h
  rw [if_neg h]
  simp (disch:=omega) only [↓RS,RZ,simprocAttr,rV,eqA_rat,hd]
end Go.Av
open Nat (reduceAdd reduceLT reduceLeDiff reducePow reduceDiv reduceMod reduceEqDiff)
namespace Go.Av
open Go.RowKit
open Go.Proofs.Tryz (prog)
def tcells (k:Nat) (t:List UInt8):List V:=List.replicate k (.prim (.int .u8 ((0:Nat):Int)))++t.map fun b=> .prim (.int .u8 ((b.toNat:Nat):Int))
theorem tcells_length {k:Nat} {t:List UInt8}:(tcells k t).length=k+t.length:=by simp [tcells]
theorem tcells_write {k:Nat} {t:List UInt8} {b:UInt8} {x:V} (h:x= .prim (.int .u8 ((b.toNat:Nat):Int))):writeAt (tcells (k+1) t) k [x]=tcells k (b::t):=by
 subst h
 have e:tcells (k+1) t=List.replicate k (.prim (.int .u8 ((0:Nat):Int)))++(.prim (.int .u8 ((0:Nat):Int)))::t.map fun b=> .prim (.int .u8 ((b.toNat:Nat):Int)):=by
  unfold tcells;rw [List.replicate_succ',List.append_assoc];rfl
 rw [e]
 unfold writeAt tcells
 rw [List.take_left' (by simp),←List.drop_drop,List.drop_left' (by simp)]
 simp
theorem tcells_all {k:Nat} {t:List UInt8}:((tcells k t).all fun| .prim x=>scal x|_=>false)=true:=by
 simp [tcells,List.all_append,scal]
theorem tcells_slice {k:Nat} {t:List UInt8}:(((tcells k t).map ([·])).drop k).take (k+t.length-k)=bw t:=by
 unfold tcells bw
 rw [List.map_append,List.drop_left' (by simp),List.take_of_length_le (by simp),List.map_map]
 rfl
theorem ty_arr8:tyOf prog 240 =some ⟨8,8,List.replicate 8 (.int .u8 0),.array 8 5,false⟩:=by kernel_rfl
theorem text_pc (n:Nat) (h:n<9223372036854775808):PC prog 220 [.prim (.int .i64 ((n:Nat):Int))] (.prim (.string (bs (digitsOf n)))):=by
 refine PCi ?_
 conv in trip _ _=>cbv
 simp only [runT,RN,Nat.reduceAdd,Nat.reduceSub]
 simp (disch:=omega) only [↓RS,RZ,reduceCtorEq,reduceAdd,reduceLT,reduceLeDiff,List.reduceReplicate,reducePow,reduceDiv,reduceMod,reduceEqDiff,Nat.reduceBEq]
 refine wp_lp (fun (s:Nat×Nat×List UInt8) J=>ov [(0,.prim (.int .i64 ((s.1:Nat):Int))),(3,.ptr 0 0 0),(4,.prim (.int .i64 ((s.2.1:Nat):Int)))] J 0 18) (fun s H=>digitsOf n=digitsOf s.1++s.2.2∧s.2.1+s.2.2.length=8∧s.1<256^s.2.1∧s.1≤n∧H=[some (.row 8 true [tcells s.2.1 s.2.2])]) (fun s=>s.1) (n,8,[]) rfl ⟨by simp,rfl,by simp only [Nat.reducePow];omega,Nat.le_refl _,rfl⟩ ?_
 rintro ⟨m,k,t⟩ J _ ⟨hd,hk,hm,hmn,rfl⟩
 try conv in ov _ _ _ _=>simp only [ov,List.lookup,Option.getD_some,Option.getD_none,Nat.reduceAdd,Nat.reduceBEq]
 simp only at hd hk hm hmn ⊢
 rcases Nat.eq_zero_or_pos m with rfl|hp
 ·rw [digitsOf_zero,List.nil_append] at hd
  rw [hd]
  simp (disch:=omega) only [↓RS,RZ,reduceCtorEq,reduceAdd,reduceLT,reduceLeDiff,List.reduceReplicate,reducePow,reduceDiv,reduceMod,reduceEqDiff,Nat.reduceBEq]
  rw [slP_none]
  unfold wpArr
  simp only [ty_arr8,ty_u8,ev_tmp,List.getD_cons_succ,List.getD_cons_zero,get_zero,sliceV,Option.map_some,Option.map_none,intOfV]
  refine ⟨⟨by omega,by omega,by omega⟩,trivial,by rw [tcells_length];exact hk,tcells_all,?_⟩
  have e:(8:Nat)=k+t.length:=hk.symm
  rw [Int.toNat_natCast,Int.toNat_natCast,e,tcells_slice]
  have hb:=bytesOf_bw t
  simp (disch:=omega) only [↓RS,RZ,reduceCtorEq,reduceAdd,reduceLT,reduceLeDiff,List.reduceReplicate,reducePow,reduceDiv,reduceMod,reduceEqDiff,Nat.reduceBEq,hb]
 ·obtain ⟨k,rfl⟩:∃ j,k=j+1:=by
   rcases k with _|k
   ·simp at hm;omega
   ·exact ⟨k,rfl⟩
  have hw:=tcells_write (k:=k) (t:=t) (b:=UInt8.ofNat (m%256)) (x:= .prim (.int .u8 ((m%256:Nat):Int))) (by simp)
  have hlen:=tcells_length (k:=k+1) (t:=t)
  have hk8:k<8:=by omega
  simp (disch:=omega) only [↓RS,RZ,reduceCtorEq,reduceAdd,reduceLT,reduceLeDiff,List.reduceReplicate,reducePow,reduceDiv,reduceMod,reduceEqDiff,Nat.reduceBEq,ty_arr8,shr8_i64,wrap_nat_u8,hw,hlen]
  refine lp_next (m/256,k,UInt8.ofNat (m%256)::t) rfl ⟨?_,?_,?_,?_,?_⟩ (by simp only;omega)
  ·rw [hd,digitsOf_pos (by omega)];simp
  ·simp only [List.length_cons];omega
  ·simp only;rw [Nat.pow_succ] at hm;omega
  ·simp only;omega
  ·simp only [←hw,Nat.add_sub_cancel,Nat.mul_one]
   rfl
end Go.Av
