/- Helping texts: Ra, Rb, Rc, Rd. -/
import Derived.Test.YtbidkolaahnbiaaGreatKCs
import Derived.Test.YtbidkolaahnbiaaGreatKCt
set_option linter.unusedSimpArgs false
set_option linter.unusedVariables false
set_option maxRecDepth 100000
set_option maxHeartbeats 16000000
open Nat (reduceAdd reduceLT reduceLeDiff reducePow reduceDiv reduceMod reduceEqDiff)
namespace Go.Av
open Go.RowKit
open Go.Proofs.Tryz (prog)
theorem strip0 (s:List UInt8):strip (0::s)=strip s:=by simp [strip]
theorem stripP {b:UInt8} {s:List UInt8} (hb:b≠0):strip (b::s)=b::s:=by
 have:(b==0)=false:=by simpa using hb
 simp [strip,this]
theorem toNat_ne {b:UInt8} (hb:b≠0):b.toNat≠0:=fun h=>hb (UInt8.toNat_inj.1 (by simpa using h))
theorem rtrim_pc (l:List UInt8) (hl:l.length<2^40):PC prog 290 [.prim (.string (bs l))] (.prim (.string (bs (digitsOf (bval l))))):=by
 rw [←strip_eq]
 refine PCi ?_
 conv in trip _ _=>cbv
 simp only [runT,RN,Nat.reduceAdd,Nat.reduceSub]
 simp (disch:=omega) only [↓RS,RZ,reduceCtorEq,reduceAdd,reduceLT,reduceLeDiff,List.reduceReplicate,reducePow,reduceDiv,reduceMod,reduceEqDiff,Nat.reduceBEq]
 refine wp_lp (fun (s:List UInt8) J=>ov [(0,.prim (.string (bs s))),(2,.prim (.string (bs ([]))))] J 0 14) (fun s H=>(strip s=strip l∧s.length≤l.length)∧H=[]) (fun s=>s.length) l rfl ⟨⟨rfl,Nat.le_refl _⟩,rfl⟩ ?_
 rintro s J _ ⟨⟨hs,hle⟩,rfl⟩
 try conv in ov _ _ _ _=>simp only [ov,List.lookup,Option.getD_some,Option.getD_none,Nat.reduceAdd,Nat.reduceBEq]
 rcases s with _|⟨b,s⟩
 ·rw [←hs]
  have e:strip []=[]:=rfl
  have e0:([]:List UInt8).length=0:=rfl
  simp (disch:=omega) only [↓RS,RZ,reduceCtorEq,reduceAdd,reduceLT,reduceLeDiff,List.reduceReplicate,reducePow,reduceDiv,reduceMod,reduceEqDiff,Nat.reduceBEq,e,e0]
 ·simp only [List.length_cons] at hle
  by_cases hb:b=0
  ·subst hb
   have e0:(0:UInt8).toNat=0:=rfl
   simp (disch:=omega) only [↓RS,RZ,reduceCtorEq,reduceAdd,reduceLT,reduceLeDiff,List.reduceReplicate,reducePow,reduceDiv,reduceMod,reduceEqDiff,Nat.reduceBEq,List.length_cons,List.getD_cons_zero,e0,List.take_length,List.take_succ_cons,List.drop_succ_cons,List.drop_zero]
   exact lp_next s rfl ⟨⟨by rw [←hs,strip0],by omega⟩,rfl⟩ (by simp)
  ·have hb':=toNat_ne hb
   rw [←hs,stripP hb]
   simp (disch:=omega) only [↓RS,RZ,reduceCtorEq,reduceAdd,reduceLT,reduceLeDiff,List.reduceReplicate,reducePow,reduceDiv,reduceMod,reduceEqDiff,Nat.reduceBEq,List.length_cons,List.getD_cons_zero]
theorem bval7 {l:List UInt8} {i:Nat} (h:i<l.length) (h7:l.length≤7):bval (l.take i)<281474976710656:=by
 have hb:=bval_lt (l.take i)
 have hlen:(l.take i).length=i:=by simp;omega
 rw [hlen] at hb
 have hp:256^i≤256^6:=Nat.pow_le_pow_right (by decide) (by omega)
 have:(256:Nat)^6=281474976710656:=by decide
 omega
theorem bval_7 {l:List UInt8} (h:l.length≤7):bval l<72057594037927936:=by
 have h1:=bval_lt l
 have hp:256^l.length≤256^7:=Nat.pow_le_pow_right (by decide) h
 have:(256:Nat)^7=72057594037927936:=by decide
 omega
theorem or256 {a b:Nat} (h:b<256):(a*256)|||b=a*256+b:=or_add a b 8 h
theorem rsmall_pc (l:List UInt8) (hs:l.length≤7):PC prog 292 [.prim (.string (bs l))] (.prim (.int .i64 ((bval l:Nat):Int))):=by
 refine PCi ?_
 conv in trip _ _=>cbv
 simp only [runT,RN,Nat.reduceAdd,Nat.reduceSub]
 simp (disch:=omega) only [↓RS,RZ,reduceCtorEq,reduceAdd,reduceLT,reduceLeDiff,List.reduceReplicate,reducePow,reduceDiv,reduceMod,reduceEqDiff,Nat.reduceBEq]
 refine wp_lp (fun (i:Nat) J=>ov [(0,.prim (.string (bs l))),(2,.prim (.int .i64 ((0:Nat):Int))),(3,.prim (.int .i64 ((bval (l.take i):Nat):Int))),(4,.prim (.int .i64 ((i:Nat):Int)))] J 0 19) (fun i H=>i≤l.length∧H=[]) (fun i=>l.length-i) 0 rfl ⟨Nat.zero_le _,rfl⟩ ?_
 rintro i J _ ⟨hi,rfl⟩
 try conv in ov _ _ _ _=>simp only [ov,List.lookup,Option.getD_some,Option.getD_none,Nat.reduceAdd,Nat.reduceBEq]
 rcases Nat.lt_or_ge i l.length with hlt|hge
 ·have hb:=bval7 hlt hs
  have hd:(l.getD i 0).toNat<256:=UInt8.toNat_lt _
  have hv:=bval_take l i hlt
  generalize bval (l.take i)=a at*
  generalize hg:(l.getD i 0).toNat=b at*
  simp (disch:=omega) only [↓RS,RZ,reduceCtorEq,reduceAdd,reduceLT,reduceLeDiff,List.reduceReplicate,reducePow,reduceDiv,reduceMod,reduceEqDiff,Nat.reduceBEq,shl8_i64,ori,or256,hg]
  exact lp_next (i+1) (by rw [hv];rfl) ⟨hlt,rfl⟩ (by omega)
 ·have e:l.take i=l:=List.take_of_length_le hge
  rw [e]
  simp (disch:=omega) only [↓RS,RZ,reduceCtorEq,reduceAdd,reduceLT,reduceLeDiff,List.reduceReplicate,reducePow,reduceDiv,reduceMod,reduceEqDiff,Nat.reduceBEq]
theorem rnumber_pc (l:List UInt8) (hs:l.length≤7):PC prog 264 [.prim (.string (bs l))] (.prim (.int .i64 ((bval l:Nat):Int))):=by
 refine PCi ?_
 conv in trip _ _=>cbv
 simp only [runT,RN,Nat.reduceAdd,Nat.reduceSub]
 simp (disch:=omega) only [↓RS,RZ,reduceCtorEq,reduceAdd,reduceLT,reduceLeDiff,List.reduceReplicate,reducePow,reduceDiv,reduceMod,reduceEqDiff,Nat.reduceBEq]
 refine wp_lp (fun (i:Nat) J=>ov [(0,.prim (.string (bs l))),(2,.prim (.int .i64 ((0:Nat):Int))),(3,.prim (.int .i64 ((bval (l.take i):Nat):Int))),(4,.prim (.int .i64 ((i:Nat):Int)))] J 0 19) (fun i H=>i≤l.length∧H=[]) (fun i=>l.length-i) 0 rfl ⟨Nat.zero_le _,rfl⟩ ?_
 rintro i J _ ⟨hi,rfl⟩
 try conv in ov _ _ _ _=>simp only [ov,List.lookup,Option.getD_some,Option.getD_none,Nat.reduceAdd,Nat.reduceBEq]
 rcases Nat.lt_or_ge i l.length with hlt|hge
 ·have hb:=bval7 hlt hs
  have hd:(l.getD i 0).toNat<256:=UInt8.toNat_lt _
  have hv:=bval_take l i hlt
  generalize bval (l.take i)=a at*
  generalize hg:(l.getD i 0).toNat=b at*
  simp (disch:=omega) only [↓RS,RZ,reduceCtorEq,reduceAdd,reduceLT,reduceLeDiff,List.reduceReplicate,reducePow,reduceDiv,reduceMod,reduceEqDiff,Nat.reduceBEq,hg]
  exact lp_next (i+1) (by rw [hv,Nat.mul_comm a];rfl) ⟨hlt,rfl⟩ (by omega)
 ·have e:l.take i=l:=List.take_of_length_le hge
  rw [e]
  simp (disch:=omega) only [↓RS,RZ,reduceCtorEq,reduceAdd,reduceLT,reduceLeDiff,List.reduceReplicate,reducePow,reduceDiv,reduceMod,reduceEqDiff,Nat.reduceBEq]
end Go.Av
open Nat (reduceAdd reduceLT reduceLeDiff reducePow reduceDiv reduceMod reduceEqDiff)
namespace Go.Av
open Go.RowKit
open Go.Proofs.Tryz (prog)
theorem bytes1 (n:Nat):bytesOf [[.prim (.int .u8 ((n:Nat):Int))]]=some [UInt8.ofNat n]:=by simp [bytesOf]
theorem digitsOf_lt {n:Nat} (h0:n≠0) (h:n<256):digitsOf n=[UInt8.ofNat n]:=by
 rw [digitsOf_pos h0,Nat.div_eq_of_lt h,digitsOf_zero,Nat.mod_eq_of_lt h];rfl
theorem rmag_pc (n:Nat) (h:n<9223372036854775808):PC prog 246 [.prim (.int .i64 ((n:Nat):Int))] (.prim (.string (bs (digitsOf n)))):=by
 refine PCi ?_
 conv in trip _ _=>cbv
 simp only [runT,RN,Nat.reduceAdd,Nat.reduceSub]
 by_cases h0:n=0
 ·subst h0
  rw [digitsOf_zero]
  simp (disch:=omega) only [↓RS,RZ,reduceCtorEq,reduceAdd,reduceLT,reduceLeDiff,List.reduceReplicate,reducePow,reduceDiv,reduceMod,reduceEqDiff,Nat.reduceBEq]
 by_cases h1:n<256
 ·rw [digitsOf_lt h0 h1]
  have hb:=bytes1 n
  simp (disch:=omega) only [↓RS,RZ,reduceCtorEq,reduceAdd,reduceLT,reduceLeDiff,List.reduceReplicate,reducePow,reduceDiv,reduceMod,reduceEqDiff,Nat.reduceBEq,hb]
 simp (disch:=omega) only [↓RS,RZ,reduceCtorEq,reduceAdd,reduceLT,reduceLeDiff,List.reduceReplicate,reducePow,reduceDiv,reduceMod,reduceEqDiff,Nat.reduceBEq]
 refine wp_lp (fun (s:Nat×Nat×List UInt8) J=>ov [(0,.prim (.int .i64 ((s.1:Nat):Int))),(2,.prim (.string (bs ([])))),(3,.ptr 0 0 0),(4,.prim (.int .i64 ((s.2.1:Nat):Int)))] J 0 26) (fun s H=>digitsOf n=digitsOf s.1++s.2.2∧s.2.1+s.2.2.length=8∧s.1<256^s.2.1∧s.1≤n∧H=[some (.row 8 true [tcells s.2.1 s.2.2])]) (fun s=>s.1) (n,8,[]) rfl ⟨by simp,rfl,by simp only [Nat.reducePow];omega,Nat.le_refl _,rfl⟩ ?_
 rintro ⟨m,k,t⟩ J _ ⟨hd,hk,hm,hmn,rfl⟩
 try conv in ov _ _ _ _=>simp only [ov,List.lookup,Option.getD_some,Option.getD_none,Nat.reduceAdd,Nat.reduceBEq]
 simp only at hd hk hm hmn ⊢
 rcases Nat.eq_zero_or_pos m with rfl|hp
 ·rw [digitsOf_zero,List.nil_append] at hd
  rw [hd]
  simp (disch:=omega) only [↓RS,RZ,reduceCtorEq,reduceAdd,reduceLT,reduceLeDiff,List.reduceReplicate,reducePow,reduceDiv,reduceMod,reduceEqDiff,Nat.reduceBEq]
  rw [slP_none]
  unfold wpArr
  simp only [ty_arr8,ty_u8,ev_tmp,List.getD_cons_succ,List.getD_cons_zero,get_zero,sliceV,Option.map_some,Option.map_none,intOfV]
  refine ⟨⟨by omega,by omega,by omega⟩,trivial,by rw [tcells_length];exact hk,tcells_all,?_⟩
  have e:(8:Nat)=k+t.length:=hk.symm
  rw [Int.toNat_natCast,Int.toNat_natCast,e,tcells_slice]
  have hb:=bytesOf_bw t
  simp (disch:=omega) only [↓RS,RZ,reduceCtorEq,reduceAdd,reduceLT,reduceLeDiff,List.reduceReplicate,reducePow,reduceDiv,reduceMod,reduceEqDiff,Nat.reduceBEq,hb]
 ·obtain ⟨k,rfl⟩:∃ j,k=j+1:=by
   rcases k with _|k
   ·simp at hm;omega
   ·exact ⟨k,rfl⟩
  have hw:=tcells_write (k:=k) (t:=t) (b:=UInt8.ofNat (m%256)) (x:= .prim (.int .u8 ((m%256:Nat):Int))) (by simp)
  have hlen:=tcells_length (k:=k+1) (t:=t)
  have hk8:k<8:=by omega
  simp (disch:=omega) only [↓RS,RZ,reduceCtorEq,reduceAdd,reduceLT,reduceLeDiff,List.reduceReplicate,reducePow,reduceDiv,reduceMod,reduceEqDiff,Nat.reduceBEq,ty_arr8,shr8_i64,wrap_nat_u8,hw,hlen]
  refine lp_next (m/256,k,UInt8.ofNat (m%256)::t) rfl ⟨?_,?_,?_,?_,?_⟩ (by simp only;omega)
  ·rw [hd,digitsOf_pos (by omega)];simp
  ·simp only [List.length_cons];omega
  ·simp only;rw [Nat.pow_succ] at hm;omega
  ·simp only;omega
  ·simp only [←hw,Nat.add_sub_cancel,Nat.mul_one]
   rfl
theorem digits_min:digitsOf 9223372036854775808=[128,0,0,0,0,0,0,0]:=by
 have h:=strip_eq [128,0,0,0,0,0,0,0]
 have e:bval [128,0,0,0,0,0,0,0]=9223372036854775808:=by decide
 rw [e] at h;rw [←h];rfl
theorem natOf {n:Int} (h:0≤n):∃ k:Nat,n=(k:Int):=⟨n.toNat,by omega⟩
theorem rof_pc (n:Int) (h1: -9223372036854775808≤n) (h2:n<9223372036854775808):PC prog 176 [.prim (.int .i64 (n))] (cI n):=by
 by_cases h0:0≤n
 ·obtain ⟨k,rfl⟩:=natOf h0
  rw [cI_nat]
  refine PCi ?_
  conv in trip _ _=>cbv
  simp only [runT,RN,Nat.reduceAdd,Nat.reduceSub]
  simp (disch:=omega) only [↓RS,RZ,reduceCtorEq,reduceAdd,reduceLT,reduceLeDiff,List.reduceReplicate,reducePow,reduceDiv,reduceMod,reduceEqDiff,Nat.reduceBEq,iN]
  refine cX (rmag_pc k (by omega)) ?_
  simp (disch:=omega) only [↓RS,RZ,reduceCtorEq,reduceAdd,reduceLT,reduceLeDiff,List.reduceReplicate,reducePow,reduceDiv,reduceMod,reduceEqDiff,Nat.reduceBEq,iN]
 ·by_cases hm:n= -9223372036854775808
  ·subst hm
   have e:cI (-9223372036854775808)=iN true [128,0,0,0,0,0,0,0]:=by
    rw [cI,←digits_min];rfl
   have ew:IntKind.i64.wrap (0- -9223372036854775808)= -9223372036854775808:=by decide
   have eb:((-9223372036854775808:Int)== -9223372036854775808)=true:=rfl
   rw [e]
   refine PCi ?_
   conv in trip _ _=>cbv
   simp only [runT,RN,Nat.reduceAdd,Nat.reduceSub]
   simp (disch:=omega) only [↓RS,RZ,reduceCtorEq,reduceAdd,reduceLT,reduceLeDiff,List.reduceReplicate,reducePow,reduceDiv,reduceMod,reduceEqDiff,Nat.reduceBEq,iN,ew,eb]
  ·obtain ⟨k,rfl⟩:∃ k:Nat,n= -(k:Int):=⟨n.natAbs,by omega⟩
   have e:cI (-(k:Int))=iN true (digitsOf k):=by
    rw [cI,decide_eq_true (by omega),Int.natAbs_neg,Int.natAbs_natCast]
   have e2:(0:Int)- -(k:Int)=(k:Int):=by omega
   rw [e]
   refine PCi ?_
   conv in trip _ _=>cbv
   simp only [runT,RN,Nat.reduceAdd,Nat.reduceSub]
   simp (disch:=omega) only [↓RS,RZ,reduceCtorEq,reduceAdd,reduceLT,reduceLeDiff,List.reduceReplicate,reducePow,reduceDiv,reduceMod,reduceEqDiff,Nat.reduceBEq,iN,e2]
   refine cX (rmag_pc k (by omega)) ?_
   simp (disch:=omega) only [↓RS,RZ,reduceCtorEq,reduceAdd,reduceLT,reduceLeDiff,List.reduceReplicate,reducePow,reduceDiv,reduceMod,reduceEqDiff,Nat.reduceBEq,iN]
theorem rvalue_pc (s:Bool) (l:List UInt8) (hl:l.length≤7):PC prog 267 [iN s l] (.prim (.int .i64 (ival s l))):=by
 have hb:=bval_7 hl
 cases s with
 |true=>
  have e:ival true l=0-((bval l:Nat):Int):=by simp [ival,sg]
  rw [e]
  refine PCi ?_
  conv in trip _ _=>cbv
  simp only [runT,RN,Nat.reduceAdd,Nat.reduceSub]
  simp (disch:=omega) only [↓RS,RZ,reduceCtorEq,reduceAdd,reduceLT,reduceLeDiff,List.reduceReplicate,reducePow,reduceDiv,reduceMod,reduceEqDiff,Nat.reduceBEq,iN]
  refine cX (rsmall_pc l hl) ?_
  simp (disch:=omega) only [↓RS,RZ,reduceCtorEq,reduceAdd,reduceLT,reduceLeDiff,List.reduceReplicate,reducePow,reduceDiv,reduceMod,reduceEqDiff,Nat.reduceBEq]
 |false=>
  have e:ival false l=((bval l:Nat):Int):=by simp [ival,sg]
  rw [e]
  refine PCi ?_
  conv in trip _ _=>cbv
  simp only [runT,RN,Nat.reduceAdd,Nat.reduceSub]
  simp (disch:=omega) only [↓RS,RZ,reduceCtorEq,reduceAdd,reduceLT,reduceLeDiff,List.reduceReplicate,reducePow,reduceDiv,reduceMod,reduceEqDiff,Nat.reduceBEq,iN]
  refine cX (rsmall_pc l hl) ?_
  simp (disch:=omega) only [↓RS,RZ,reduceCtorEq,reduceAdd,reduceLT,reduceLeDiff,List.reduceReplicate,reducePow,reduceDiv,reduceMod,reduceEqDiff,Nat.reduceBEq]
end Go.Av
namespace Go.Av
open Go.RowKit
open Go.Proofs.Tryz (prog)
theorem cI_top {s:Bool} {b:UInt8} {l:List UInt8} (hb:b≠0):cI (ival s (b::l))=iN s (b::l):=by
 have h:=strip_eq (b::l)
 rw [stripP hb] at h
 have h0:bval (b::l)≠0:=by
  intro h0
  rw [h0,digitsOf_zero] at h;cases h
 rw [cI,ival_neg h0,ival_natAbs,←h]
theorem cI_ival {s:Bool} {l:List UInt8}:cI (ival s l)=iN (s&& !(digitsOf (bval l)==[])) (digitsOf (bval l)):=by
 rw [digits_beq]
 by_cases h:bval l=0
 ·rw [ival_zero.2 h,h];simp [cI,digitsOf_zero]
 ·rw [cI,ival_neg h,ival_natAbs];simp [h]
theorem rcan_pc (s:Bool) (l:List UInt8) (hl:l.length<2^36):PC prog 265 [iN s l] (cI (ival s l)):=by
 have ht:=rtrim_pc l (by omega)
 rcases l with _|⟨b,l⟩
 ·rw [cI_ival]
  have e1:digitsOf (bval [])=[]:=digitsOf_zero
  rw [e1] at ht ⊢
  have e0:([]:List UInt8).length=0:=rfl
  cases s<;>(
   refine PCi ?_
   conv in trip _ _=>cbv
   simp only [runT,RN,simprocAttr]
   simp (disch:=omega) only [↓RS,RZ,simprocAttr,iN,e0]
   refine cX ht ?_
   simp (disch:=omega) only [↓RS,RZ,simprocAttr,iN])
 ·simp only [List.length_cons] at hl
  by_cases hb:b=0
  ·subst hb
   have e0:(0:UInt8).toNat=0:=rfl
   rw [cI_ival]
   cases s<;>(
    refine PCi ?_
    conv in trip _ _=>cbv
    simp only [runT,RN,simprocAttr]
    simp (disch:=omega) only [↓RS,RZ,simprocAttr,iN,List.length_cons,List.getD_cons_zero,e0]
    refine cX ht ?_
    simp (disch:=omega) only [↓RS,RZ,simprocAttr,iN])
  ·have hb':=toNat_ne hb
   rw [cI_top hb]
   refine PCi ?_
   conv in trip _ _=>cbv
   simp only [runT,RN,simprocAttr]
   simp (disch:=omega) only [↓RS,RZ,simprocAttr,iN,List.length_cons,List.getD_cons_zero]
theorem bytesLess_bval:∀ (l m:List UInt8),l.length=m.length→Op.bytesLess l m=decide (bval l<bval m)
 |[],[],_=>by simp [Op.bytesLess]
 |[],_::_,h=>by simp at h
 |_::_,[],h=>by simp at h
 |a::l,b::m,h=>by
  simp only [List.length_cons,Nat.add_right_cancel_iff] at h
  have h1:=bval_lt l
  have h2:=bval_lt m
  rw [Op.bytesLess,bytesLess_bval l m h,bval_cons,bval_cons,h]
  rw [h] at h1
  generalize 256^m.length=p at*
  generalize bval l=x at*
  generalize bval m=y at*
  have e1:(a<b)=(a.toNat<b.toNat):=by rw [UInt8.lt_iff_toNat_lt]
  rw [Bool.eq_iff_iff]
  simp only [Bool.or_eq_true,Bool.and_eq_true,decide_eq_true_eq,beq_iff_eq,e1,←UInt8.toNat_inj]
  generalize a.toNat=u at*
  generalize b.toNat=v at*
  rcases Nat.lt_trichotomy u v with hlt|rfl|hgt
  ·have:(u+1)*p≤v*p:=Nat.mul_le_mul_right _ hlt
   rw [Nat.add_mul] at this
   constructor
   ·intro _;omega
   ·intro _;exact .inl hlt
  ·constructor
   ·rintro (h|h)<;>omega
   ·intro h;right;exact ⟨rfl,by omega⟩
  ·have:(v+1)*p≤u*p:=Nat.mul_le_mul_right _ hgt
   rw [Nat.add_mul] at this
   constructor
   ·rintro (h|h)<;>omega
   ·intro h;omega
theorem digits_inj {x y:Nat} (h:digitsOf x=digitsOf y):x=y:=by rw [←bval_digitsOf x,h,bval_digitsOf]
theorem rcmag_pc (x y:Nat) (hx:dl x<2^40) (hy:dl y<2^40):PC prog 266 [.prim (.string (bs (digitsOf x))),.prim (.string (bs (digitsOf y)))] (.prim (.int .i64 (sgn x y))):=by
 rw [←len_dl] at hx hy
 rcases Nat.lt_trichotomy (digitsOf x).length (digitsOf y).length with h|h|h
 ·have hlt:x<y:=by
   refine Nat.lt_of_not_le fun hc=> ?_
   have:=dl_mono hc
   rw [←len_dl,←len_dl] at this;omega
  have e:sgn x y= -1:=by rw [sgn,if_pos hlt]
  rw [e]
  refine PCi ?_
  conv in trip _ _=>cbv
  simp only [runT,RN,simprocAttr]
  simp (disch:=omega) only [↓RS,RZ,simprocAttr]
 ·have e1:=bytesLess_bval _ _ h
  rw [bval_digitsOf,bval_digitsOf] at e1
  rcases Nat.lt_trichotomy x y with hlt|rfl|hgt
  ·have e:sgn x y= -1:=by rw [sgn,if_pos hlt]
   rw [decide_eq_true hlt] at e1
   rw [e]
   refine PCi ?_
   conv in trip _ _=>cbv
   simp only [runT,RN,simprocAttr]
   simp (disch:=omega) only [↓RS,RZ,simprocAttr,e1]
  ·have e:sgn x x=0:=by rw [sgn,if_neg (by omega),if_neg (by omega)]
   rw [decide_eq_false (by omega)] at e1
   have e2:(digitsOf x==digitsOf x)=true:=by simp
   rw [e]
   refine PCi ?_
   conv in trip _ _=>cbv
   simp only [runT,RN,simprocAttr]
   simp (disch:=omega) only [↓RS,RZ,simprocAttr,e1,e2]
  ·have e:sgn x y=1:=by rw [sgn,if_neg (by omega),if_pos hgt]
   rw [decide_eq_false (by omega)] at e1
   have e2:(digitsOf x==digitsOf y)=false:=by
    rw [beq_eq_false_iff_ne];intro hc;have:=digits_inj hc;omega
   rw [e]
   refine PCi ?_
   conv in trip _ _=>cbv
   simp only [runT,RN,simprocAttr]
   simp (disch:=omega) only [↓RS,RZ,simprocAttr,e1,e2]
 ·have hlt:y<x:=by
   refine Nat.lt_of_not_le fun hc=> ?_
   have:=dl_mono hc
   rw [←len_dl,←len_dl] at this;omega
  have e:sgn x y=1:=by rw [sgn,if_neg (by omega),if_pos hlt]
  rw [e]
  refine PCi ?_
  conv in trip _ _=>cbv
  simp only [runT,RN,simprocAttr]
  simp (disch:=omega) only [↓RS,RZ,simprocAttr]
end Go.Av
open Nat (reduceAdd reduceLT reduceLeDiff reducePow reduceDiv reduceMod reduceEqDiff)
namespace Go.Av
open Go.RowKit
open Go.Proofs.Tryz (prog)
def low (l:List UInt8) (j:Nat):Nat:=bval (l.drop (l.length-j))
theorem low_zero (l:List UInt8):low l 0=0:=by simp [low,bval]
theorem low_ge {l:List UInt8} {j:Nat} (h:l.length≤j):low l j=bval l:=by
 rw [low,show l.length-j=0 by omega,List.drop_zero]
theorem low_succ {l:List UInt8} {j:Nat} (h:j<l.length):low l (j+1)=(l.getD (l.length-(j+1)) 0).toNat*256^j+low l j:=by
 unfold low
 have hdr:l.drop (l.length-(j+1))=l.getD (l.length-(j+1)) 0::l.drop (l.length-j):=by
  rw [List.drop_eq_getElem_cons (by omega),List.getD_eq_getElem?_getD,List.getElem?_eq_getElem (by omega),Option.getD_some]
  rw [show l.length-(j+1)+1=l.length-j by omega]
 rw [hdr,bval_cons,List.length_drop,show l.length-(l.length-j)=j by omega]
theorem low_set_hi {l:List UInt8} {j k:Nat} {b:UInt8} (h:k<l.length-j):low (l.set k b) j=low l j:=by
 unfold low
 rw [List.length_set,List.drop_set_of_lt (by omega)]
theorem getD_setU {l:List UInt8} {i:Nat} {x:UInt8} (h:i<l.length):(l.set i x).getD i 0=x:=by
 rw [List.getD_eq_getElem?_getD,List.getElem?_set_self h];rfl
theorem low_set {l:List UInt8} {j:Nat} {b:UInt8} (h:j<l.length):low (l.set (l.length-(j+1)) b) (j+1)=b.toNat*256^j+low l j:=by
 rw [low_succ (by rw [List.length_set];exact h),List.length_set,getD_setU (by omega),low_set_hi (by omega)]
theorem bw_get {l:List UInt8} {k:Nat} (h:k<l.length):(bw l)[k]? =some [.prim (.int .u8 (((l.getD k 0).toNat:Nat):Int))]:=by
 simp [bw,List.getD_eq_getElem?_getD,List.getElem?_eq_getElem h]
theorem bw_set {l:List UInt8} {k x:Nat}:(bw l).set k [.prim (.int .u8 ((x%256:Nat):Int))]=bw (l.set k (UInt8.ofNat x)):=by
 simp [bw,List.map_set]
theorem bw_setL {l:List UInt8} {k x:Nat} (h:x<256):(bw l).set k [.prim (.int .u8 ((x:Nat):Int))]=bw (l.set k (UInt8.ofNat x)):=by
 have:= @bw_set l k x
 rwa [Nat.mod_eq_of_lt h] at this
theorem bw_zeros (n:Nat):List.replicate n [V.prim (.int .u8 0)]=bw (List.replicate n 0):=by simp [bw]
structure AddMInv (l m:List UInt8) (n:Nat) (x:Nat×Nat×List UInt8) (H:Hp):Prop where
 j:x.1≤n
 c:x.2.1≤1
 t:x.2.2.length=n
 v:low x.2.2 x.1+256^x.1*x.2.1=low l x.1+low m x.1
 H:H=[some (.row 1 true (bw x.2.2))]
theorem addM_step {p q A B c x y s:Nat} (hv:q+p*c=A+B) (h:c+x+y=s):s%256*p+q+p*256*(s/256)=x*p+A+(y*p+B):=by
 have h1:s=s%256+256*(s/256):=(Nat.mod_add_div s 256).symm
 have e1:p*s=p*(s%256)+p*(256*(s/256)):=by rw [←Nat.mul_add,←h1]
 have e2:p*s=p*c+p*x+p*y:=by rw [←h,Nat.mul_add,Nat.mul_add]
 rw [Nat.mul_comm (s%256),Nat.mul_comm x,Nat.mul_comm y,Nat.mul_assoc p]
 omega
theorem addM_inv {l m t:List UInt8} {n j c x y s:Nat} (hj:j<n) (ht:t.length=n) (hv:low t j+256^j*c=low l j+low m j) (h1:low l (j+1)=x*256^j+low l j) (h2:low m (j+1)=y*256^j+low m j)
 (hs:c+x+y=s) (hs2:s<512):AddMInv l m n (j+1,s/256,t.set (n-(j+1)) (UInt8.ofNat s)) [some (.row 1 true (bw (t.set (n-(j+1)) (UInt8.ofNat s))))]:=by
 refine ⟨hj,by simp only;omega,by rw [List.length_set];exact ht,?_,rfl⟩
 try simp only
 rw [←ht,low_set (by omega),h1,h2,Nat.pow_succ]
 have e:(UInt8.ofNat s).toNat=s%256:=by simp
 rw [e]
 exact addM_step hv hs
theorem raddm_pc (l m:List UInt8) (hl:l.length<2^38) (hm:m.length<2^38):PC prog 288 [.prim (.string (bs l)),.prim (.string (bs m))] (.prim (.string (bs (digitsOf (bval l+bval m))))):=by
 obtain ⟨n,hn⟩:∃ n,n=max l.length m.length:=⟨_,rfl⟩
 have hmax:(if l.length<m.length then ((m.length:Nat):Int) else ((l.length:Nat):Int))=((n:Nat):Int):=by split<;>omega
 have hnl:l.length≤n:=by omega
 have hnm:m.length≤n:=by omega
 have hn38:n<2^38:=by omega
 refine PCi ?_
 conv in trip _ _=>cbv
 simp only [runT,RN,Nat.reduceAdd,Nat.reduceSub]
 simp (disch:=omega) only [↓RS,RZ,reduceCtorEq,reduceAdd,reduceLT,reduceLeDiff,List.reduceReplicate,reducePow,reduceDiv,reduceMod,reduceEqDiff,Nat.reduceBEq,hmax,bw_zeros]
 refine wp_lp (fun (x:Nat×Nat×List UInt8) J=>ov [(0,.prim (.string (bs l))),(1,.prim (.string (bs m))),(4,.prim (.string (bs ([])))),(5,.prim (.int .i64 ((n+1:Nat):Int))),(6,.sref 0 0 (n+1) (n+1) 1 true),(7,.prim (.int .i64 ((x.2.1:Nat):Int))),(8,.prim (.int .i64 ((x.1+1:Nat):Int)))] J 0 60)
  (AddMInv l m (n+1)) (fun x=>n+1-x.1) (0,0,List.replicate (n+1) 0) rfl
  ⟨Nat.zero_le _,Nat.zero_le _,by simp,by simp [low_zero],rfl⟩ ?_
 rintro ⟨j,c,t⟩ J H ⟨hj,hc,ht,hv,rfl⟩
 try conv in ov _ _ _ _=>simp only [ov,List.lookup,Option.getD_some,Option.getD_none,Nat.reduceAdd,Nat.reduceBEq]
 simp only at hj hc ht hv ⊢
 rcases Nat.lt_or_ge j (n+1) with hlt|hge
 ·have g3:=bw_get (l:=t) (k:=n+1-(j+1)) (by omega)
  by_cases h1:j<l.length
  ·have e1:=low_succ h1
   have b1:(l.getD (l.length-(j+1)) 0).toNat<256:=UInt8.toNat_lt _
   generalize hx:(l.getD (l.length-(j+1)) 0).toNat=x at*
   by_cases h2:j<m.length
   ·have e2:=low_succ h2
    have b2:(m.getD (m.length-(j+1)) 0).toNat<256:=UInt8.toNat_lt _
    generalize hy:(m.getD (m.length-(j+1)) 0).toNat=y at*
    simp (disch:=omega) only [↓RS,RZ,reduceCtorEq,reduceAdd,reduceLT,reduceLeDiff,List.reduceReplicate,reducePow,reduceDiv,reduceMod,reduceEqDiff,Nat.reduceBEq,bw_length,hx,hy,g3,wrap_nat_u8,shr8_i64,bw_set]
    exact lp_next (j+1,(c+x+y)/256,t.set (n+1-(j+1)) (UInt8.ofNat (c+x+y))) rfl (addM_inv hlt ht hv e1 e2 rfl (by omega)) (by simp only;omega)
   ·have e2:low m (j+1)=0*256^j+low m j:=by rw [low_ge (by omega),low_ge (by omega)];omega
    simp (disch:=omega) only [↓RS,RZ,reduceCtorEq,reduceAdd,reduceLT,reduceLeDiff,List.reduceReplicate,reducePow,reduceDiv,reduceMod,reduceEqDiff,Nat.reduceBEq,bw_length,hx,g3,wrap_nat_u8,shr8_i64,bw_set]
    exact lp_next (j+1,(c+x)/256,t.set (n+1-(j+1)) (UInt8.ofNat (c+x))) rfl (addM_inv hlt ht hv e1 e2 rfl (by omega)) (by simp only;omega)
  ·have e1:low l (j+1)=0*256^j+low l j:=by rw [low_ge (by omega),low_ge (by omega)];omega
   by_cases h2:j<m.length
   ·have e2:=low_succ h2
    have b2:(m.getD (m.length-(j+1)) 0).toNat<256:=UInt8.toNat_lt _
    generalize hy:(m.getD (m.length-(j+1)) 0).toNat=y at*
    simp (disch:=omega) only [↓RS,RZ,reduceCtorEq,reduceAdd,reduceLT,reduceLeDiff,List.reduceReplicate,reducePow,reduceDiv,reduceMod,reduceEqDiff,Nat.reduceBEq,bw_length,hy,g3,wrap_nat_u8,shr8_i64,bw_set]
    exact lp_next (j+1,(c+y)/256,t.set (n+1-(j+1)) (UInt8.ofNat (c+y))) rfl (addM_inv (s:=c+y) hlt ht hv e1 e2 (by omega) (by omega)) (by simp only;omega)
   ·have e2:low m (j+1)=0*256^j+low m j:=by rw [low_ge (by omega),low_ge (by omega)];omega
    have hbs:= @bw_setL t (n+1-(j+1)) c (by omega)
    simp (disch:=omega) only [↓RS,RZ,reduceCtorEq,reduceAdd,reduceLT,reduceLeDiff,List.reduceReplicate,reducePow,reduceDiv,reduceMod,reduceEqDiff,Nat.reduceBEq,bw_length,g3,shr8_i64,hbs]
    exact lp_next (j+1,c/256,t.set (n+1-(j+1)) (UInt8.ofNat c)) rfl (addM_inv (s:=c) hlt ht hv e1 e2 (by omega) (by omega)) (by simp only;omega)
 ·have hjn:j=n+1:=by omega
  subst hjn
  rw [low_ge (by omega),low_ge (by omega),low_ge (by omega)] at hv
  have hval:bval t=bval l+bval m:=by
   have h1:=bval_lt l
   have h2:=bval_lt m
   have p1:256^l.length≤256^n:=Nat.pow_le_pow_right (by decide) hnl
   have p2:256^m.length≤256^n:=Nat.pow_le_pow_right (by decide) hnm
   rw [Nat.pow_succ] at hv
   rcases Nat.lt_or_ge c 1 with h|h
   ·have:c=0:=by omega
    subst this;omega
   ·have:c=1:=by omega
    subst this;omega
  have htr:=rtrim_pc t (by omega)
  rw [hval] at htr
  have hb:=bytesOf_bw t
  have htk:(bw t).take (n+1)=bw t:=List.take_of_length_le (by rw [bw_length];omega)
  simp (disch:=omega) only [↓RS,RZ,reduceCtorEq,reduceAdd,reduceLT,reduceLeDiff,List.reduceReplicate,reducePow,reduceDiv,reduceMod,reduceEqDiff,Nat.reduceBEq,bw_length,ht,htk,hb]
  refine cX htr ?_
  simp (disch:=omega) only [↓RS,RZ,reduceCtorEq,reduceAdd,reduceLT,reduceLeDiff,List.reduceReplicate,reducePow,reduceDiv,reduceMod,reduceEqDiff,Nat.reduceBEq]
structure SubMInv (l m:List UInt8) (x:Nat×Nat×List UInt8) (H:Hp):Prop where
 j:x.1≤l.length
 c:x.2.1≤1
 t:x.2.2.length=l.length
 v:low x.2.2 x.1+low m x.1=low l x.1+256^x.1*x.2.1
 H:H=[some (.row 1 true (bw x.2.2))]
theorem subM_step {p q A B c d x y w:Nat} (hv:q+B=A+p*c) (h:d+y+c=x+256*w):d*p+q+(y*p+B)=x*p+A+p*256*w:=by
 have e:p*(d+y+c)=p*(x+256*w):=by rw [h]
 rw [Nat.mul_add,Nat.mul_add,Nat.mul_add,←Nat.mul_assoc] at e
 rw [Nat.mul_comm d,Nat.mul_comm y,Nat.mul_comm x]
 omega
theorem subM_inv {l m t:List UInt8} {j c d x y w:Nat} (hj:j<l.length) (ht:t.length=l.length) (hv:low t j+low m j=low l j+256^j*c) (h1:low l (j+1)=x*256^j+low l j) (h2:low m (j+1)=y*256^j+low m j)
 (hs:d+y+c=x+256*w) (hw:w≤1) (hd:d<256):SubMInv l m (j+1,w,t.set (l.length-(j+1)) (UInt8.ofNat d)) [some (.row 1 true (bw (t.set (l.length-(j+1)) (UInt8.ofNat d))))]:=by
 refine ⟨hj,hw,by rw [List.length_set];exact ht,?_,rfl⟩
 try simp only
 rw [←ht,low_set (by omega),h1,h2,Nat.pow_succ]
 have e:(UInt8.ofNat d).toNat=d:=by simp;omega
 rw [e]
 exact subM_step hv hs
theorem rsubm_pc (l m:List UInt8) (hl:l.length<2^38) (hle:bval m≤bval l) (hml:m.length≤l.length):PC prog 289 [.prim (.string (bs l)),.prim (.string (bs m))] (.prim (.string (bs (digitsOf (bval l-bval m))))):=by
 refine PCi ?_
 conv in trip _ _=>cbv
 simp only [runT,RN,Nat.reduceAdd,Nat.reduceSub]
 simp (disch:=omega) only [↓RS,RZ,reduceCtorEq,reduceAdd,reduceLT,reduceLeDiff,List.reduceReplicate,reducePow,reduceDiv,reduceMod,reduceEqDiff,Nat.reduceBEq,bw_zeros]
 refine wp_lp (fun (x:Nat×Nat×List UInt8) J=>ov [(0,.prim (.string (bs l))),(1,.prim (.string (bs m))),(4,.prim (.string (bs ([])))),(5,.sref 0 0 l.length l.length 1 true),(6,.prim (.int .i64 ((x.2.1:Nat):Int))),(7,.prim (.int .i64 ((x.1+1:Nat):Int)))] J 0 55)
  (SubMInv l m) (fun x=>l.length-x.1) (0,0,List.replicate l.length 0) rfl
  ⟨Nat.zero_le _,Nat.zero_le _,by simp,by simp [low_zero],rfl⟩ ?_
 rintro ⟨j,c,t⟩ J H ⟨hj,hc,ht,hv,rfl⟩
 try conv in ov _ _ _ _=>simp only [ov,List.lookup,Option.getD_some,Option.getD_none,Nat.reduceAdd,Nat.reduceBEq]
 simp only at hj hc ht hv ⊢
 rcases Nat.lt_or_ge j l.length with hlt|hge
 ·have g3:=bw_get (l:=t) (k:=l.length-(j+1)) (by omega)
  have e1:=low_succ hlt
  have b1:(l.getD (l.length-(j+1)) 0).toNat<256:=UInt8.toNat_lt _
  generalize hx:(l.getD (l.length-(j+1)) 0).toNat=x at*
  by_cases h2:j<m.length
  ·have e2:=low_succ h2
   have b2:(m.getD (m.length-(j+1)) 0).toNat<256:=UInt8.toNat_lt _
   generalize hy:(m.getD (m.length-(j+1)) 0).toNat=y at*
   by_cases hneg:x<c+y
   ·obtain ⟨d,hd⟩:∃ d:Nat,(x:Int)-c-y+256=(d:Int):=⟨((x:Int)-c-y+256).toNat,by omega⟩
    have hd2:d<256:=by omega
    have hbs:= @bw_setL t (l.length-(j+1)) d hd2
    simp (disch:=omega) only [↓RS,RZ,reduceCtorEq,reduceAdd,reduceLT,reduceLeDiff,List.reduceReplicate,reducePow,reduceDiv,reduceMod,reduceEqDiff,Nat.reduceBEq,bw_length,hx,hy,g3,hd,wrap_u8,hbs]
    exact lp_next (j+1,1,t.set (l.length-(j+1)) (UInt8.ofNat d)) rfl (subM_inv (w:=1) hlt ht hv e1 e2 (by omega) (by omega) hd2) (by simp only;omega)
   ·have hd2:x-c-y<256:=by omega
    have hbs:= @bw_setL t (l.length-(j+1)) (x-c-y) hd2
    simp (disch:=omega) only [↓RS,RZ,reduceCtorEq,reduceAdd,reduceLT,reduceLeDiff,List.reduceReplicate,reducePow,reduceDiv,reduceMod,reduceEqDiff,Nat.reduceBEq,bw_length,hx,hy,g3,wrap_u8,hbs]
    exact lp_next (j+1,0,t.set (l.length-(j+1)) (UInt8.ofNat (x-c-y))) rfl (subM_inv (w:=0) hlt ht hv e1 e2 (by omega) (by omega) hd2) (by simp only;omega)
  ·have e2:low m (j+1)=0*256^j+low m j:=by rw [low_ge (by omega),low_ge (by omega)];omega
   by_cases hneg:x<c
   ·obtain ⟨d,hd⟩:∃ d:Nat,(x:Int)-c+256=(d:Int):=⟨((x:Int)-c+256).toNat,by omega⟩
    have hd2:d<256:=by omega
    have hbs:= @bw_setL t (l.length-(j+1)) d hd2
    simp (disch:=omega) only [↓RS,RZ,reduceCtorEq,reduceAdd,reduceLT,reduceLeDiff,List.reduceReplicate,reducePow,reduceDiv,reduceMod,reduceEqDiff,Nat.reduceBEq,bw_length,hx,g3,hd,wrap_u8,hbs]
    exact lp_next (j+1,1,t.set (l.length-(j+1)) (UInt8.ofNat d)) rfl (subM_inv (w:=1) hlt ht hv e1 e2 (by omega) (by omega) hd2) (by simp only;omega)
   ·obtain ⟨d,hd⟩:∃ d:Nat,(x:Int)-c=(d:Int):=⟨((x:Int)-c).toNat,by omega⟩
    have hd2:d<256:=by omega
    have hbs:= @bw_setL t (l.length-(j+1)) d hd2
    simp (disch:=omega) only [↓RS,RZ,reduceCtorEq,reduceAdd,reduceLT,reduceLeDiff,List.reduceReplicate,reducePow,reduceDiv,reduceMod,reduceEqDiff,Nat.reduceBEq,bw_length,hx,g3,hd,wrap_u8,hbs]
    exact lp_next (j+1,0,t.set (l.length-(j+1)) (UInt8.ofNat d)) rfl (subM_inv (w:=0) hlt ht hv e1 e2 (by omega) (by omega) hd2) (by simp only;omega)
 ·have hjn:j=l.length:=by omega
  subst hjn
  rw [low_ge (by omega),low_ge (by omega),low_ge (by omega)] at hv
  have hval:bval t=bval l-bval m:=by
   have h1:=bval_lt t
   rw [ht] at h1
   rcases Nat.lt_or_ge c 1 with h|h
   ·have:c=0:=by omega
    subst this;omega
   ·have:c=1:=by omega
    subst this;omega
  have htr:=rtrim_pc t (by omega)
  rw [hval] at htr
  have hb:=bytesOf_bw t
  have htk:(bw t).take l.length=bw t:=List.take_of_length_le (by rw [bw_length];omega)
  simp (disch:=omega) only [↓RS,RZ,reduceCtorEq,reduceAdd,reduceLT,reduceLeDiff,List.reduceReplicate,reducePow,reduceDiv,reduceMod,reduceEqDiff,Nat.reduceBEq,bw_length,ht,htk,hb]
  refine cX htr ?_
  simp (disch:=omega) only [↓RS,RZ,reduceCtorEq,reduceAdd,reduceLT,reduceLeDiff,List.reduceReplicate,reducePow,reduceDiv,reduceMod,reduceEqDiff,Nat.reduceBEq]
end Go.Av
