/- Helping texts: Ck, Cl. -/
import Derived.Test.YtkmlhdfpcjkekaaGreatKCi
set_option linter.unusedSimpArgs false
set_option linter.unusedVariables false
set_option maxRecDepth 100000
set_option maxHeartbeats 16000000
open Nat (reduceAdd reduceLT reduceLeDiff reducePow reduceDiv reduceMod reduceEqDiff)
namespace Go.Av
open Go.RowKit
open Go.Proofs.Tryz (prog)
def dl (n:Nat):Nat:=(digitsOf n).length
theorem dl_le {n k:Nat} (h:n<256^k):dl n≤k:=by
 unfold dl
 induction k generalizing n with
 |zero=>have:n=0:=by simpa using h
        subst this;rw [digitsOf_zero];simp
 |succ k ih=>
  by_cases hn:n=0
  ·subst hn;rw [digitsOf_zero];simp
  ·rw [digitsOf_pos hn,List.length_append]
   have:=ih (n:=n/256) (Nat.div_lt_of_lt_mul (by rw [Nat.pow_succ,Nat.mul_comm] at h;exact h))
   simp;omega
theorem lt_dl (n:Nat):n<256^dl n:=by
 have:=bval_lt (digitsOf n)
 rwa [bval_digitsOf] at this
theorem dl_mono {m n:Nat} (h:m≤n):dl m≤dl n:=dl_le (Nat.lt_of_le_of_lt h (lt_dl n))
theorem dl_mul (m n:Nat):dl (m*n)≤dl m+dl n:=dl_le (by rw [Nat.pow_add];exact Nat.mul_lt_mul_of_lt_of_lt (lt_dl m) (lt_dl n))
theorem dl_add (m n:Nat):dl (m+n)≤max (dl m) (dl n)+1:=by
 refine dl_le ?_
 have h1:=Nat.lt_of_lt_of_le (lt_dl m) (Nat.pow_le_pow_right (by omega:0<256) (Nat.le_max_left (dl m) (dl n)))
 have h2:=Nat.lt_of_lt_of_le (lt_dl n) (Nat.pow_le_pow_right (by omega:0<256) (Nat.le_max_right (dl m) (dl n)))
 rw [Nat.pow_succ];omega
theorem dl_bval (l:List UInt8):dl (bval l)≤l.length:=dl_le (bval_lt l)
theorem limbs_dl (n:Nat):(limbsOf n).length≤dl n:=limbsOf_length_le (Nat.lt_of_lt_of_le (lt_dl n) (Nat.pow_le_pow_left (by omega) _))
theorem limbs_len (l:List UInt8):(limbsOf (bval l)).length≤l.length:=Nat.le_trans (limbs_dl _) (dl_bval l)
theorem digits_beq (n:Nat):(digitsOf n==[])=decide (n=0):=by
 by_cases h:n=0
 ·subst h;rw [digitsOf_zero];rfl
 ·rw [digitsOf_pos h];simp [h]
def iN (neg:Bool) (l:List UInt8):V:= .agg [.prim (.bool neg),.prim (.string (bs l))]
def sg (neg:Bool) (n:Nat):Int:=if neg then-(n:Int) else n
def ival (neg:Bool) (l:List UInt8):Int:=sg neg (bval l)
def cI (z:Int):V:=iN (decide (z<0)) (digitsOf z.natAbs)
theorem pack_pc (neg:Bool) (l:List Nat) (hl:l.length<2^39) (hL:Limb l):PC prog 157 [.prim (.bool neg),.lst 1 (lw l)] (cI (sg neg (lval l))):=by
 refine PCi ?_
 conv in trip _ _=>cbv
 simp only [runT,RN,Nat.reduceAdd,Nat.reduceSub]
 simp (maxSteps:=2000000) (disch:=omega) only [↓RS,RY,reduceCtorEq,reduceAdd,reduceLT,reduceLeDiff,List.reduceReplicate]
 refine call_pc (trim_pc l (by omega)) (.inl rfl) ?_
 rw [trim_eq hL]
 simp (maxSteps:=2000000) (disch:=omega) only [↓RS,RY,reduceCtorEq,reduceAdd,reduceLT,reduceLeDiff,List.reduceReplicate]
 have h:=store_pc (limbsOf (lval l)) (by have:=limbsOf_length_le (lval_lt hL);omega) (limb_limbsOf _)
 rw [lval_limbsOf] at h
 refine call_pc h (.inl rfl) ?_
 cases neg with
 |true=>
  simp (maxSteps:=2000000) (disch:=omega) only [↓RS,RY,reduceCtorEq,reduceAdd,reduceLT,reduceLeDiff,List.reduceReplicate,digits_beq]
  have e:(!decide (lval l=0))=decide (sg true (lval l)<0):=by
   by_cases h:lval l=0<;>simp [sg,h];omega
  have e2:(sg true (lval l)).natAbs=lval l:=by simp [sg]
  simp (maxSteps:=2000000) (disch:=omega) only [↓RS,RY,reduceCtorEq,reduceAdd,reduceLT,reduceLeDiff,List.reduceReplicate,cI,iN,e,e2]
 |false=>
  simp (maxSteps:=2000000) (disch:=omega) only [↓RS,RY,reduceCtorEq,reduceAdd,reduceLT,reduceLeDiff,List.reduceReplicate]
  have e:false=decide (sg false (lval l)<0):=by simp [sg]
  have e2:(sg false (lval l)).natAbs=lval l:=by simp [sg]
  simp (maxSteps:=2000000) (disch:=omega) only [↓RS,RY,reduceCtorEq,reduceAdd,reduceLT,reduceLeDiff,List.reduceReplicate,cI,iN,←e,e2]
theorem of_pc (n:Int) (h1: -9223372036854775808≤n) (h2:n<9223372036854775808):PC prog 93 [.prim (.int .i64 (n))] (cI n):=by
 refine PCi ?_
 conv in trip _ _=>cbv
 simp only [runT,RN,Nat.reduceAdd,Nat.reduceSub]
 have fin:∀ a b:Nat,a<4294967296→b<4294967296→PC prog 157 [.prim (.bool (decide (n<0))),.lst 1 [[.prim (.int .u32 ((a:Nat):Int))],[.prim (.int .u32 ((b:Nat):Int))]]] (cI (sg (decide (n<0)) (a+4294967296*b))):=by
  intro a b ha hb
  have h:=pack_pc (decide (n<0)) [a,b] (by simp only [List.length_cons,List.length_nil];omega) (fun x hx=>by simp at hx;omega)
  simpa only [lval,lw,List.map_cons,List.map_nil,Nat.mul_zero,Nat.add_zero] using h
 by_cases hn:n<0
 ·obtain ⟨m,rfl⟩:∃ m:Nat,n= -(m:Int):=⟨n.natAbs,by omega⟩
  have e1:IntKind.u64.wrap (-(m:Int))=((18446744073709551616-m:Nat):Int):=by rw [wrap_u64'];omega
  have e2:IntKind.u64.wrap (0-((18446744073709551616-m:Nat):Int))=(m:Int):=by rw [wrap_u64'];omega
  have hd:decide (-(m:Int)<0)=true:=by simp;omega
  rw [hd] at fin
  simp (maxSteps:=2000000) (disch:=omega) only [↓RS,RY,reduceCtorEq,reduceAdd,reduceLT,reduceLeDiff,List.reduceReplicate,e1,e2,shr32_u64]
  refine call_pc (fin (m%4294967296) (m/4294967296) (Nat.mod_lt _ (by omega)) (by omega)) (.inr rfl) ?_
  have e3:sg true (m%4294967296+4294967296*(m/4294967296))= -(m:Int):=by rw [Nat.mod_add_div];rfl
  rw [e3]
  simp (maxSteps:=2000000) (disch:=omega) only [↓RS,RY,reduceCtorEq,reduceAdd,reduceLT,reduceLeDiff,List.reduceReplicate,cI,iN]
 ·obtain ⟨m,rfl⟩:∃ m:Nat,n=(m:Int):=⟨n.natAbs,by omega⟩
  have hd:decide ((m:Int)<0)=false:=by simp
  rw [hd] at fin
  simp (maxSteps:=2000000) (disch:=omega) only [↓RS,RY,reduceCtorEq,reduceAdd,reduceLT,reduceLeDiff,List.reduceReplicate,shr32_u64]
  refine call_pc (fin (m%4294967296) (m/4294967296) (Nat.mod_lt _ (by omega)) (by omega)) (.inr rfl) ?_
  have e3:sg false (m%4294967296+4294967296*(m/4294967296))=(m:Int):=by rw [Nat.mod_add_div];rfl
  rw [e3]
  simp (maxSteps:=2000000) (disch:=omega) only [↓RS,RY,reduceCtorEq,reduceAdd,reduceLT,reduceLeDiff,List.reduceReplicate,cI,iN]
theorem bval_take_lt (l:List UInt8) (i:Nat):bval (l.take i)<256^i:=Nat.lt_of_lt_of_le (bval_lt _) (Nat.pow_le_pow_right (by omega) (by rw [List.length_take];omega))
theorem u8_lt (l:List UInt8) (i:Nat):(l.getD i 0).toNat<256:=UInt8.toNat_lt _
theorem little_pc (neg:Bool) (l:List UInt8):PC prog 221 [iN neg l] (.tup [.prim (.int .i64 (if l.length≤7 then ival neg l else 0)),.prim (.bool (decide (l.length≤7)))]):=by
 refine PCi ?_
 conv in trip _ _=>cbv
 simp only [runT,RN,Nat.reduceAdd,Nat.reduceSub]
 rcases Nat.lt_or_ge 7 l.length with h7|h7
 ·have e:¬l.length≤7:=by omega
  simp (maxSteps:=2000000) (disch:=omega) only [↓RS,RY,reduceCtorEq,reduceAdd,reduceLT,reduceLeDiff,List.reduceReplicate,iN,if_neg e]
 ·have hb:bval l<256^7:=Nat.lt_of_lt_of_le (bval_lt l) (Nat.pow_le_pow_right (by omega) h7)
  simp only [Nat.reducePow] at hb
  simp (maxSteps:=2000000) (disch:=omega) only [↓RS,RY,reduceCtorEq,reduceAdd,reduceLT,reduceLeDiff,List.reduceReplicate,iN]
  refine wp_lp (fun (i:Nat) J=>ov [(1,.ptr 0 0 0),(2,.prim (.int .i64 (0))),(3,.prim (.bool false)),(4,.prim (.int .i64 ((bval (l.take i):Nat):Int))),(12,.prim (.int .i64 ((l.length:Nat):Int))),(13,.prim (.int .i64 ((i:Nat):Int)))] J 0 30)
   (fun i H=>i≤l.length∧H=[some (.row 2 true [[.prim (.bool neg),.prim (.string (bs l))]])]) (fun i=>l.length-i) 0 rfl ⟨Nat.zero_le _,rfl⟩ ?_
  rintro i J _ ⟨hi,rfl⟩
  try conv in ov _ _ _ _=>simp only [ov,List.lookup,Option.getD_some,Option.getD_none,Nat.reduceAdd,Nat.reduceBEq]
  rcases Nat.lt_or_ge i l.length with hlt|hge
  ·have h1:=bval_take l i hlt
   have h2:=bval_take_lt l i
   have h3:=u8_lt l i
   have h4:bval (l.take i)*256+(l.getD i 0).toNat<256^7:=by
    rw [←h1];exact Nat.lt_of_lt_of_le (bval_take_lt l (i+1)) (Nat.pow_le_pow_right (by omega) (by omega))
   simp only [Nat.reducePow] at h4
   simp (maxSteps:=2000000) (disch:=omega) only [↓RS,RY,reduceCtorEq,reduceAdd,reduceLT,reduceLeDiff,List.reduceReplicate,shl8_i64,ori,or_add8]
   exact lp_next (i+1) (by rw [h1];rfl) ⟨hlt,rfl⟩ (by omega)
  ·have hia:i=l.length:=by omega
   subst hia
   rw [List.take_length]
   have e:l.length≤7:=h7
   cases neg with
   |true=>
    have e2:(0:Int)-(bval l:Nat)=ival true l:=by simp [ival,sg]
    simp (maxSteps:=2000000) (disch:=omega) only [↓RS,RY,reduceCtorEq,reduceAdd,reduceLT,reduceLeDiff,List.reduceReplicate,if_pos e,e2]
   |false=>
    have e2:((bval l:Nat):Int)=ival false l:=by simp [ival,sg]
    simp (maxSteps:=2000000) (disch:=omega) only [↓RS,RY,reduceCtorEq,reduceAdd,reduceLT,reduceLeDiff,List.reduceReplicate,if_pos e,e2]
end Go.Av
namespace Go.Av
open Go.RowKit
open Go.Proofs.Tryz (prog)
theorem sg_mul (s t:Bool) (m n:Nat):sg (s !=t) (m*n)=sg s m*sg t n:=by
 cases s<;>cases t<;>simp [sg,Int.neg_mul,Int.mul_neg]
theorem eqA_bool {n:Nat} {a b:Bool}:eqA (tyOf prog) (n+1) 4 (.prim (.bool a)) (.prim (.bool b))=some (a==b):=by
 simp only [eqA,RT]
theorem eqA_bool9 {a b:Bool}:eqA (tyOf prog) 9 4 (.prim (.bool a)) (.prim (.bool b))=some (a==b):=eqA_bool
theorem not_beq {a b:Bool}:(!(a==b))=(a !=b):=rfl
theorem mul_pc (s t:Bool) (l m:List UInt8) (hl:l.length<2^36) (hm:m.length<2^36):PC prog 121 [iN s l,iN t m] (cI (ival s l*ival t m)):=by
 refine PCi ?_
 conv in trip _ _=>cbv
 simp only [runT,RN,simprocAttr]
 have h1:=limbs_len l
 have h2:=limbs_len m
 have h3:=dl_mul (bval l) (bval m)
 have h4:=limbs_dl (bval l*bval m)
 have h5:=dl_bval l
 have h6:=dl_bval m
 simp (disch:=omega) only [↓RS,RZ,simprocAttr,iN,eqA_bool9,not_beq]
 refine cX (load_pc l (by omega)) ?_
 simp (disch:=omega) only [↓RS,RZ,simprocAttr]
 refine cX (load_pc m (by omega)) ?_
 simp (disch:=omega) only [↓RS,RZ,simprocAttr]
 have h:=times_pc (limbsOf (bval l)) (limbsOf (bval m)) (by omega) (by omega) (limb_limbsOf _) (limb_limbsOf _)
 rw [lval_limbsOf,lval_limbsOf] at h
 refine cX h ?_
 simp (disch:=omega) only [↓RS,RZ,simprocAttr]
 have h:=pack_pc (s !=t) (limbsOf (bval l*bval m)) (by omega) (limb_limbsOf _)
 rw [lval_limbsOf,sg_mul] at h
 refine cX h ?_
 simp (disch:=omega) only [↓RS,RZ,simprocAttr,cI,iN,ival]
 rfl
theorem sg_neg (s:Bool) (n:Nat):sg (!s) n= -sg s n:=by cases s<;>simp [sg]
theorem neg_pc (s:Bool) (l:List UInt8) (hl:l.length<2^36):PC prog 156 [iN s l] (cI (-ival s l)):=by
 refine PCi ?_
 conv in trip _ _=>cbv
 simp only [runT,RN,simprocAttr]
 have h1:=limbs_len l
 simp (disch:=omega) only [↓RS,RZ,simprocAttr,iN]
 refine cX (load_pc l (by omega)) ?_
 simp (disch:=omega) only [↓RS,RZ,simprocAttr]
 have h:=pack_pc (!s) (limbsOf (bval l)) (by omega) (limb_limbsOf _)
 rw [lval_limbsOf,sg_neg] at h
 refine cX h ?_
 simp (disch:=omega) only [↓RS,RZ,simprocAttr,cI,iN,ival]
 rfl
def cmpI (a b:Int):Int:=if a<b then-1 else if b<a then 1 else 0
theorem limbs_len0 {n:Nat} (h:n=0):(limbsOf n).length=0:=by subst h;rw [limbsOf_zero];rfl
theorem limbs_lenpos {n:Nat} (h:0<n):0<(limbsOf n).length:=by
 obtain ⟨k,h1,_⟩:=limbsOf_top (by omega:n≠0);omega
theorem limbs_mono {m n:Nat} (h:m≤n):(limbsOf m).length≤(limbsOf n).length:=limbsOf_length_le (Nat.lt_of_le_of_lt h (lt_limbsOf n))
theorem int_eq {a b:Int} (h:a=b):some (V.prim (Value.int .i64 a))=some (V.prim (Value.int .i64 b)):=by rw [h]
theorem compareI_pc (s t:Bool) (l m:List UInt8) (hl:l.length<2^36) (hm:m.length<2^36):PC prog 120 [iN s l,iN t m] (.prim (.int .i64 (cmpI (ival s l) (ival t m)))):=by
 refine PCi ?_
 conv in trip _ _=>cbv
 simp only [runT,RN,simprocAttr]
 have h1:=limbs_len l
 have h2:=limbs_len m
 simp (disch:=omega) only [↓RS,RZ,simprocAttr,iN]
 refine cX (load_pc l (by omega)) ?_
 simp (disch:=omega) only [↓RS,RZ,simprocAttr]
 refine cX (load_pc m (by omega)) ?_
 have hL:= @limbs_len0 (bval l)
 have hL':= @limbs_lenpos (bval l)
 have hM:= @limbs_len0 (bval m)
 have hM':= @limbs_lenpos (bval m)
 have c1:=compareN_pc (bval l) (bval m) (by omega) (by omega)
 have c2:=compareN_pc (bval m) (bval l) (by omega) (by omega)
 unfold ival
 generalize limbsOf (bval l)=x at*
 generalize limbsOf (bval m)=y at*
 generalize bval l=a at*
 generalize bval m=b at*
 cases s<;>cases t<;>rcases Nat.eq_zero_or_pos a with ha|ha<;>rcases Nat.eq_zero_or_pos b with hb|hb
 all_goals (
  simp (disch:=omega) only [↓RS,RZ,simprocAttr,lw_length]
  try (first|refine call_pc c1 (.inl rfl) ?_|refine call_pc c2 (.inl rfl) ?_)
  try simp (disch:=omega) only [↓RS,RZ,simprocAttr]
  try (refine int_eq ?_)
  try (simp only [cmpI,sgn,sg,Bool.false_eq_true,if_false,if_true];repeat' split)<;>omega)
theorem sg_add (s:Bool) (m n:Nat):sg s (m+n)=sg s m+sg s n:=by cases s<;>simp [sg];omega
theorem sg_sub {s t:Bool} (h:s≠t) {m n:Nat} (hm:n≤m):sg s (m-n)=sg s m+sg t n:=by cases s<;>cases t<;>simp [sg] at* <;>omega
theorem ival_small {s:Bool} {l:List UInt8} (h:l.length≤7): -72057594037927936<ival s l∧ival s l<72057594037927936:=by
 have hb:bval l<256^7:=Nat.lt_of_lt_of_le (bval_lt l) (Nat.pow_le_pow_right (by omega) h)
 simp only [Nat.reducePow] at hb
 cases s<;>simp [ival,sg]<;>omega
theorem addI_pc (s t:Bool) (l m:List UInt8) (hl:l.length<2^36) (hm:m.length<2^36):PC prog 155 [iN s l,iN t m] (cI (ival s l+ival t m)):=by
 refine PCi ?_
 conv in trip _ _=>cbv
 simp only [runT,RN,simprocAttr]
 have h1:=limbs_len l
 have h2:=limbs_len m
 have l1:=little_pc s l
 have l2:=little_pc t m
 have b1:=dl_bval l
 have b2:=dl_bval m
 have b3:=dl_add (bval l) (bval m)
 have b4:=limbs_dl (bval l+bval m)
 have b5:=limbs_dl (bval l-bval m)
 have b6:=limbs_dl (bval m-bval l)
 have b7:= @dl_mono (bval l-bval m) (bval l) (by omega)
 have b8:= @dl_mono (bval m-bval l) (bval m) (by omega)
 have p1:=plus_pc (limbsOf (bval l)) (limbsOf (bval m)) (by omega) (by omega) (limb_limbsOf _) (limb_limbsOf _)
 have c1:=compareN_pc (bval l) (bval m) (by omega) (by omega)
 have m1:=fun h=>minus_pc (limbsOf (bval l)) (limbsOf (bval m)) (by omega) (by omega) (limb_limbsOf _) (limb_limbsOf _) (by rw [lval_limbsOf,lval_limbsOf];exact h) (limbs_mono h)
 have m2:=fun h=>minus_pc (limbsOf (bval m)) (limbsOf (bval l)) (by omega) (by omega) (limb_limbsOf _) (limb_limbsOf _) (by rw [lval_limbsOf,lval_limbsOf];exact h) (limbs_mono h)
 have k1:=fun s=>pack_pc s (limbsOf (bval l+bval m)) (by omega) (limb_limbsOf _)
 have k2:=fun s=>pack_pc s (limbsOf (bval l-bval m)) (by omega) (limb_limbsOf _)
 have k3:=fun s=>pack_pc s (limbsOf (bval m-bval l)) (by omega) (limb_limbsOf _)
 rw [lval_limbsOf,lval_limbsOf] at p1 m1 m2
 simp only [lval_limbsOf] at k1 k2 k3
 by_cases hs:l.length≤7∧m.length≤7
 ·have e1:= @ival_small s l hs.1
  have e2:= @ival_small t m hs.2
  have hof:=of_pc (ival s l+ival t m) (by omega) (by omega)
  rw [if_pos hs.1,decide_eq_true hs.1] at l1
  rw [if_pos hs.2,decide_eq_true hs.2] at l2
  clear p1 c1 m1 m2 k1 k2 k3 b1 b2 b3 b4 b5 b6 b7 b8
  simp (disch:=omega) only [↓RS,RZ,simprocAttr,iN]
  refine call_pc l1 (.inl rfl) ?_
  simp (disch:=omega) only [↓RS,RZ,simprocAttr]
  refine call_pc l2 (.inl rfl) ?_
  simp (disch:=omega) only [↓RS,RZ,simprocAttr]
  refine call_pc hof (.inl rfl) ?_
  simp (disch:=omega) only [↓RS,RZ,simprocAttr,cI,iN]
 ·rcases Nat.lt_or_ge 7 l.length with h7|h7
  rw [if_neg (by omega),decide_eq_false (by omega)] at l1
  simp (disch:=omega) only [↓RS,RZ,simprocAttr,iN]
  refine call_pc l1 (.inl rfl) ?_
  simp (disch:=omega) only [↓RS,RZ,simprocAttr]
  rotate_left
  rw [if_pos h7,decide_eq_true h7] at l1
  rw [if_neg (by omega),decide_eq_false (by omega)] at l2
  simp (disch:=omega) only [↓RS,RZ,simprocAttr,iN]
  refine call_pc l1 (.inl rfl) ?_
  simp (disch:=omega) only [↓RS,RZ,simprocAttr]
  refine call_pc l2 (.inl rfl) ?_
  simp (disch:=omega) only [↓RS,RZ,simprocAttr]
  all_goals (
   refine cX (load_pc l (by omega)) ?_
   simp (disch:=omega) only [↓RS,RZ,simprocAttr]
   refine cX (load_pc m (by omega)) ?_
   have hst:s=t∨s= !t:=by cases s<;>cases t<;>simp
   clear b1 b2 b3 b4 b5 b6 b7 b8 l1 l2 hs h1 h2
   rcases hst with rfl|rfl
   ·have hb:(s==s)=true:=by simp
    simp (disch:=omega) only [↓RS,RZ,simprocAttr,eqA_bool9,hb]
    refine cX p1 ?_
    simp (disch:=omega) only [↓RS,RZ,simprocAttr]
    refine cX (k1 s) ?_
    rw [sg_add]
    simp (disch:=omega) only [↓RS,RZ,simprocAttr,cI,iN,ival]
    try rfl
   ·have hb:((!t)==t)=false:=by cases t<;>rfl
    have hne:(!t)≠t:=by cases t<;>simp
    simp (disch:=omega) only [↓RS,RZ,simprocAttr,eqA_bool9,hb]
    refine call_pc c1 (.inl rfl) ?_
    rcases Nat.lt_or_ge (bval l) (bval m) with hlt|hge
    ·have hsg:sgn (bval l) (bval m)= -1:=by rw [sgn,if_pos hlt]
     simp (disch:=omega) only [↓RS,RZ,simprocAttr,hsg]
     refine cX (m2 (by omega)) ?_
     simp (disch:=omega) only [↓RS,RZ,simprocAttr]
     refine cX (k3 t) ?_
     rw [sg_sub hne.symm (by omega),Int.add_comm]
     simp (disch:=omega) only [↓RS,RZ,simprocAttr,cI,iN,ival]
     try rfl
    ·have hsg:0≤sgn (bval l) (bval m):=by rw [sgn,if_neg (by omega)];split<;>omega
     simp (disch:=omega) only [↓RS,RZ,simprocAttr,hsg]
     refine cX (m1 hge) ?_
     simp (disch:=omega) only [↓RS,RZ,simprocAttr]
     refine cX (k2 (!t)) ?_
     rw [sg_sub hne hge]
     simp (disch:=omega) only [↓RS,RZ,simprocAttr,cI,iN,ival]
     try rfl)
theorem ival_can (z:Int):ival (decide (z<0)) (digitsOf z.natAbs)=z:=by
 unfold ival sg
 rw [bval_digitsOf]
 by_cases h:z<0
 ·rw [decide_eq_true h,if_pos rfl];omega
 ·rw [decide_eq_false h];simp;omega
theorem ival_not (s:Bool) (l:List UInt8):ival (!s) l= -ival s l:=sg_neg s _
end Go.Av
