/- Helping texts: Ck, Cl. -/
import Derived.Test.YtkmlhdfpcjkekaaGreatKCi
set_option linter.unusedSimpArgs false
set_option linter.unusedVariables false
set_option maxRecDepth 100000
set_option maxHeartbeats 16000000
open Nat (reduceAdd reduceLT reduceLeDiff reducePow reduceDiv reduceMod reduceEqDiff)
namespace Go.Av
open Go.RowKit
open Go.Proofs.Tryz (prog)
def dl (n:Nat):Nat:=(bZ n).length
theorem u6 {n k:Nat} (h:n<256^k):dl n≤k:=by
 unfold dl
 induction k generalizing n with
 |zero=>have:n=0:=by simpa using h
        subst this;rw [il];simp
 |succ k ih=>
  by_cases hn:n=0
  ·subst hn;rw [il];simp
  ·rw [lU hn,aK]
   have:=ih (n:=n/256) (Nat.div_lt_of_lt_mul (by rw [Nat.pow_succ,Nat.mul_comm] at h;exact h))
   simp;omega
theorem DA (n:Nat):n<256^dl n:=by
 have:=qM (bZ n)
 rwa [eU] at this
theorem sC {m n:Nat} (h:m≤n):dl m≤dl n:=u6 (Nat.lt_of_le_of_lt h (DA n))
theorem xO (m n:Nat):dl (m*n)≤dl m+dl n:=u6 (by rw [Nat.pow_add];exact Nat.mul_lt_mul_of_lt_of_lt (DA m) (DA n))
theorem Pd (m n:Nat):dl (m+n)≤max (dl m) (dl n)+1:=by
 refine u6 ?_
 have h1:=Nat.lt_of_lt_of_le (DA m) (Nat.pow_le_pow_right (by omega:0<256) (Nat.le_max_left (dl m) (dl n)))
 have h2:=Nat.lt_of_lt_of_le (DA n) (Nat.pow_le_pow_right (by omega:0<256) (Nat.le_max_right (dl m) (dl n)))
 rw [Nat.pow_succ];omega
theorem ll (l:List UInt8):dl (bn l)≤l.length:=u6 (qM l)
theorem tD (n:Nat):(bf n).length≤dl n:=mt (Nat.lt_of_lt_of_le (DA n) (Nat.pow_le_pow_left (by omega) _))
theorem lI (l:List UInt8):(bf (bn l)).length≤l.length:=bi (tD _) (ll l)
theorem Bs (n:Nat):(bZ n==[])=decide (n=0):=by
 by_cases h:n=0
 ·subst h;rw [il];rfl
 ·rw [lU h];simp [h]
def iN (neg:Bool) (l:List UInt8):V:= .agg [.prim (.bool neg),.prim (.string (bs l))]
def sg (neg:Bool) (n:Nat):Int:=if neg then-(n:Int) else n
def du (neg:Bool) (l:List UInt8):Int:=sg neg (bn l)
def cI (z:Int):V:=iN (decide (z<0)) (bZ z.natAbs)
theorem pI (neg:Bool) (l:List Nat) (hl:l.length<2^39) (hL:jD l):PC prog 157 [.prim (.bool neg),.lst 1 (lw l)] (cI (sg neg (bk l))):=by
 refine PCi ?_
 conv in bL _ _=>cbv
 simp only [bM,RN,Nat.reduceAdd,Nat.reduceSub]
 simp (maxSteps:=2000000) (disch:=omega) only [↓RS,RY,reduceCtorEq,reduceAdd,reduceLT,reduceLeDiff,List.reduceReplicate]
 refine gB (Jo l (by omega)) (.inl rfl) ?_
 rw [Eu hL]
 simp (maxSteps:=2000000) (disch:=omega) only [↓RS,RY,reduceCtorEq,reduceAdd,reduceLT,reduceLeDiff,List.reduceReplicate]
 have h:=MV (bf (bk l)) (by have:=mt (ms hL);omega) (cY _)
 rw [cS] at h
 refine gB h (.inl rfl) ?_
 cases neg with
 |true=>
  simp (maxSteps:=2000000) (disch:=omega) only [↓RS,RY,reduceCtorEq,reduceAdd,reduceLT,reduceLeDiff,List.reduceReplicate,Bs]
  have e:(!decide (bk l=0))=decide (sg true (bk l)<0):=by
   by_cases h:bk l=0<;>simp [sg,h];omega
  have e2:(sg true (bk l)).natAbs=bk l:=by simp [sg]
  simp (maxSteps:=2000000) (disch:=omega) only [↓RS,RY,reduceCtorEq,reduceAdd,reduceLT,reduceLeDiff,List.reduceReplicate,cI,iN,e,e2]
 |false=>
  simp (maxSteps:=2000000) (disch:=omega) only [↓RS,RY,reduceCtorEq,reduceAdd,reduceLT,reduceLeDiff,List.reduceReplicate]
  have e:false=decide (sg false (bk l)<0):=by simp [sg]
  have e2:(sg false (bk l)).natAbs=bk l:=by simp [sg]
  simp (maxSteps:=2000000) (disch:=omega) only [↓RS,RY,reduceCtorEq,reduceAdd,reduceLT,reduceLeDiff,List.reduceReplicate,cI,iN,←e,e2]
theorem wl (n:Int) (h1: -9223372036854775808≤n) (h2:n<9223372036854775808):PC prog 93 [.prim (.int .i64 (n))] (cI n):=by
 refine PCi ?_
 conv in bL _ _=>cbv
 simp only [bM,RN,Nat.reduceAdd,Nat.reduceSub]
 have fin:∀ a b:Nat,a<4294967296→b<4294967296→PC prog 157 [.prim (.bool (decide (n<0))),.lst 1 [[.prim (.int .u32 ((a:Nat):Int))],[.prim (.int .u32 ((b:Nat):Int))]]] (cI (sg (decide (n<0)) (a+4294967296*b))):=by
  intro a b ha hb
  have h:=pI (decide (n<0)) [a,b] (by simp only [aC,aI];omega) (fun x hx=>by simp at hx;omega)
  simpa only [bk,lw,aY,List.map_nil,Nat.mul_zero,Nat.add_zero] using h
 by_cases hn:n<0
 ·obtain ⟨m,rfl⟩:∃ m:Nat,n= -(m:Int):=⟨n.natAbs,by omega⟩
  have e1:IntKind.u64.wrap (-(m:Int))=((18446744073709551616-m:Nat):Int):=by rw [uh];omega
  have e2:IntKind.u64.wrap (0-((18446744073709551616-m:Nat):Int))=(m:Int):=by rw [uh];omega
  have hd:decide (-(m:Int)<0)=true:=by simp;omega
  rw [hd] at fin
  simp (maxSteps:=2000000) (disch:=omega) only [↓RS,RY,reduceCtorEq,reduceAdd,reduceLT,reduceLeDiff,List.reduceReplicate,e1,e2,jZ]
  refine gB (fin (m%4294967296) (m/4294967296) (Nat.mod_lt _ (by omega)) (by omega)) (.inr rfl) ?_
  have e3:sg true (m%4294967296+4294967296*(m/4294967296))= -(m:Int):=by rw [Nat.mod_add_div];rfl
  rw [e3]
  simp (maxSteps:=2000000) (disch:=omega) only [↓RS,RY,reduceCtorEq,reduceAdd,reduceLT,reduceLeDiff,List.reduceReplicate,cI,iN]
 ·obtain ⟨m,rfl⟩:∃ m:Nat,n=(m:Int):=⟨n.natAbs,by omega⟩
  have hd:decide ((m:Int)<0)=false:=by simp
  rw [hd] at fin
  simp (maxSteps:=2000000) (disch:=omega) only [↓RS,RY,reduceCtorEq,reduceAdd,reduceLT,reduceLeDiff,List.reduceReplicate,jZ]
  refine gB (fin (m%4294967296) (m/4294967296) (Nat.mod_lt _ (by omega)) (by omega)) (.inr rfl) ?_
  have e3:sg false (m%4294967296+4294967296*(m/4294967296))=(m:Int):=by rw [Nat.mod_add_div];rfl
  rw [e3]
  simp (maxSteps:=2000000) (disch:=omega) only [↓RS,RY,reduceCtorEq,reduceAdd,reduceLT,reduceLeDiff,List.reduceReplicate,cI,iN]
theorem wT (l:List UInt8) (i:Nat):bn (l.take i)<256^i:=Nat.lt_of_lt_of_le (qM _) (Nat.pow_le_pow_right (by omega) (by rw [d9];omega))
theorem u8_lt (l:List UInt8) (i:Nat):(l.getD i 0).toNat<256:=UInt8.toNat_lt _
theorem DB (neg:Bool) (l:List UInt8):PC prog 221 [iN neg l] (.tup [.prim (.int .i64 (if l.length≤7 then du neg l else 0)),.prim (.bool (decide (l.length≤7)))]):=by
 refine PCi ?_
 conv in bL _ _=>cbv
 simp only [bM,RN,Nat.reduceAdd,Nat.reduceSub]
 rcases am 7 l.length with h7|h7
 ·have e:¬l.length≤7:=by omega
  simp (maxSteps:=2000000) (disch:=omega) only [↓RS,RY,reduceCtorEq,reduceAdd,reduceLT,reduceLeDiff,List.reduceReplicate,iN,if_neg e]
 ·have hb:bn l<256^7:=Nat.lt_of_lt_of_le (qM l) (Nat.pow_le_pow_right (by omega) h7)
  simp only [Nat.reducePow] at hb
  simp (maxSteps:=2000000) (disch:=omega) only [↓RS,RY,reduceCtorEq,reduceAdd,reduceLT,reduceLeDiff,List.reduceReplicate,iN]
  refine eG (fun (i:Nat) J=>ov [(1,.ptr 0 0 0),(2,.prim (.int .i64 (0))),(3,.prim (.bool false)),(4,.prim (.int .i64 ((bn (l.take i):Nat):Int))),(12,.prim (.int .i64 ((l.length:Nat):Int))),(13,.prim (.int .i64 ((i:Nat):Int)))] J 0 30)
   (fun i H=>i≤l.length∧H=[some (.row 2 true [[.prim (.bool neg),.prim (.string (bs l))]])]) (fun i=>l.length-i) 0 rfl ⟨bh _,rfl⟩ ?_
  rintro i J _ ⟨hi,rfl⟩
  try conv in ov _ _ _ _=>simp only [ov,List.lookup,bG,Option.getD_none,Nat.reduceAdd,Nat.reduceBEq]
  rcases am i l.length with hlt|hge
  ·have h1:=D9 l i hlt
   have h2:=wT l i
   have h3:=u8_lt l i
   have h4:bn (l.take i)*256+(l.getD i 0).toNat<256^7:=by
    rw [←h1];exact Nat.lt_of_lt_of_le (wT l (i+1)) (Nat.pow_le_pow_right (by omega) (by omega))
   simp only [Nat.reducePow] at h4
   simp (maxSteps:=2000000) (disch:=omega) only [↓RS,RY,reduceCtorEq,reduceAdd,reduceLT,reduceLeDiff,List.reduceReplicate,NE,ori,Qm]
   exact bl (i+1) (by rw [h1];rfl) ⟨hlt,rfl⟩ (by omega)
  ·have hia:i=l.length:=by omega
   subst hia
   rw [List.take_length]
   have e:l.length≤7:=h7
   cases neg with
   |true=>
    have e2:(0:Int)-(bn l:Nat)=du true l:=by simp [du,sg]
    simp (maxSteps:=2000000) (disch:=omega) only [↓RS,RY,reduceCtorEq,reduceAdd,reduceLT,reduceLeDiff,List.reduceReplicate,if_pos e,e2]
   |false=>
    have e2:((bn l:Nat):Int)=du false l:=by simp [du,sg]
    simp (maxSteps:=2000000) (disch:=omega) only [↓RS,RY,reduceCtorEq,reduceAdd,reduceLT,reduceLeDiff,List.reduceReplicate,if_pos e,e2]
end Go.Av
namespace Go.Av
open Go.RowKit
open Go.Proofs.Tryz (prog)
theorem Si (s t:Bool) (m n:Nat):sg (s !=t) (m*n)=sg s m*sg t n:=by
 cases s<;>cases t<;>simp [sg,Int.neg_mul,Int.mul_neg]
theorem O9 {n:Nat} {a b:Bool}:eqA (aD prog) (n+1) 4 (.prim (.bool a)) (.prim (.bool b))=some (a==b):=by
 simp only [eqA,RT]
theorem nH {a b:Bool}:eqA (aD prog) 9 4 (.prim (.bool a)) (.prim (.bool b))=some (a==b):=O9
theorem JW {a b:Bool}:(!(a==b))=(a !=b):=rfl
theorem tw (s t:Bool) (l m:List UInt8) (hl:l.length<2^36) (hm:m.length<2^36):PC prog 121 [iN s l,iN t m] (cI (du s l*du t m)):=by
 refine PCi ?_
 conv in bL _ _=>cbv
 simp only [bM,RN,simprocAttr]
 have h1:=lI l
 have h2:=lI m
 have h3:=xO (bn l) (bn m)
 have h4:=tD (bn l*bn m)
 have h5:=ll l
 have h6:=ll m
 simp (disch:=omega) only [↓RS,RZ,simprocAttr,iN,nH,JW]
 refine cX (n7 l (by omega)) ?_
 simp (disch:=omega) only [↓RS,RZ,simprocAttr]
 refine cX (n7 m (by omega)) ?_
 simp (disch:=omega) only [↓RS,RZ,simprocAttr]
 have h:=MP (bf (bn l)) (bf (bn m)) (by omega) (by omega) (cY _) (cY _)
 rw [cS,cS] at h
 refine cX h ?_
 simp (disch:=omega) only [↓RS,RZ,simprocAttr]
 have h:=pI (s !=t) (bf (bn l*bn m)) (by omega) (cY _)
 rw [cS,Si] at h
 refine cX h ?_
 simp (disch:=omega) only [↓RS,RZ,simprocAttr,cI,iN,du]
 rfl
theorem NG (s:Bool) (n:Nat):sg (!s) n= -sg s n:=by cases s<;>simp [sg]
theorem N0 (s:Bool) (l:List UInt8) (hl:l.length<2^36):PC prog 156 [iN s l] (cI (-du s l)):=by
 refine PCi ?_
 conv in bL _ _=>cbv
 simp only [bM,RN,simprocAttr]
 have h1:=lI l
 simp (disch:=omega) only [↓RS,RZ,simprocAttr,iN]
 refine cX (n7 l (by omega)) ?_
 simp (disch:=omega) only [↓RS,RZ,simprocAttr]
 have h:=pI (!s) (bf (bn l)) (by omega) (cY _)
 rw [cS,NG] at h
 refine cX h ?_
 simp (disch:=omega) only [↓RS,RZ,simprocAttr,cI,iN,du]
 rfl
def sQ (a b:Int):Int:=if a<b then-1 else if b<a then 1 else 0
theorem vk {n:Nat} (h:n=0):(bf n).length=0:=by subst h;rw [jj];rfl
theorem pK {n:Nat} (h:0<n):0<(bf n).length:=by
 obtain ⟨k,h1,_⟩:=oY (by omega:n≠0);omega
theorem sk {m n:Nat} (h:m≤n):(bf m).length≤(bf n).length:=mt (Nat.lt_of_le_of_lt h (k7 n))
theorem SB {a b:Int} (h:a=b):some (V.prim (Value.int .i64 a))=some (V.prim (Value.int .i64 b)):=by rw [h]
theorem qJ (s t:Bool) (l m:List UInt8) (hl:l.length<2^36) (hm:m.length<2^36):PC prog 120 [iN s l,iN t m] (.prim (.int .i64 (sQ (du s l) (du t m)))):=by
 refine PCi ?_
 conv in bL _ _=>cbv
 simp only [bM,RN,simprocAttr]
 have h1:=lI l
 have h2:=lI m
 simp (disch:=omega) only [↓RS,RZ,simprocAttr,iN]
 refine cX (n7 l (by omega)) ?_
 simp (disch:=omega) only [↓RS,RZ,simprocAttr]
 refine cX (n7 m (by omega)) ?_
 have hL:= @vk (bn l)
 have hL':= @pK (bn l)
 have hM:= @vk (bn m)
 have hM':= @pK (bn m)
 have c1:=pb (bn l) (bn m) (by omega) (by omega)
 have c2:=pb (bn m) (bn l) (by omega) (by omega)
 unfold du
 generalize bf (bn l)=x at*
 generalize bf (bn m)=y at*
 generalize bn l=a at*
 generalize bn m=b at*
 cases s<;>cases t<;>rcases Nat.eq_zero_or_pos a with ha|ha<;>rcases Nat.eq_zero_or_pos b with hb|hb
 all_goals (
  simp (disch:=omega) only [↓RS,RZ,simprocAttr,aP]
  try (first|refine gB c1 (.inl rfl) ?_|refine gB c2 (.inl rfl) ?_)
  try simp (disch:=omega) only [↓RS,RZ,simprocAttr]
  try (refine SB ?_)
  try (simp only [sQ,sgn,sg,Bool.false_eq_true,if_false,if_true];repeat' split)<;>omega)
theorem Sj (s:Bool) (m n:Nat):sg s (m+n)=sg s m+sg s n:=by cases s<;>simp [sg];omega
theorem NF {s t:Bool} (h:s≠t) {m n:Nat} (hm:n≤m):sg s (m-n)=sg s m+sg t n:=by cases s<;>cases t<;>simp [sg] at* <;>omega
theorem AG {s:Bool} {l:List UInt8} (h:l.length≤7): -72057594037927936<du s l∧du s l<72057594037927936:=by
 have hb:bn l<256^7:=Nat.lt_of_lt_of_le (qM l) (Nat.pow_le_pow_right (by omega) h)
 simp only [Nat.reducePow] at hb
 cases s<;>simp [du,sg]<;>omega
theorem Q7 (s t:Bool) (l m:List UInt8) (hl:l.length<2^36) (hm:m.length<2^36):PC prog 155 [iN s l,iN t m] (cI (du s l+du t m)):=by
 refine PCi ?_
 conv in bL _ _=>cbv
 simp only [bM,RN,simprocAttr]
 have h1:=lI l
 have h2:=lI m
 have l1:=DB s l
 have l2:=DB t m
 have b1:=ll l
 have b2:=ll m
 have b3:=Pd (bn l) (bn m)
 have b4:=tD (bn l+bn m)
 have b5:=tD (bn l-bn m)
 have b6:=tD (bn m-bn l)
 have b7:= @sC (bn l-bn m) (bn l) (by omega)
 have b8:= @sC (bn m-bn l) (bn m) (by omega)
 have p1:=Qg (bf (bn l)) (bf (bn m)) (by omega) (by omega) (cY _) (cY _)
 have c1:=pb (bn l) (bn m) (by omega) (by omega)
 have m1:=fun h=>GD (bf (bn l)) (bf (bn m)) (by omega) (by omega) (cY _) (cY _) (by rw [cS,cS];exact h) (sk h)
 have m2:=fun h=>GD (bf (bn m)) (bf (bn l)) (by omega) (by omega) (cY _) (cY _) (by rw [cS,cS];exact h) (sk h)
 have k1:=fun s=>pI s (bf (bn l+bn m)) (by omega) (cY _)
 have k2:=fun s=>pI s (bf (bn l-bn m)) (by omega) (cY _)
 have k3:=fun s=>pI s (bf (bn m-bn l)) (by omega) (cY _)
 rw [cS,cS] at p1 m1 m2
 simp only [cS] at k1 k2 k3
 by_cases hs:l.length≤7∧m.length≤7
 ·have e1:= @AG s l hs.1
  have e2:= @AG t m hs.2
  have hof:=wl (du s l+du t m) (by omega) (by omega)
  rw [if_pos hs.1,an hs.1] at l1
  rw [if_pos hs.2,an hs.2] at l2
  clear p1 c1 m1 m2 k1 k2 k3 b1 b2 b3 b4 b5 b6 b7 b8
  simp (disch:=omega) only [↓RS,RZ,simprocAttr,iN]
  refine gB l1 (.inl rfl) ?_
  simp (disch:=omega) only [↓RS,RZ,simprocAttr]
  refine gB l2 (.inl rfl) ?_
  simp (disch:=omega) only [↓RS,RZ,simprocAttr]
  refine gB hof (.inl rfl) ?_
  simp (disch:=omega) only [↓RS,RZ,simprocAttr,cI,iN]
 ·rcases am 7 l.length with h7|h7
  rw [if_neg (by omega),ak (by omega)] at l1
  simp (disch:=omega) only [↓RS,RZ,simprocAttr,iN]
  refine gB l1 (.inl rfl) ?_
  simp (disch:=omega) only [↓RS,RZ,simprocAttr]
  rotate_left
  rw [if_pos h7,an h7] at l1
  rw [if_neg (by omega),ak (by omega)] at l2
  simp (disch:=omega) only [↓RS,RZ,simprocAttr,iN]
  refine gB l1 (.inl rfl) ?_
  simp (disch:=omega) only [↓RS,RZ,simprocAttr]
  refine gB l2 (.inl rfl) ?_
  simp (disch:=omega) only [↓RS,RZ,simprocAttr]
  all_goals (
   refine cX (n7 l (by omega)) ?_
   simp (disch:=omega) only [↓RS,RZ,simprocAttr]
   refine cX (n7 m (by omega)) ?_
   have hst:s=t∨s= !t:=by cases s<;>cases t<;>simp
   clear b1 b2 b3 b4 b5 b6 b7 b8 l1 l2 hs h1 h2
   rcases hst with rfl|rfl
   ·have hb:(s==s)=true:=by simp
    simp (disch:=omega) only [↓RS,RZ,simprocAttr,nH,hb]
    refine cX p1 ?_
    simp (disch:=omega) only [↓RS,RZ,simprocAttr]
    refine cX (k1 s) ?_
    rw [Sj]
    simp (disch:=omega) only [↓RS,RZ,simprocAttr,cI,iN,du]
    try rfl
   ·have hb:((!t)==t)=false:=by cases t<;>rfl
    have hne:(!t)≠t:=by cases t<;>simp
    simp (disch:=omega) only [↓RS,RZ,simprocAttr,nH,hb]
    refine gB c1 (.inl rfl) ?_
    rcases am (bn l) (bn m) with hlt|hge
    ·have hsg:sgn (bn l) (bn m)= -1:=by rw [sgn,if_pos hlt]
     simp (disch:=omega) only [↓RS,RZ,simprocAttr,hsg]
     refine cX (m2 (by omega)) ?_
     simp (disch:=omega) only [↓RS,RZ,simprocAttr]
     refine cX (k3 t) ?_
     rw [NF hne.symm (by omega),Int.add_comm]
     simp (disch:=omega) only [↓RS,RZ,simprocAttr,cI,iN,du]
     try rfl
    ·have hsg:0≤sgn (bn l) (bn m):=by rw [sgn,if_neg (by omega)];split<;>omega
     simp (disch:=omega) only [↓RS,RZ,simprocAttr,hsg]
     refine cX (m1 hge) ?_
     simp (disch:=omega) only [↓RS,RZ,simprocAttr]
     refine cX (k2 (!t)) ?_
     rw [NF hne hge]
     simp (disch:=omega) only [↓RS,RZ,simprocAttr,cI,iN,du]
     try rfl)
theorem mE (z:Int):du (decide (z<0)) (bZ z.natAbs)=z:=by
 unfold du sg
 rw [eU]
 by_cases h:z<0
 ·rw [an h,if_pos rfl];omega
 ·rw [ak h];simp;omega
theorem OK (s:Bool) (l:List UInt8):du (!s) l= -du s l:=NG s _
end Go.Av
