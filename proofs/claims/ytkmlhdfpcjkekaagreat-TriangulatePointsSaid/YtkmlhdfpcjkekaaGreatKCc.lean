/- Helping texts: Cc. -/
import Derived.Test.YtkmlhdfpcjkekaaGreatKCt
set_option linter.unusedSimpArgs false
set_option linter.unusedVariables false
set_option maxRecDepth 100000
set_option maxHeartbeats 16000000
open Nat (reduceAdd reduceLT reduceLeDiff reducePow reduceDiv reduceMod reduceEqDiff)
namespace Go.Av
open Go.RowKit
open Go.Proofs.Tryz (prog)
theorem fdivN (a n:Nat):((a:Nat):Int).fdiv ((n:Nat):Int)=((a/n:Nat):Int):=by
 rw [Int.fdiv_eq_ediv_of_nonneg _ (by omega)];rfl
theorem tdivN (a n:Nat):((a:Nat):Int).tdiv ((n:Nat):Int)=((a/n:Nat):Int):=rfl
theorem tmodN (a n:Nat):((a:Nat):Int).tmod ((n:Nat):Int)=((a%n:Nat):Int):=rfl
theorem pow2N (n:Nat):(2:Int)^n=((2^n:Nat):Int):=by simp
theorem shrN {a n:Nat} {k:IntKind} (h:n≤k.bits):((a:Nat):Int).fdiv (2^min n k.bits)=((a/2^n:Nat):Int):=by rw [Nat.min_eq_left h,pow2N,fdivN]
theorem shlN {a n:Nat} {k:IntKind} (h:n≤k.bits):((a:Nat):Int)*(2^min n k.bits)=((a*2^n:Nat):Int):=by rw [Nat.min_eq_left h,pow2N];rfl
theorem shr8_u32 (n:Nat):((n:Nat):Int).fdiv (2^min (Int.toNat 8) IntKind.u32.bits)=((n/256:Nat):Int):=fdivN n 256
theorem shr16_u32 (n:Nat):((n:Nat):Int).fdiv (2^min (Int.toNat 16) IntKind.u32.bits)=((n/65536:Nat):Int):=fdivN n 65536
theorem shr31_u32 (n:Nat):((n:Nat):Int).fdiv (2^min (Int.toNat 31) IntKind.u32.bits)=((n/2147483648:Nat):Int):=fdivN n 2147483648
theorem shr32_u64 (n:Nat):((n:Nat):Int).fdiv (2^min (Int.toNat 32) IntKind.u64.bits)=((n/4294967296:Nat):Int):=fdivN n 4294967296
theorem shl32_u64 (n:Nat):((n:Nat):Int)*(2^min (Int.toNat 32) IntKind.u64.bits)=((n*4294967296:Nat):Int):=rfl
theorem shr8_i64 (n:Nat):((n:Nat):Int).fdiv (2^min (Int.toNat 8) IntKind.i64.bits)=((n/256:Nat):Int):=fdivN n 256
theorem shl8_i64 (n:Nat):((n:Nat):Int)*(2^min (Int.toNat 8) IntKind.i64.bits)=((n*256:Nat):Int):=rfl
theorem bits32:IntKind.u32.bits=32:=rfl
theorem bits64:IntKind.u64.bits=64:=rfl
theorem bitsi:IntKind.i64.bits=64:=rfl
theorem bv_xor (k:Nat) (a b:Nat):(BitVec.ofInt k (a:Int)^^^BitVec.ofInt k (b:Int)).toNat=((a%2^k)^^^(b%2^k)):=by
 simp [BitVec.toNat_xor,BitVec.ofInt_natCast]
theorem or32 {a b:Nat} (h:a<4294967296∧b<4294967296):(BitVec.ofInt IntKind.u32.bits (a:Int)|||BitVec.ofInt IntKind.u32.bits (b:Int)).toNat=(a|||b:Nat):=by
 rw [bv_or,bits32,Nat.mod_eq_of_lt (by omega:a<2^32),Nat.mod_eq_of_lt (by omega:b<2^32)]
theorem and32 {a b:Nat} (h:a<4294967296∧b<4294967296):(BitVec.ofInt IntKind.u32.bits (a:Int)&&&BitVec.ofInt IntKind.u32.bits (b:Int)).toNat=(a&&&b:Nat):=by
 rw [bv_and,bits32,Nat.mod_eq_of_lt (by omega:a<2^32),Nat.mod_eq_of_lt (by omega:b<2^32)]
theorem xor32 {a b:Nat} (h:a<4294967296∧b<4294967296):(BitVec.ofInt IntKind.u32.bits (a:Int)^^^BitVec.ofInt IntKind.u32.bits (b:Int)).toNat=(a^^^b:Nat):=by
 rw [bv_xor,bits32,Nat.mod_eq_of_lt (by omega:a<2^32),Nat.mod_eq_of_lt (by omega:b<2^32)]
theorem max32:IntKind.u32.max=((4294967295:Nat):Int):=by decide
theorem or64 {a b:Nat} (h:a<18446744073709551616∧b<18446744073709551616):(BitVec.ofInt IntKind.u64.bits (a:Int)|||BitVec.ofInt IntKind.u64.bits (b:Int)).toNat=(a|||b:Nat):=by
 rw [bv_or,bits64,Nat.mod_eq_of_lt (by omega:a<2^64),Nat.mod_eq_of_lt (by omega:b<2^64)]
theorem ori {a b:Nat} (h:a<9223372036854775808∧b<9223372036854775808):(BitVec.ofInt IntKind.i64.bits (a:Int)|||BitVec.ofInt IntKind.i64.bits (b:Int)).toNat=(a|||b:Nat):=by
 rw [bv_or,bitsi,Nat.mod_eq_of_lt (by omega:a<2^64),Nat.mod_eq_of_lt (by omega:b<2^64)]
theorem or_add32 {a b:Nat} (h:b<4294967296):(a*4294967296)|||b=a*4294967296+b:=or_add a b 32 h
theorem or_add8 {a b:Nat} (h:b<256):(a*256)|||b=a*256+b:=or_add a b 8 h
theorem bor_lt {a b:Nat} (h:a<4294967296∧b<4294967296):a|||b<4294967296:=Nat.or_lt_two_pow (n:=32) (by omega) (by omega)
theorem band_lt {a b:Nat} (h:b<4294967296):a&&&b<4294967296:=Nat.and_lt_two_pow (n:=32) _ (by omega)
theorem bxor_lt {a b:Nat} (h:a<4294967296∧b<4294967296):a^^^b<4294967296:=Nat.xor_lt_two_pow (n:=32) (by omega) (by omega)
theorem borrow_bit {x y c d:Nat} (hx:x<4294967296) (hy:y<4294967296) (hc:c≤1) (hd:(d:Int)=((x:Int)-y-c)%4294967296):
 ((((4294967295^^^x)&&&y)|||((4294967295^^^(x^^^y))&&&d))/2147483648)=if x<y+c then 1 else 0:=by
 have e:∀ n:Nat,n/2147483648=n>>>31:=fun n=>by rw [Nat.shiftRight_eq_div_pow]
 rw [e,Nat.shiftRight_or_distrib,Nat.shiftRight_and_distrib,Nat.shiftRight_and_distrib,Nat.shiftRight_xor_distrib,Nat.shiftRight_xor_distrib,Nat.shiftRight_xor_distrib,←e,←e,←e,←e]
 have hX:x/2147483648=0∨x/2147483648=1:=by omega
 have hY:y/2147483648=0∨y/2147483648=1:=by omega
 have hdl:d<4294967296:=by omega
 have hD:d/2147483648=0∨d/2147483648=1:=by omega
 rcases hX with hX|hX<;>rcases hY with hY|hY<;>rcases hD with hD|hD<;>rw [hX,hY,hD]<;>simp<;>omega
theorem wrap_u32' (n:Int):IntKind.u32.wrap n=n%4294967296:=by rw [IntKind.wrap_u32]
def subD (x y c:Nat):Nat:=(x+8589934592-y-c)%4294967296
def subB (x y c:Nat):Nat:=if x<y+c then 1 else 0
theorem subD_eq {x y c:Nat} (hx:x<4294967296) (hy:y<4294967296) (hc:c≤1):x+4294967296*subB x y c=subD x y c+y+c:=by
 unfold subD subB;split<;>omega
theorem subD_lt (x y c:Nat):subD x y c<4294967296:=Nat.mod_lt _ (by decide)
theorem subB_le (x y c:Nat):subB x y c≤1:=by unfold subB;split<;>omega
theorem sub32_pc (x y c:Nat) (hx:x<4294967296) (hy:y<4294967296) (hc:c≤1):PC prog 269 [.prim (.int .u32 ((x:Nat):Int)),.prim (.int .u32 ((y:Nat):Int)),.prim (.int .u32 ((c:Nat):Int))] (.tup [.prim (.int .u32 ((subD x y c:Nat):Int)),.prim (.int .u32 ((subB x y c:Nat):Int))]):=by
 refine PCi ?_
 conv in trip _ _=>cbv
 simp only [runT,RN,Nat.reduceAdd,Nat.reduceSub]
 have e1:IntKind.u32.wrap (IntKind.u32.wrap ((x:Int)-y)-c)=((subD x y c:Nat):Int):=by
  rw [wrap_u32',wrap_u32'];unfold subD;omega
 have e2:(0:Int)=((0:Nat):Int):=rfl
 have hd:=subD_lt x y c
 have hb:=borrow_bit hx hy hc (d:=subD x y c) (by unfold subD;omega)
 have h1:4294967295^^^x<4294967296:=bxor_lt ⟨by omega,hx⟩
 have h2:4294967295^^^(x^^^y)<4294967296:=bxor_lt ⟨by omega,bxor_lt ⟨hx,hy⟩⟩
 have h3:(4294967295^^^x)&&&y<4294967296:=band_lt hy
 have h4:(4294967295^^^(x^^^y))&&&subD x y c<4294967296:=band_lt hd
 have h5:x^^^y<4294967296:=bxor_lt ⟨hx,hy⟩
 have h6:=bor_lt ⟨h3,h4⟩
 simp (maxSteps:=2000000) (disch:=omega) only [↓RS,RY,reduceCtorEq,reduceAdd,reduceLT,reduceLeDiff,List.reduceReplicate,IntKind.signed,max32,xor32,and32,or32,shr31_u32,hb,e1]
 rfl
theorem add32_pc (x y c:Nat) (hx:x<4294967296) (hy:y<4294967296) (hc:c≤1):PC prog 309 [.prim (.int .u32 ((x:Nat):Int)),.prim (.int .u32 ((y:Nat):Int)),.prim (.int .u32 ((c:Nat):Int))] (.tup [.prim (.int .u32 (((x+y+c)%4294967296:Nat):Int)),.prim (.int .u32 (((x+y+c)/4294967296:Nat):Int))]):=by
 refine PCi ?_
 conv in trip _ _=>cbv
 simp only [runT,RN,Nat.reduceAdd,Nat.reduceSub]
 simp (maxSteps:=2000000) (disch:=omega) only [↓RS,RY,reduceCtorEq,reduceAdd,reduceLT,reduceLeDiff,List.reduceReplicate,shr32_u64]
theorem div32_pc (h l d:Nat) (hh:h<d) (hl:l<4294967296) (hd:d<4294967296):PC prog 308 [.prim (.int .u32 ((h:Nat):Int)),.prim (.int .u32 ((l:Nat):Int)),.prim (.int .u32 ((d:Nat):Int))] (.tup [.prim (.int .u32 (((h*4294967296+l)/d:Nat):Int)),.prim (.int .u32 (((h*4294967296+l)%d:Nat):Int))]):=by
 refine PCi ?_
 conv in trip _ _=>cbv
 simp only [runT,RN,Nat.reduceAdd,Nat.reduceSub]
 have e1:(h*4294967296+l)/d<4294967296:=Nat.div_lt_of_lt_mul (by rw [Nat.mul_comm];have:(h+1)*4294967296≤d*4294967296:=Nat.mul_le_mul_right _ hh;omega)
 have e2:(h*4294967296+l)%d<d:=Nat.mod_lt _ (by omega)
 have e3:h*4294967296+l<18446744073709551616:=by omega
 simp (maxSteps:=2000000) (disch:=omega) only [↓RS,RY,reduceCtorEq,reduceAdd,reduceLT,reduceLeDiff,List.reduceReplicate,shl32_u64,or64,or_add32,tdivN,tmodN]
def blen (x:Nat):Nat:=if x=0 then 0 else x.log2+1
theorem blen_of {x k:Nat} (h:2^k≤x) (h':x<2^(k+1)):blen x=k+1:=by
 have:x≠0:=by have:=Nat.two_pow_pos k;omega
 rw [blen,if_neg this,(Nat.log2_eq_iff this).2 ⟨h,h'⟩]
theorem blen_spec {x:Nat} (h:x≠0):∃ k,blen x=k+1∧2^k≤x∧x<2^(k+1):=
 ⟨x.log2,by rw [blen,if_neg h],Nat.log2_self_le h,Nat.lt_log2_self⟩
theorem blen_div {x k:Nat} (h:2^k≤x):blen x=blen (x/2^k)+k:=by
 have hx:x≠0:=by have:=Nat.two_pow_pos k;omega
 obtain ⟨j,h1,h2,h3⟩:=blen_spec hx
 have hkj:k≤j:=by
  rcases Nat.lt_or_ge j k with hlt|hge
  ·have:2^(j+1)≤2^k:=Nat.pow_le_pow_right (by decide) hlt
   omega
  ·exact hge
 obtain ⟨i,rfl⟩:∃ i,j=k+i:=⟨j-k,by omega⟩
 rw [h1,blen_of (k:=i)]
 ·omega
 ·rw [Nat.le_div_iff_mul_le (Nat.two_pow_pos k),←Nat.pow_add,Nat.add_comm];exact h2
 ·rw [Nat.div_lt_iff_lt_mul (Nat.two_pow_pos k),←Nat.pow_add];rw [show i+1+k=k+i+1 by omega];exact h3
def lenTab:List UInt8:=[0,1,2,2,3,3,3,3,4,4,4,4,4,4,4,4,5,5,5,5,5,5,5,5,5,5,5,5,5,5,5,5,6,6,6,6,6,6,6,6,6,6,6,6,6,6,6,6,6,6,6,6,6,6,6,6,6,6,6,6,6,6,6,6,7,7,7,7,7,7,7,7,7,7,7,7,7,7,7,7,7,7,7,7,7,7,7,7,7,7,7,7,7,7,7,7,7,7,7,7,7,7,7,7,7,7,7,7,7,7,7,7,7,7,7,7,7,7,7,7,7,7,7,7,7,7,7,7,8,8,8,8,8,8,8,8,8,8,8,8,8,8,8,8,8,8,8,8,8,8,8,8,8,8,8,8,8,8,8,8,8,8,8,8,8,8,8,8,8,8,8,8,8,8,8,8,8,8,8,8,8,8,8,8,8,8,8,8,8,8,8,8,8,8,8,8,8,8,8,8,8,8,8,8,8,8,8,8,8,8,8,8,8,8,8,8,8,8,8,8,8,8,8,8,8,8,8,8,8,8,8,8,8,8,8,8,8,8,8,8,8,8,8,8,8,8,8,8,8,8,8,8,8,8,8,8]
theorem lenTab_spec:∀ x,x<256→(lenTab.getD x 0).toNat=blen x:=by
 have h:∀ i:Fin 256,(lenTab.getD i.1 0).toNat=blen i.1:=by decide
 exact fun x hx=>h ⟨x,hx⟩
theorem blen_le {x k:Nat} (h:x<2^k):blen x≤k:=by
 by_cases hx:x=0
 ·subst hx;exact Nat.zero_le _
 ·obtain ⟨j,h1,h2,h3⟩:=blen_spec hx
  rw [h1]
  exact (Nat.pow_lt_pow_iff_right (by decide:1<2)).1 (Nat.lt_of_le_of_lt h2 h)
theorem len32_pc (x:Nat) (hx:x<4294967296):PC prog 168 [.prim (.int .u32 ((x:Nat):Int))] (.prim (.int .i64 ((blen x:Nat):Int))):=by
 refine PCi ?_
 conv in trip _ _=>cbv
 simp only [runT,RN,Nat.reduceAdd,Nat.reduceSub]
 have h16:= @blen_div x 16
 have h8:= @blen_div x 8
 have h24:= @blen_div (x/65536) 8
 simp only [Nat.reducePow] at h16 h8 h24
 have hb:= @blen_le x 32 hx
 have fin:∀ (k m:Nat),blen x=blen m+k→m<256→some (V.prim (Value.int IntKind.i64 (IntKind.i64.wrap ((k:Int)+IntKind.i64.wrap ((lenTab.getD m 0).toNat:Nat)))))=some (V.prim (Value.int IntKind.i64 (blen x:Nat))):=by
  intro k m h hm
  rw [lenTab_spec m hm,wrap_nat_i64 (by omega),wrap_i64 (by omega) (by omega),h]
  simp;omega
 rcases Nat.lt_or_ge x 65536 with h1|h1
 ·rcases Nat.lt_or_ge x 256 with h2|h2
  ·simp (maxSteps:=2000000) (disch:=omega) only [↓RS,RY,reduceCtorEq,reduceAdd,reduceLT,reduceLeDiff,List.reduceReplicate,shr16_u32,shr8_u32]
   exact fin 0 x rfl h2
  ·simp (maxSteps:=2000000) (disch:=omega) only [↓RS,RY,reduceCtorEq,reduceAdd,reduceLT,reduceLeDiff,List.reduceReplicate,shr16_u32,shr8_u32]
   exact fin 8 (x/256) (h8 h2) (by omega)
 ·rcases Nat.lt_or_ge (x/65536) 256 with h2|h2
  ·simp (maxSteps:=2000000) (disch:=omega) only [↓RS,RY,reduceCtorEq,reduceAdd,reduceLT,reduceLeDiff,List.reduceReplicate,shr16_u32,shr8_u32]
   exact fin 16 (x/65536) (h16 h1) (by omega)
  ·simp (maxSteps:=2000000) (disch:=omega) only [↓RS,RY,reduceCtorEq,reduceAdd,reduceLT,reduceLeDiff,List.reduceReplicate,shr16_u32,shr8_u32]
   exact fin 24 (x/65536/256) (by rw [h16 h1,h24 h2]) (by omega)
theorem lz32_pc (x:Nat) (hx:x<4294967296):PC prog 297 [.prim (.int .u32 ((x:Nat):Int))] (.prim (.int .i64 ((32-blen x:Nat):Int))):=by
 refine PCi ?_
 conv in trip _ _=>cbv
 simp only [runT,RN,Nat.reduceAdd,Nat.reduceSub]
 have hb:= @blen_le x 32 hx
 simp (maxSteps:=2000000) (disch:=omega) only [↓RS,RY,reduceCtorEq,reduceAdd,reduceLT,reduceLeDiff,List.reduceReplicate]
 refine call_pc (len32_pc x hx) (.inl rfl) ?_
 have e:(32:Int)-(blen x:Nat)=((32-blen x:Nat):Int):=by omega
 simp (maxSteps:=2000000) (disch:=omega) only [↓RS,RY,reduceCtorEq,reduceAdd,reduceLT,reduceLeDiff,List.reduceReplicate,e]
theorem lz32_spec {x:Nat} (h:x≠0) (hx:x<4294967296):2147483648≤x*2^(32-blen x)∧x*2^(32-blen x)<4294967296:=by
 obtain ⟨k,h1,h2,h3⟩:=blen_spec h
 have hb:= @blen_le x 32 hx
 rw [h1] at hb ⊢
 have e:(2:Nat)^(k+1)*2^(32-(k+1))=2^32:=by rw [←Nat.pow_add];congr 1;omega
 have e2:(2:Nat)^k*2^(32-(k+1))=2^31:=by rw [←Nat.pow_add];congr 1;omega
 have a1:=Nat.mul_le_mul_right (2^(32-(k+1))) h2
 have a2:=Nat.mul_lt_mul_of_pos_right h3 (Nat.two_pow_pos (32-(k+1)))
 rw [e2] at a1;rw [e] at a2
 exact ⟨a1,a2⟩
end Go.Av
