/- Helping texts: Cc, Cb, Cd, Ce. -/
import Derived.Test.YtkmlhdfpcjkekaaGreatKCt
import Derived.Test.YtkmlhdfpcjkekaaGreatKBg
set_option linter.unusedSimpArgs false
set_option linter.unusedVariables false
set_option maxRecDepth 100000
set_option maxHeartbeats 16000000
open Nat (reduceAdd reduceLT reduceLeDiff reducePow reduceDiv reduceMod reduceEqDiff)
namespace Go.Av
open Go.RowKit
open Go.Proofs.Tryz (prog)
theorem DT (a n:Nat):((a:Nat):Int).fdiv ((n:Nat):Int)=((a/n:Nat):Int):=by
 rw [Int.fdiv_eq_ediv_of_nonneg _ (by omega)];rfl
theorem uV (a n:Nat):((a:Nat):Int).tdiv ((n:Nat):Int)=((a/n:Nat):Int):=rfl
theorem Jq (a n:Nat):((a:Nat):Int).tmod ((n:Nat):Int)=((a%n:Nat):Int):=rfl
theorem RG (n:Nat):(2:Int)^n=((2^n:Nat):Int):=by simp
theorem shrN {a n:Nat} {k:IntKind} (h:n≤k.bits):((a:Nat):Int).fdiv (2^min n k.bits)=((a/2^n:Nat):Int):=by rw [Nat.min_eq_left h,RG,DT]
theorem shlN {a n:Nat} {k:IntKind} (h:n≤k.bits):((a:Nat):Int)*(2^min n k.bits)=((a*2^n:Nat):Int):=by rw [Nat.min_eq_left h,RG];rfl
theorem vU (n:Nat):((n:Nat):Int).fdiv (2^min (Int.toNat 8) IntKind.u32.bits)=((n/256:Nat):Int):=DT n 256
theorem uv (n:Nat):((n:Nat):Int).fdiv (2^min (Int.toNat 16) IntKind.u32.bits)=((n/65536:Nat):Int):=DT n 65536
theorem KZ (n:Nat):((n:Nat):Int).fdiv (2^min (Int.toNat 31) IntKind.u32.bits)=((n/2147483648:Nat):Int):=DT n 2147483648
theorem jZ (n:Nat):((n:Nat):Int).fdiv (2^min (Int.toNat 32) IntKind.u64.bits)=((n/4294967296:Nat):Int):=DT n 4294967296
theorem l4 (n:Nat):((n:Nat):Int)*(2^min (Int.toNat 32) IntKind.u64.bits)=((n*4294967296:Nat):Int):=rfl
theorem NC (n:Nat):((n:Nat):Int).fdiv (2^min (Int.toNat 8) IntKind.i64.bits)=((n/256:Nat):Int):=DT n 256
theorem NE (n:Nat):((n:Nat):Int)*(2^min (Int.toNat 8) IntKind.i64.bits)=((n*256:Nat):Int):=rfl
theorem I8:IntKind.u32.bits=32:=rfl
theorem SQ:IntKind.u64.bits=64:=rfl
theorem bitsi:IntKind.i64.bits=64:=rfl
theorem SN (k:Nat) (a b:Nat):(BitVec.ofInt k (a:Int)^^^BitVec.ofInt k (b:Int)).toNat=((a%2^k)^^^(b%2^k)):=by
 simp [BitVec.toNat_xor,BitVec.ofInt_natCast]
theorem or32 {a b:Nat} (h:a<4294967296∧b<4294967296):(BitVec.ofInt IntKind.u32.bits (a:Int)|||BitVec.ofInt IntKind.u32.bits (b:Int)).toNat=(a|||b:Nat):=by
 rw [Ht,I8,bA (by omega:a<2^32),bA (by omega:b<2^32)]
theorem and32 {a b:Nat} (h:a<4294967296∧b<4294967296):(BitVec.ofInt IntKind.u32.bits (a:Int)&&&BitVec.ofInt IntKind.u32.bits (b:Int)).toNat=(a&&&b:Nat):=by
 rw [SO,I8,bA (by omega:a<2^32),bA (by omega:b<2^32)]
theorem xor32 {a b:Nat} (h:a<4294967296∧b<4294967296):(BitVec.ofInt IntKind.u32.bits (a:Int)^^^BitVec.ofInt IntKind.u32.bits (b:Int)).toNat=(a^^^b:Nat):=by
 rw [SN,I8,bA (by omega:a<2^32),bA (by omega:b<2^32)]
theorem max32:IntKind.u32.max=((4294967295:Nat):Int):=by decide
theorem BZ {a b:Nat} (h:a<18446744073709551616∧b<18446744073709551616):(BitVec.ofInt IntKind.u64.bits (a:Int)|||BitVec.ofInt IntKind.u64.bits (b:Int)).toNat=(a|||b:Nat):=by
 rw [Ht,SQ,bA (by omega:a<2^64),bA (by omega:b<2^64)]
theorem ori {a b:Nat} (h:a<9223372036854775808∧b<9223372036854775808):(BitVec.ofInt IntKind.i64.bits (a:Int)|||BitVec.ofInt IntKind.i64.bits (b:Int)).toNat=(a|||b:Nat):=by
 rw [Ht,bitsi,bA (by omega:a<2^64),bA (by omega:b<2^64)]
theorem na {a b:Nat} (h:b<4294967296):(a*4294967296)|||b=a*4294967296+b:=As a b 32 h
theorem Qm {a b:Nat} (h:b<256):(a*256)|||b=a*256+b:=As a b 8 h
theorem SP {a b:Nat} (h:a<4294967296∧b<4294967296):a|||b<4294967296:=Nat.or_lt_two_pow (n:=32) (by omega) (by omega)
theorem Kv {a b:Nat} (h:b<4294967296):a&&&b<4294967296:=Nat.and_lt_two_pow (n:=32) _ (by omega)
theorem zK {a b:Nat} (h:a<4294967296∧b<4294967296):a^^^b<4294967296:=Nat.xor_lt_two_pow (n:=32) (by omega) (by omega)
theorem I6 {x y c d:Nat} (hx:x<4294967296) (hy:y<4294967296) (hc:c≤1) (hd:(d:Int)=((x:Int)-y-c)%4294967296):
 ((((4294967295^^^x)&&&y)|||((4294967295^^^(x^^^y))&&&d))/2147483648)=if x<y+c then 1 else 0:=by
 have e:∀ n:Nat,n/2147483648=n>>>31:=fun n=>by rw [Nat.shiftRight_eq_div_pow]
 rw [e,Nat.shiftRight_or_distrib,Nat.shiftRight_and_distrib,Nat.shiftRight_and_distrib,Nat.shiftRight_xor_distrib,Nat.shiftRight_xor_distrib,Nat.shiftRight_xor_distrib,←e,←e,←e,←e]
 have hX:x/2147483648=0∨x/2147483648=1:=by omega
 have hY:y/2147483648=0∨y/2147483648=1:=by omega
 have hdl:d<4294967296:=by omega
 have hD:d/2147483648=0∨d/2147483648=1:=by omega
 rcases hX with hX|hX<;>rcases hY with hY|hY<;>rcases hD with hD|hD<;>rw [hX,hY,hD]<;>simp<;>omega
theorem CC (n:Int):IntKind.u32.wrap n=n%4294967296:=by rw [IntKind.wrap_u32]
def qq (x y c:Nat):Nat:=(x+8589934592-y-c)%4294967296
def zf (x y c:Nat):Nat:=if x<y+c then 1 else 0
theorem Ez {x y c:Nat} (hx:x<4294967296) (hy:y<4294967296) (hc:c≤1):x+4294967296*zf x y c=qq x y c+y+c:=by
 unfold qq zf;split<;>omega
theorem zt (x y c:Nat):qq x y c<4294967296:=Nat.mod_lt _ (by decide)
theorem EA (x y c:Nat):zf x y c≤1:=by unfold zf;split<;>omega
theorem vT (x y c:Nat) (hx:x<4294967296) (hy:y<4294967296) (hc:c≤1):PC prog 269 [.prim (.int .u32 ((x:Nat):Int)),.prim (.int .u32 ((y:Nat):Int)),.prim (.int .u32 ((c:Nat):Int))] (.tup [.prim (.int .u32 ((qq x y c:Nat):Int)),.prim (.int .u32 ((zf x y c:Nat):Int))]):=by
 refine PCi ?_
 conv in bL _ _=>cbv
 simp only [bM,RN,Nat.reduceAdd,Nat.reduceSub]
 have e1:IntKind.u32.wrap (IntKind.u32.wrap ((x:Int)-y)-c)=((qq x y c:Nat):Int):=by
  rw [CC,CC];unfold qq;omega
 have e2:(0:Int)=((0:Nat):Int):=rfl
 have hd:=zt x y c
 have hb:=I6 hx hy hc (d:=qq x y c) (by unfold qq;omega)
 have h1:4294967295^^^x<4294967296:=zK ⟨by omega,hx⟩
 have h2:4294967295^^^(x^^^y)<4294967296:=zK ⟨by omega,zK ⟨hx,hy⟩⟩
 have h3:(4294967295^^^x)&&&y<4294967296:=Kv hy
 have h4:(4294967295^^^(x^^^y))&&&qq x y c<4294967296:=Kv hd
 have h5:x^^^y<4294967296:=zK ⟨hx,hy⟩
 have h6:=SP ⟨h3,h4⟩
 simp (maxSteps:=2000000) (disch:=omega) only [↓RS,RY,reduceCtorEq,reduceAdd,reduceLT,reduceLeDiff,List.reduceReplicate,IntKind.signed,max32,xor32,and32,or32,KZ,hb,e1]
 rfl
theorem PK (x y c:Nat) (hx:x<4294967296) (hy:y<4294967296) (hc:c≤1):PC prog 309 [.prim (.int .u32 ((x:Nat):Int)),.prim (.int .u32 ((y:Nat):Int)),.prim (.int .u32 ((c:Nat):Int))] (.tup [.prim (.int .u32 (((x+y+c)%4294967296:Nat):Int)),.prim (.int .u32 (((x+y+c)/4294967296:Nat):Int))]):=by
 refine PCi ?_
 conv in bL _ _=>cbv
 simp only [bM,RN,Nat.reduceAdd,Nat.reduceSub]
 simp (maxSteps:=2000000) (disch:=omega) only [↓RS,RY,reduceCtorEq,reduceAdd,reduceLT,reduceLeDiff,List.reduceReplicate,jZ]
theorem Pf (h l d:Nat) (hh:h<d) (hl:l<4294967296) (hd:d<4294967296):PC prog 308 [.prim (.int .u32 ((h:Nat):Int)),.prim (.int .u32 ((l:Nat):Int)),.prim (.int .u32 ((d:Nat):Int))] (.tup [.prim (.int .u32 (((h*4294967296+l)/d:Nat):Int)),.prim (.int .u32 (((h*4294967296+l)%d:Nat):Int))]):=by
 refine PCi ?_
 conv in bL _ _=>cbv
 simp only [bM,RN,Nat.reduceAdd,Nat.reduceSub]
 have e1:(h*4294967296+l)/d<4294967296:=Nat.div_lt_of_lt_mul (by rw [Nat.mul_comm];have:(h+1)*4294967296≤d*4294967296:=aS _ hh;omega)
 have e2:(h*4294967296+l)%d<d:=Nat.mod_lt _ (by omega)
 have e3:h*4294967296+l<18446744073709551616:=by omega
 simp (maxSteps:=2000000) (disch:=omega) only [↓RS,RY,reduceCtorEq,reduceAdd,reduceLT,reduceLeDiff,List.reduceReplicate,l4,BZ,na,uV,Jq]
def blen (x:Nat):Nat:=if x=0 then 0 else x.log2+1
theorem Q3 {x k:Nat} (h:2^k≤x) (h':x<2^(k+1)):blen x=k+1:=by
 have:x≠0:=by have:=Nat.two_pow_pos k;omega
 rw [blen,if_neg this,(Nat.log2_eq_iff this).2 ⟨h,h'⟩]
theorem uK {x:Nat} (h:x≠0):∃ k,blen x=k+1∧2^k≤x∧x<2^(k+1):=
 ⟨x.log2,by rw [blen,if_neg h],Nat.log2_self_le h,Nat.lt_log2_self⟩
theorem BM {x k:Nat} (h:2^k≤x):blen x=blen (x/2^k)+k:=by
 have hx:x≠0:=by have:=Nat.two_pow_pos k;omega
 obtain ⟨j,h1,h2,h3⟩:=uK hx
 have hkj:k≤j:=by
  rcases am j k with hlt|hge
  ·have:2^(j+1)≤2^k:=Nat.pow_le_pow_right (by decide) hlt
   omega
  ·exact hge
 obtain ⟨i,rfl⟩:∃ i,j=k+i:=⟨j-k,by omega⟩
 rw [h1,Q3 (k:=i)]
 ·omega
 ·rw [Nat.le_div_iff_mul_le (Nat.two_pow_pos k),←Nat.pow_add,Nat.add_comm];exact h2
 ·rw [Nat.div_lt_iff_lt_mul (Nat.two_pow_pos k),←Nat.pow_add];rw [show i+1+k=k+i+1 by omega];exact h3
def AF:List UInt8:=[0,1,2,2,3,3,3,3,4,4,4,4,4,4,4,4,5,5,5,5,5,5,5,5,5,5,5,5,5,5,5,5,6,6,6,6,6,6,6,6,6,6,6,6,6,6,6,6,6,6,6,6,6,6,6,6,6,6,6,6,6,6,6,6,7,7,7,7,7,7,7,7,7,7,7,7,7,7,7,7,7,7,7,7,7,7,7,7,7,7,7,7,7,7,7,7,7,7,7,7,7,7,7,7,7,7,7,7,7,7,7,7,7,7,7,7,7,7,7,7,7,7,7,7,7,7,7,7,8,8,8,8,8,8,8,8,8,8,8,8,8,8,8,8,8,8,8,8,8,8,8,8,8,8,8,8,8,8,8,8,8,8,8,8,8,8,8,8,8,8,8,8,8,8,8,8,8,8,8,8,8,8,8,8,8,8,8,8,8,8,8,8,8,8,8,8,8,8,8,8,8,8,8,8,8,8,8,8,8,8,8,8,8,8,8,8,8,8,8,8,8,8,8,8,8,8,8,8,8,8,8,8,8,8,8,8,8,8,8,8,8,8,8,8,8,8,8,8,8,8,8,8,8,8,8,8]
theorem tG:∀ x,x<256→(AF.getD x 0).toNat=blen x:=by
 have h:∀ i:Fin 256,(AF.getD i.1 0).toNat=blen i.1:=by decide
 exact fun x hx=>h ⟨x,hx⟩
theorem uL {x k:Nat} (h:x<2^k):blen x≤k:=by
 by_cases hx:x=0
 ·subst hx;exact bh _
 ·obtain ⟨j,h1,h2,h3⟩:=uK hx
  rw [h1]
  exact (Nat.pow_lt_pow_iff_right (by decide:1<2)).1 (Nat.lt_of_le_of_lt h2 h)
theorem OG (x:Nat) (hx:x<4294967296):PC prog 168 [.prim (.int .u32 ((x:Nat):Int))] (.prim (.int .i64 ((blen x:Nat):Int))):=by
 refine PCi ?_
 conv in bL _ _=>cbv
 simp only [bM,RN,Nat.reduceAdd,Nat.reduceSub]
 have h16:= @BM x 16
 have h8:= @BM x 8
 have h24:= @BM (x/65536) 8
 simp only [Nat.reducePow] at h16 h8 h24
 have hb:= @uL x 32 hx
 have fin:∀ (k m:Nat),blen x=blen m+k→m<256→some (V.prim (Value.int IntKind.i64 (IntKind.i64.wrap ((k:Int)+IntKind.i64.wrap ((AF.getD m 0).toNat:Nat)))))=some (V.prim (Value.int IntKind.i64 (blen x:Nat))):=by
  intro k m h hm
  rw [tG m hm,nN (by omega),jd (by omega) (by omega),h]
  simp;omega
 rcases am x 65536 with h1|h1
 ·rcases am x 256 with h2|h2
  ·simp (maxSteps:=2000000) (disch:=omega) only [↓RS,RY,reduceCtorEq,reduceAdd,reduceLT,reduceLeDiff,List.reduceReplicate,uv,vU]
   exact fin 0 x rfl h2
  ·simp (maxSteps:=2000000) (disch:=omega) only [↓RS,RY,reduceCtorEq,reduceAdd,reduceLT,reduceLeDiff,List.reduceReplicate,uv,vU]
   exact fin 8 (x/256) (h8 h2) (by omega)
 ·rcases am (x/65536) 256 with h2|h2
  ·simp (maxSteps:=2000000) (disch:=omega) only [↓RS,RY,reduceCtorEq,reduceAdd,reduceLT,reduceLeDiff,List.reduceReplicate,uv,vU]
   exact fin 16 (x/65536) (h16 h1) (by omega)
  ·simp (maxSteps:=2000000) (disch:=omega) only [↓RS,RY,reduceCtorEq,reduceAdd,reduceLT,reduceLeDiff,List.reduceReplicate,uv,vU]
   exact fin 24 (x/65536/256) (by rw [h16 h1,h24 h2]) (by omega)
theorem Qx (x:Nat) (hx:x<4294967296):PC prog 297 [.prim (.int .u32 ((x:Nat):Int))] (.prim (.int .i64 ((32-blen x:Nat):Int))):=by
 refine PCi ?_
 conv in bL _ _=>cbv
 simp only [bM,RN,Nat.reduceAdd,Nat.reduceSub]
 have hb:= @uL x 32 hx
 simp (maxSteps:=2000000) (disch:=omega) only [↓RS,RY,reduceCtorEq,reduceAdd,reduceLT,reduceLeDiff,List.reduceReplicate]
 refine gB (OG x hx) (.inl rfl) ?_
 have e:(32:Int)-(blen x:Nat)=((32-blen x:Nat):Int):=by omega
 simp (maxSteps:=2000000) (disch:=omega) only [↓RS,RY,reduceCtorEq,reduceAdd,reduceLT,reduceLeDiff,List.reduceReplicate,e]
theorem LF {x:Nat} (h:x≠0) (hx:x<4294967296):2147483648≤x*2^(32-blen x)∧x*2^(32-blen x)<4294967296:=by
 obtain ⟨k,h1,h2,h3⟩:=uK h
 have hb:= @uL x 32 hx
 rw [h1] at hb ⊢
 have e:(2:Nat)^(k+1)*2^(32-(k+1))=2^32:=by rw [←Nat.pow_add];congr 1;omega
 have e2:(2:Nat)^k*2^(32-(k+1))=2^31:=by rw [←Nat.pow_add];congr 1;omega
 have a1:=aS (2^(32-(k+1))) h2
 have a2:=Nat.mul_lt_mul_of_pos_right h3 (Nat.two_pow_pos (32-(k+1)))
 rw [e2] at a1;rw [e] at a2
 exact ⟨a1,a2⟩
end Go.Av
open Nat (reduceAdd reduceLT reduceLeDiff reducePow reduceDiv reduceMod reduceEqDiff)
namespace Go.Av
open Go.RowKit
open Go.Proofs.Tryz (prog)
def Cap (H:Hp) (b c sz:Nat) (es:List (List V)):Prop:=∃ junk,get H b=some (.row sz true (es++junk))∧es.length+junk.length=c
theorem Cap.app {H:Hp} {b c sz:Nat} {es:List (List V)} (h:Cap H b c sz es) (l:Hp):Cap (H++l) b c sz es:=by
 obtain ⟨j,h1,h2⟩:=h;exact ⟨j,aO h1,h2⟩
theorem Cap.append {P:Program} {H:Hp} {b n c:Nat} {fx:Bool} {ei:TyI} {es ys:List (List V)} {K:V→Hp→Prop} (h:Cap H b c ei.sz es) (hn:n=es.length) (hy:∀ y∈ys,∀ v∈y,ku v=true) (h1:es.length+ys.length≤c)
 (hK:∀ H',Cap H' b c ei.sz (es++ys)→(∀ d k,d≠b→get H d=some k→get H' d=some k)→K (.sref b 0 (n+ys.length) c ei.sz fx) H'):nP P H ei (.sref b 0 n c ei.sz fx) ys K:=by
 subst hn
 obtain ⟨junk,hg,hj⟩:=h
 refine ⟨hy,?_⟩
 simp only [hg]
 refine ⟨trivial,by simp,.inl ⟨h1,by simp;omega,trivial,?_⟩⟩
 refine hK _ ⟨junk.drop ys.length,?_,by simp;omega⟩ (fun d k hd hk=>by rw [mF hd];exact hk)
 rw [sq hg]
 simp only [kG,aX,List.take_left',bE]
 congr 3
 rw [List.drop_append]
 simp
theorem fN (l:List Nat) {i:Nat} (h:i<l.length):bk (l.take (i+1))=bk (l.take i)+4294967296^i*l.getD i 0:=by
 rw [List.take_add_one,af h,oV,ae,af h]
 simp only [Option.toList_some,bk,d9,bG,Nat.min_eq_left (Nat.le_of_lt h)]
 simp
theorem im (l:List Nat) {i:Nat} (h:l.length≤i):bk (l.take i)=bk l:=by rw [List.take_of_length_le h]
theorem LG {a b:List Nat} {o:List Nat} {i c x y w d:Nat} (ho:o.length=i) (hv:bk o+4294967296^i*c=bk (a.take i)+bk (b.take i))
 (ha:bk (a.take (i+1))=bk (a.take i)+4294967296^i*x) (hb:bk (b.take (i+1))=bk (b.take i)+4294967296^i*y) (h:c+x+y=w+4294967296*d):
 bk (o++[w])+4294967296^(i+1)*d=bk (a.take (i+1))+bk (b.take (i+1)):=by
 rw [oV,ho,ha,hb,Nat.pow_succ]
 simp only [bk,Nat.mul_zero,Nat.add_zero]
 generalize 4294967296^i=p at*
 have e5:p*4294967296*d=p*(4294967296*d):=Nat.mul_assoc ..
 have e6:p*(c+x+y)=p*w+p*(4294967296*d):=by rw [h,Nat.mul_add]
 have e7:p*(c+x+y)=p*c+p*x+p*y:=by rw [Nat.mul_add,Nat.mul_add]
 omega
theorem AD {a b:List Nat} {o:List Nat} {i c x y s:Nat} (ho:o.length=i) (hv:bk o+4294967296^i*c=bk (a.take i)+bk (b.take i))
 (ha:bk (a.take (i+1))=bk (a.take i)+4294967296^i*x) (hb:bk (b.take (i+1))=bk (b.take i)+4294967296^i*y) (h:c+x+y=s):
 bk (o++[s%4294967296])+4294967296^(i+1)*(s/4294967296)=bk (a.take (i+1))+bk (b.take (i+1)):=LG ho hv ha hb (by omega)
structure Rv (a b:List Nat) (x:Nat×Nat×List Nat) (H:Hp):Prop where
 i:x.1≤a.length
 c:x.2.1≤1
 o:x.2.2.length=x.1
 l:jD x.2.2
 v:bk x.2.2+4294967296^x.1*x.2.1=bk (a.take x.1)+bk (b.take x.1)
 H:Cap H 0 (a.length+1) 1 (lw x.2.2)
theorem RC (n:Nat):((n:Nat):Int).fdiv (2^min (Int.toNat 32) IntKind.u64.bits)=((n/4294967296:Nat):Int):=by
 show ((n:Nat):Int).fdiv ((4294967296:Nat):Int)=_
 rw [Int.fdiv_eq_ediv_of_nonneg _ (by omega)];rfl
theorem jD.snoc {l:List Nat} (h:jD l) {x:Nat} (hx:x<4294967296):jD (l++[x]):=by
 intro z hz
 rcases aF.1 hz with hz|hz
 ·exact h z hz
 ·simp at hz;subst hz;exact hx
theorem Qg (l m:List Nat) (hl:l.length<2^38) (hm:m.length<2^38) (hL:jD l) (hM:jD m):PC prog 222 [.lst 1 (lw l),.lst 1 (lw m)] (.lst 1 (lw (bf (bk l+bk m)))):=by
 refine PCi ?_
 conv in bL _ _=>cbv
 simp only [bM,RN,Nat.reduceAdd,Nat.reduceSub]
 rcases am l.length m.length with h|h
 simp (maxSteps:=2000000) (disch:=omega) only [↓RS,RY,reduceCtorEq,reduceAdd,reduceLT,reduceLeDiff,List.reduceReplicate,aP]
 rw [Nat.add_comm (bk l)]
 have hba:=Nat.le_of_lt h
 have hA:=hM;have hB:=hL
 clear h hL hM
 generalize l=b at*
 generalize m=a at*
 rotate_left
 simp (maxSteps:=2000000) (disch:=omega) only [↓RS,RY,reduceCtorEq,reduceAdd,reduceLT,reduceLeDiff,List.reduceReplicate,aP]
 have hba:m.length≤l.length:=h
 have hA:=hL;have hB:=hM
 clear h hL hM
 generalize l=a at*
 generalize m=b at*
 all_goals
  refine eG (fun (x:Nat×Nat×List Nat) J=>ov [(0,.lst 1 (lw a)),(1,.lst 1 (lw b)),(4,.prim (.slice none 0 0)),(5,.sref 0 0 x.1 (a.length+1) 1 true),(6,.prim (.int .u64 ((x.2.1:Nat):Int))),(20,.lst 1 (lw a)),(21,.prim (.int .i64 ((a.length:Nat):Int))),(22,.prim (.int .i64 ((x.1:Nat):Int)))] J 0 56)
   (Rv a b) (fun x=>a.length-x.1) (0,0,[]) rfl
   ⟨bh _,bh _,rfl,fun x hx=>by simp at hx,by simp [bk],⟨List.replicate (a.length+1) [.prim (.int .u32 ((0:Nat):Int))],by simp [lw,get],by simp [lw]⟩⟩ ?_
  rintro ⟨i,c,o⟩ J H ⟨hi,hc,ho,hO,hv,hC⟩
  try conv in ov _ _ _ _=>simp only [ov,List.lookup,bG,Option.getD_none,Nat.reduceAdd,Nat.reduceBEq]
  simp only at hi hc ho hO hv hC ⊢
  rcases am i a.length with hlt|hge
  ·have hx:=hA.getD i
   have t1:=fN a hlt
   have g1:=j9 (l:=a) (k:=i) hlt
   generalize a.getD i 0=x at*
   rcases am i b.length with hlb|hgb
   ·have g2:=j9 (l:=b) (k:=i) hlb
    have hy:=hB.getD i
    have t2:=fN b hlb
    generalize b.getD i 0=y at*
    simp (maxSteps:=2000000) (disch:=omega) only [↓RS,RY,reduceCtorEq,reduceAdd,reduceLT,reduceLeDiff,List.reduceReplicate,aP,g1,g2]
    refine Cap.append (hC.app _) (by rw [aP,ho]) (by simp [ku]) (by rw [aP,ho];simp only [aC,aI];omega) ?_
    intro H' hC' _
    simp (maxSteps:=2000000) (disch:=omega) only [↓RS,RY,reduceCtorEq,reduceAdd,reduceLT,reduceLeDiff,List.reduceReplicate,RC]
    refine bl (i+1,(c+x+y)/4294967296,o++[(c+x+y)%4294967296]) rfl ⟨hlt,Nat.le_of_lt_succ (Nat.div_lt_of_lt_mul (by omega)),by simp [ho],hO.snoc (by omega),AD ho hv t1 t2 rfl,by simp only [xy];exact hC'⟩ (by simp only;omega)
   ·have t2:bk (b.take (i+1))=bk (b.take i)+4294967296^i*0:=by rw [im b (by omega),im b hgb];omega
    simp (maxSteps:=2000000) (disch:=omega) only [↓RS,RY,reduceCtorEq,reduceAdd,reduceLT,reduceLeDiff,List.reduceReplicate,aP,g1]
    refine Cap.append (hC.app _) (by rw [aP,ho]) (by simp [ku]) (by rw [aP,ho];simp only [aC,aI];omega) ?_
    intro H' hC' _
    simp (maxSteps:=2000000) (disch:=omega) only [↓RS,RY,reduceCtorEq,reduceAdd,reduceLT,reduceLeDiff,List.reduceReplicate,RC]
    refine bl (i+1,(c+x)/4294967296,o++[(c+x)%4294967296]) rfl ⟨hlt,Nat.le_of_lt_succ (Nat.div_lt_of_lt_mul (by omega)),by simp [ho],hO.snoc (by omega),AD ho hv t1 t2 rfl,by simp only [xy];exact hC'⟩ (by simp only;omega)
  ·have hia:i=a.length:=by omega
   simp (maxSteps:=2000000) (disch:=omega) only [↓RS,RY,reduceCtorEq,reduceAdd,reduceLT,reduceLeDiff,List.reduceReplicate,aP]
   refine Cap.append (hC.app _) (by rw [aP,ho]) (by simp [ku]) (by rw [aP,ho];simp only [aC,aI];omega) ?_
   rintro H' ⟨junk,hg',hj'⟩ _
   simp (maxSteps:=2000000) (disch:=omega) only [↓RS,RY,reduceCtorEq,reduceAdd,reduceLT,reduceLeDiff,List.reduceReplicate]
   have hval:bk (o++[c])=bk a+bk b:=by
    rw [oV,ho];simp only [bk,Nat.mul_zero,Nat.add_zero]
    rw [hv,hia,im a (ax _),im b hba]
   refine bI ?_
   have hc1:lw o++[[.prim (.int .u32 ((c:Nat):Int))]]=lw (o++[c]):=by rw [xy];rfl
   rw [hc1] at hg' hj'
   refine pF hg' (x:=o++[c]) (by rw [aK,aP];simp [ho]) (by rw [List.drop_zero];exact List.take_left' (by rw [aP];simp [ho])) (by simp [ho];omega) (hO.snoc (by omega)) ?_
   rw [hval]
   simp (maxSteps:=2000000) (disch:=omega) only [↓RS,RY,reduceCtorEq,reduceAdd,reduceLT,reduceLeDiff,List.reduceReplicate]
end Go.Av
namespace Go.Av
open Go.RowKit
open Go.Proofs.Tryz (prog)
theorem lH (n:Nat):bk (List.replicate n 0)=0:=by
 induction n with
 |zero=>rfl
 |succ n ih=>simp [List.replicate_succ,bk,ih]
theorem lJ (n:Nat):jD (List.replicate n 0):=fun x hx=>by
 have:=List.eq_of_mem_replicate hx
 omega
theorem kJ (n i:Nat):(List.replicate n 0).getD i 0=0:=by
 rw [ae,List.getElem?_replicate];split<;>rfl
theorem jH {l:List Nat} {i j x:Nat} (h:i≠j):(l.set i x).getD j 0=l.getD j 0:=by
 rw [ae,ae,List.getElem?_set_ne h]
theorem GY {l:List Nat} {i x:Nat} (h:i<l.length):(l.set i x).getD i 0=x:=by
 rw [ae,List.getElem?_set_self h];rfl
structure HI (a b:List Nat) (x:Nat×Nat×List Nat) (H:Hp):Prop where
 i:x.1≤a.length
 c:x.2.1≤1
 o:x.2.2.length=a.length
 l:jD x.2.2
 z:∀ k,x.1≤k→x.2.2.getD k 0=0
 v:bk x.2.2+bk (b.take x.1)=bk (a.take x.1)+4294967296^x.1*x.2.1
 H:H=[some (.row 1 true (lw x.2.2))]
theorem Io {p x y c D B O A M:Nat} (hv:O+M=A+p*c) (h:x+4294967296*B=D+y+c):O+p*D+(M+p*y)=A+p*x+p*4294967296*B:=by
 have e:p*(x+4294967296*B)=p*(D+y+c):=by rw [h]
 rw [Nat.mul_add,Nat.mul_add,Nat.mul_add,←Nat.mul_assoc] at e
 omega
theorem C7 {a b o:List Nat} {i c x y:Nat} (hlt:i<a.length) (hc:c≤1) (ho:o.length=a.length) (hO:jD o) (hz:∀ k,i≤k→o.getD k 0=0)
 (hv:bk o+bk (b.take i)=bk (a.take i)+4294967296^i*c) (t1:bk (a.take (i+1))=bk (a.take i)+4294967296^i*x) (t2:bk (b.take (i+1))=bk (b.take i)+4294967296^i*y)
 (hx:x<4294967296) (hy:y<4294967296):HI a b (i+1,zf x y c,o.set i (qq x y c)) [some (.row 1 true (lw (o.set i (qq x y c))))]:=by
 have hs:=lG o i (qq x y c) (by omega)
 rw [hz i (ax _),Nat.mul_zero,Nat.add_zero] at hs
 refine ⟨hlt,EA _ _ _,by simp [ho],hO.set _ (zt _ _ _),fun k hk=> ?_,?_,rfl⟩
 ·simp only at hk ⊢
  rw [jH (by omega)];exact hz k (by omega)
 ·try simp only
  rw [hs,t1,t2,Nat.pow_succ]
  exact Io hv (Ez hx hy hc)
theorem GD (l m:List Nat) (hl:l.length<2^38) (hm:m.length<2^38) (hL:jD l) (hM:jD m) (hle:bk m≤bk l) (hlen:m.length≤l.length):PC prog 223 [.lst 1 (lw l),.lst 1 (lw m)] (.lst 1 (lw (bf (bk l-bk m)))):=by
 refine PCi ?_
 conv in bL _ _=>cbv
 simp only [bM,RN,simprocAttr]
 simp (maxSteps:=2000000) (disch:=omega) only [↓RS,RY,simprocAttr,aP]
 refine eG (fun (x:Nat×Nat×List Nat) J=>ov [(0,.lst 1 (lw l)),(1,.lst 1 (lw m)),(4,.prim (.slice none 0 0)),(5,.sref 0 0 l.length l.length 1 true),(6,.prim (.int .u32 ((x.2.1:Nat):Int))),(13,.lst 1 (lw l)),(14,.prim (.int .i64 ((l.length:Nat):Int))),(15,.prim (.int .i64 ((x.1:Nat):Int)))] J 0 41)
  (HI l m) (fun x=>l.length-x.1) (0,0,List.replicate l.length 0) rfl
  ⟨bh _,bh _,by simp,lJ _,fun k _=>kJ _ _,by simp [bk,lH],by simp [lw]⟩ ?_
 rintro ⟨i,c,o⟩ J H ⟨hi,hc,ho,hO,hz,hv,rfl⟩
 try conv in ov _ _ _ _=>simp only [ov,List.lookup,RO,simprocAttr]
 simp only at hi hc ho hO hz hv ⊢
 rcases am i l.length with hlt|hge
 ·have hx:=hL.getD i
  have t1:=fN l hlt
  have g1:=j9 (l:=l) (k:=i) hlt
  generalize l.getD i 0=x at*
  have g3:=mT (l:=o) (k:=i) (by omega)
  rcases am i m.length with hlb|hgb
  ·have g2:=j9 (l:=m) (k:=i) hlb
   have hy:=hM.getD i
   have t2:=fN m hlb
   generalize m.getD i 0=y at*
   simp (maxSteps:=2000000) (disch:=omega) only [↓RS,RY,simprocAttr,aP,g1,g2]
   refine gB (vT x y c hx hy hc) (.inl rfl) ?_
   simp (maxSteps:=2000000) (disch:=omega) only [↓RS,RY,simprocAttr,aP,g3,nr]
   exact bl (i+1,zf x y c,o.set i (qq x y c)) rfl (C7 hlt hc ho hO hz hv t1 t2 hx hy) (by simp only;omega)
  ·have t2:bk (m.take (i+1))=bk (m.take i)+4294967296^i*0:=by rw [im m (by omega),im m hgb];omega
   simp (maxSteps:=2000000) (disch:=omega) only [↓RS,RY,simprocAttr,aP,g1]
   refine gB (vT x 0 c hx (by omega) hc) (.inl rfl) ?_
   simp (maxSteps:=2000000) (disch:=omega) only [↓RS,RY,simprocAttr,aP,g3,nr]
   exact bl (i+1,zf x 0 c,o.set i (qq x 0 c)) rfl (C7 hlt hc ho hO hz hv t1 t2 hx (by omega)) (by simp only;omega)
 ·have hia:i=l.length:=by omega
  subst hia
  have hval:bk o=bk l-bk m:=by
   rw [im m hlen,im l (ax _)] at hv
   have h1:=ms hO
   rw [ho] at h1
   have hc0:c=0:=by
    rcases am c 1 with h|h
    ·omega
    ·have:c=1:=by omega
     subst this;omega
   subst hc0;omega
  simp (maxSteps:=2000000) (disch:=omega) only [↓RS,RY,simprocAttr,aP]
  refine bI (pF rfl (x:=o) (by rw [aP];omega) (by rw [List.drop_zero,←ho,←aP];exact List.take_length) (by omega) hO ?_)
  rw [hval]
  simp (maxSteps:=2000000) (disch:=omega) only [↓RS,RY,simprocAttr]
end Go.Av
open Nat (reduceAdd reduceLT reduceLeDiff reducePow reduceDiv reduceMod reduceEqDiff)
namespace Go.Av
open Go.RowKit
open Go.Proofs.Tryz (prog)
structure PO (a b:List Nat) (x:Nat×List Nat) (H:Hp):Prop where
 i:x.1≤a.length
 o:x.2.length=a.length+b.length
 l:jD x.2
 z:∀ k,x.1+b.length≤k→x.2.getD k 0=0
 v:bk x.2=bk (a.take x.1)*bk b
 H:H=[some (.row 1 true (lw x.2))]
structure Ru (a b:List Nat) (i x:Nat) (s:Nat×Nat×List Nat) (H:Hp):Prop where
 k:s.1≤b.length
 c:s.2.1<4294967296
 o:s.2.2.length=a.length+b.length
 l:jD s.2.2
 z:∀ k,i+b.length≤k→s.2.2.getD k 0=0
 v:bk s.2.2+4294967296^(i+s.1)*s.2.1=bk (a.take i)*bk b+4294967296^i*x*bk (b.take s.1)
 H:H=[some (.row 1 true (lw s.2.2))]
theorem HS {p q x y c w s O O' A M B:Nat} (hs:c+(x*y+w)=s) (hv:O+p*q*c=A+p*x*M) (ho:O'+p*q*w=O+p*q*(s%B)):O'+p*(q*B)*(s/B)=A+p*x*(M+q*y):=by
 have h1:s=s%B+B*(s/B):=(Nat.mod_add_div s B).symm
 have e1:p*q*s=p*q*(s%B)+p*(q*B)*(s/B):=by
  conv=>lhs;rw [h1]
  rw [Nat.mul_add];congr 1;rw [Nat.mul_assoc,Nat.mul_assoc,Nat.mul_assoc]
 have e2:p*q*s=p*q*c+p*x*(q*y)+p*q*w:=by
  rw [←hs,Nat.mul_add,Nat.mul_add,←Nat.add_assoc];congr 2
  rw [Nat.mul_assoc,Nat.mul_assoc,Nat.mul_left_comm q x y]
 rw [Nat.mul_add]
 omega
theorem MP (l m:List Nat) (hl:l.length<2^38) (hm:m.length<2^38) (hL:jD l) (hM:jD m):PC prog 190 [.lst 1 (lw l),.lst 1 (lw m)] (.lst 1 (lw (bf (bk l*bk m)))):=by
 refine PCi ?_
 conv in bL _ _=>cbv
 simp only [bM,RN,Nat.reduceAdd,Nat.reduceSub]
 simp (maxSteps:=2000000) (disch:=omega) only [↓RS,RY,reduceCtorEq,reduceAdd,reduceLT,reduceLeDiff,List.reduceReplicate,aP]
 refine eG (fun (x:Nat×List Nat) J=>ov [(0,.lst 1 (lw l)),(1,.lst 1 (lw m)),(4,.prim (.slice none 0 0)),(5,.sref 0 0 (l.length+m.length) (l.length+m.length) 1 true),(17,.lst 1 (lw l)),(18,.prim (.int .i64 ((l.length:Nat):Int))),(19,.prim (.int .i64 ((x.1:Nat):Int)))] J 0 67)
  (PO l m) (fun x=>l.length-x.1) (0,List.replicate (l.length+m.length) 0) rfl
  ⟨bh _,by simp,lJ _,fun k _=>kJ _ _,by simp [bk,lH],by simp [lw]⟩ ?_
 rintro ⟨i,o⟩ J H ⟨hi,ho,hO,hz,hv,rfl⟩
 try conv in ov _ _ _ _=>simp only [ov,List.lookup,bG,Option.getD_none,Nat.reduceAdd,Nat.reduceBEq]
 simp only at hi ho hO hz hv ⊢
 rcases am i l.length with hlt|hge
 ·have hx:=hL.getD i
  have t1:=fN l hlt
  have g1:=j9 (l:=l) (k:=i) hlt
  generalize l.getD i 0=x at*
  simp (maxSteps:=2000000) (disch:=omega) only [↓RS,RY,reduceCtorEq,reduceAdd,reduceLT,reduceLeDiff,List.reduceReplicate,aP,g1]
  refine eG (fun (s:Nat×Nat×List Nat) J=>ov [(0,.lst 1 (lw l)),(1,.lst 1 (lw m)),(4,.prim (.slice none 0 0)),(5,.sref 0 0 (l.length+m.length) (l.length+m.length) 1 true),(6,.prim (.int .i64 ((i:Nat):Int))),(7,.prim (.int .u32 ((x:Nat):Int))),(8,.prim (.int .u64 ((s.2.1:Nat):Int))),(17,.lst 1 (lw l)),(18,.prim (.int .i64 ((l.length:Nat):Int))),(19,.prim (.int .i64 ((i:Nat):Int))),(24,.lst 1 (lw m)),(25,.prim (.int .i64 ((m.length:Nat):Int))),(26,.prim (.int .i64 ((s.1:Nat):Int)))] J 0 67)
   (Ru l m i x) (fun s=>m.length-s.1) (0,0,o) rfl
   ⟨bh _,Nat.zero_lt_succ _,ho,hO,hz,by simp [bk,hv],rfl⟩ ?_
  rintro ⟨k,c,o'⟩ J' H ⟨hk,hc,ho',hO',hz',hv',rfl⟩
  try conv in ov _ _ _ _=>simp only [ov,List.lookup,bG,Option.getD_none,Nat.reduceAdd,Nat.reduceBEq]
  simp only at hk hc ho' hO' hz' hv' ⊢
  rcases am k m.length with hkm|hkm
  ·have hy:=hM.getD k
   have t2:=fN m hkm
   have g2:=j9 (l:=m) (k:=k) hkm
   generalize m.getD k 0=y at*
   have g3:=mT (l:=o') (k:=i+k) (by omega)
   have hs:=lG o' (i+k)
   have hw:=hO'.getD (i+k)
   generalize hwe:o'.getD (i+k) 0=w at*
   have hxy:x*y≤4294967295*4294967295:=Nat.mul_le_mul (by omega) (by omega)
   simp (maxSteps:=2000000) (disch:=omega) only [↓RS,RY,reduceCtorEq,reduceAdd,reduceLT,reduceLeDiff,List.reduceReplicate,aP,g1,g2,g3,nr,jZ]
   refine bl (k+1,(c+(x*y+w))/4294967296,o'.set (i+k) ((c+(x*y+w))%4294967296)) rfl ⟨hkm,by simp only;omega,by simp [ho'],hO'.set _ (by omega),fun j hj=> ?_,?_,rfl⟩ (by simp only;omega)
   ·try simp only
    rw [jH (by omega)];exact hz' j hj
   ·have h1:=hs ((c+(x*y+w))%4294967296) (by omega)
    try simp only
    rw [t2,Nat.pow_add 4294967296 i (k+1),Nat.pow_succ]
    rw [Nat.pow_add] at h1 hv'
    exact HS rfl hv' h1
  ·have hkm':k=m.length:=by omega
   subst hkm'
   have g3:=mT (l:=o') (k:=i+m.length) (by omega)
   simp (maxSteps:=2000000) (disch:=omega) only [↓RS,RY,reduceCtorEq,reduceAdd,reduceLT,reduceLeDiff,List.reduceReplicate,aP,g3,nr]
   have hs:=lG o' (i+m.length) c (by omega)
   rw [hz' _ (ax _),Nat.mul_zero,Nat.add_zero] at hs
   refine bl (i+1,o'.set (i+m.length) c) rfl ⟨hlt,by simp [ho'],hO'.set _ hc,fun j hj=> ?_,?_,rfl⟩ (by simp only;omega)
   ·simp only at hj ⊢
    rw [jH (by omega)];exact hz' j (by omega)
   ·try simp only
    rw [hs,hv',t1,im m (ax _),Nat.add_mul]
 ·have hia:i=l.length:=by omega
  subst hia
  rw [im l (ax _)] at hv
  simp (maxSteps:=2000000) (disch:=omega) only [↓RS,RY,reduceCtorEq,reduceAdd,reduceLT,reduceLeDiff,List.reduceReplicate,aP]
  refine bI (pF rfl (x:=o) (by rw [aP];omega) (by rw [List.drop_zero,←ho,←aP];exact List.take_length) (by omega) hO ?_)
  rw [hv]
  simp (maxSteps:=2000000) (disch:=omega) only [↓RS,RY,reduceCtorEq,reduceAdd,reduceLT,reduceLeDiff,List.reduceReplicate]
end Go.Av
