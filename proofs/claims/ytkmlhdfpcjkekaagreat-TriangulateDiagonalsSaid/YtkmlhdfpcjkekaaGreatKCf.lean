/- Helping texts: Cf, Cg, Ch. -/
import Derived.Test.YtkmlhdfpcjkekaaGreatKCc
set_option linter.unusedSimpArgs false
set_option linter.unusedVariables false
set_option maxRecDepth 100000
set_option maxHeartbeats 16000000
open Nat (reduceAdd reduceLT reduceLeDiff reducePow reduceDiv reduceMod reduceEqDiff)
namespace Go.Av
open Go.RowKit
open Go.Proofs.Tryz (prog)
theorem wU {k:Nat}:k+1-1=k:=Nat.add_sub_cancel k 1
theorem P9 {a n:Nat} (h:n≤64):((a:Nat):Int)*(2^min n IntKind.u64.bits)=((a*2^n:Nat):Int):=shlN h
theorem JB {a n:Nat} (h:n≤64):((a:Nat):Int).fdiv (2^min n IntKind.u64.bits)=((a/2^n:Nat):Int):=shrN h
theorem aZ {α:Type} {l:List α} {x y:α}:(l++[x]).set l.length y=l++[y]:=by simp
structure PP (a:List Nat) (d:Nat) (x:Nat×Nat×List Nat) (H:Hp):Prop where
 i:x.1≤a.length
 r:x.2.1<d
 o:x.2.2.length=a.length
 l:jD x.2.2
 z:∀ k,k<x.1→x.2.2.getD k 0=0
 v:bk x.2.2*d+4294967296^x.1*x.2.1=4294967296^x.1*bk (a.drop x.1)
 H:H=[some (.row 1 true (lw x.2.2))]
theorem HY {p x r d D R O O' A s:Nat} (hs:r*4294967296+x=s) (hD:s=D*d+R) (hv:O*d+p*4294967296*r=p*4294967296*A) (ho:O'=O+p*D):O'*d+p*R=p*(x+4294967296*A):=by
 have e1:p*s=p*(D*d)+p*R:=by rw [←Nat.mul_add,←hD]
 have e2:p*s=p*4294967296*r+p*x:=by rw [←hs,Nat.mul_add,Nat.mul_comm r,Nat.mul_assoc]
 rw [ho,Nat.add_mul,Nat.mul_add,Nat.mul_assoc,←Nat.mul_assoc p 4294967296 A]
 omega
theorem ND (l:List Nat) (d:Nat) (hl:l.length<2^38) (hL:jD l) (hd:0<d) (hd':d<4294967296):PC prog 296 [.lst 1 (lw l),.prim (.int .u32 ((d:Nat):Int))] (.tup [.lst 1 (lw (bf (bk l/d))),.prim (.int .u32 ((bk l%d:Nat):Int))]):=by
 refine PCi ?_
 conv in bL _ _=>cbv
 simp only [bM,RN,Nat.reduceAdd,Nat.reduceSub]
 simp (maxSteps:=2000000) (disch:=omega) only [↓RS,RY,reduceCtorEq,reduceAdd,reduceLT,reduceLeDiff,List.reduceReplicate,aP]
 refine eG (fun (x:Nat×Nat×List Nat) J=>ov [(0,.lst 1 (lw l)),(1,.prim (.int .u32 ((d:Nat):Int))),(4,.prim (.slice none 0 0)),(5,.prim (.int .u32 ((0:Nat):Int))),(6,.sref 0 0 l.length l.length 1 true),(7,.prim (.int .u32 ((x.2.1:Nat):Int))),(8,.prim (.int .i64 ((x.1:Int)-1)))] J 0 35)
  (PP l d) (fun x=>x.1) (l.length,0,List.replicate l.length 0) rfl
  ⟨ax _,hd,by simp,lJ _,fun k _=>kJ _ _,by simp [bk,lH],by simp [lw]⟩ ?_
 rintro ⟨i,r,o⟩ J H ⟨hi,hr,ho,hO,hz,hv,rfl⟩
 try conv in ov _ _ _ _=>simp only [ov,List.lookup,bG,Option.getD_none,Nat.reduceAdd,Nat.reduceBEq]
 simp only at hi hr ho hO hz hv ⊢
 rcases i with _|i
 ·have e1:bk o*d+r=bk l:=by simpa using hv
  have e2:bk o=bk l/d:=by
   rw [←e1,Nat.mul_comm,Nat.mul_add_div hd,Nat.div_eq_of_lt hr];rfl
  have e3:r=bk l%d:=by
   rw [←e1,Nat.mul_comm,Nat.mul_add_mod,bA hr]
  simp (maxSteps:=2000000) (disch:=omega) only [↓RS,RY,reduceCtorEq,reduceAdd,reduceLT,reduceLeDiff,List.reduceReplicate,aP,hz]
  refine bI (pF rfl (x:=o) (by rw [aP];omega) (by rw [List.drop_zero,←ho,←aP];exact List.take_length) (by omega) hO ?_)
  rw [e2]
  simp (maxSteps:=2000000) (disch:=omega) only [↓RS,RY,reduceCtorEq,reduceAdd,reduceLT,reduceLeDiff,List.reduceReplicate,e3]
 ·have hx:=hL.getD i
  have t1:=kQ l (k:=i) (by omega)
  have g1:=j9 (l:=l) (k:=i) (by omega)
  generalize l.getD i 0=x at*
  have g3:=mT (l:=o) (k:=i) (by omega)
  have hs:=lG o i ((r*4294967296+x)/d) (by omega)
  rw [hz i (by omega),Nat.mul_zero,Nat.add_zero] at hs
  simp (maxSteps:=2000000) (disch:=omega) only [↓RS,RY,reduceCtorEq,reduceAdd,reduceLT,reduceLeDiff,List.reduceReplicate,aP,g1,wU]
  refine gB (Pf r x d hr hx hd') (.inl rfl) ?_
  simp (maxSteps:=2000000) (disch:=omega) only [↓RS,RY,reduceCtorEq,reduceAdd,reduceLT,reduceLeDiff,List.reduceReplicate,aP,g3,nr,wU]
  have hD:(r*4294967296+x)/d<4294967296:=Nat.div_lt_of_lt_mul (by rw [Nat.mul_comm];have:(r+1)*4294967296≤d*4294967296:=aS _ hr;omega)
  refine bl (i,(r*4294967296+x)%d,o.set i ((r*4294967296+x)/d)) rfl ⟨by simp only;omega,Nat.mod_lt _ hd,by simp [ho],hO.set _ hD,fun j hj=> ?_,?_,rfl⟩ (by simp only;omega)
  ·simp only at hj ⊢
   rw [jH (by omega)];exact hz j (by omega)
  ·try simp only
   rw [t1];simp only [bk]
   rw [Nat.pow_succ] at hv
   exact HY rfl (by have h:=Nat.div_add_mod (r*4294967296+x) d;rw [Nat.mul_comm d] at h;exact h.symm) hv hs
def mU (k n:Nat):List Nat:=match k with
 |0=>[]
 |k+1=>(n%4294967296)::mU k (n/4294967296)
theorem DC:∀ {l:List Nat},jD l→l=mU l.length (bk l)
 |[],_=>rfl
 |x::l,h=>by
  have h0:=h x (ah ..)
  have h1:=DC (l:=l) (fun y hy=>h y (ag _ hy))
  simp only [aC,mU,bk]
  rw [show (x+4294967296*bk l)%4294967296=x by omega,show (x+4294967296*bk l)/4294967296=bk l by omega,←h1]
theorem qY:∀ (k n:Nat),(mU k n).length=k
 |0,_=>rfl
 |k+1,n=>by simp [mU,qY k]
theorem tE:∀ (k n:Nat),jD (mU k n)
 |0,_=>fun x hx=>by simp [mU] at hx
 |k+1,n=>fun x hx=>by
  simp only [mU,ay] at hx
  rcases hx with rfl|hx
  ·omega
  ·exact tE k _ x hx
theorem tC:∀ (k n:Nat),n<4294967296^k→bk (mU k n)=n
 |0,n,h=>by simp at h;subst h;rfl
 |k+1,n,h=>by
  simp only [mU,bk]
  rw [Nat.pow_succ] at h
  rw [tC k _ (Nat.div_lt_of_lt_mul (by rw [Nat.mul_comm];exact h))]
  omega
structure PQ (a:List Nat) (n:Nat) (H0:Hp) (x:Nat×List Nat) (H:Hp):Prop where
 i:x.1≤a.length
 o:x.2.length=a.length+1
 l:jD x.2
 c:x.2.getD x.1 0<2^n
 z:∀ k,x.1<k→x.2.getD k 0=0
 v:bk x.2=bk (a.take x.1)*2^n
 H:H=H0++[some (.row 1 true (lw x.2))]
theorem Sr {x n c:Nat} (hn:n<32) (hc:c<2^n):c|||(x*2^n%4294967296)=c+x*2^n%4294967296:=by
 have e:(4294967296:Nat)=2^(32-n)*2^n:=by rw [←Nat.pow_add];rw [show 32-n+n=32 by omega]
 rw [e,Nat.mul_mod_mul_right,Nat.or_comm,As _ _ _ hc,Nat.add_comm]
theorem Ga {H:Hp} {K:V→Hp→Prop} (l:List Nat) (n:Nat) (hl:l.length<2^38) (hL:jD l) (hn:n<32)
 (hK:K (.sref H.length 0 (l.length+1) (l.length+1) 1 true) (H++[some (.row 1 true (lw (mU (l.length+1) (bk l*2^n))))])):
 SC prog 298 [.lst 1 (lw l),.prim (.int .i64 ((n:Nat):Int))] H K:=by
 refine SCi ?_
 conv in bL _ _=>cbv
 simp only [bM,RN,Nat.reduceAdd,Nat.reduceSub]
 have hp:2^n≤2147483648:=Nat.pow_le_pow_right (by decide) (show n≤31 by omega)
 have hp0:=Nat.two_pow_pos n
 simp (maxSteps:=2000000) (disch:=omega) only [↓RS,RY,reduceCtorEq,reduceAdd,reduceLT,reduceLeDiff,List.reduceReplicate,aP]
 refine eG (fun (x:Nat×List Nat) J=>ov [(0,.lst 1 (lw l)),(1,.prim (.int .i64 ((n:Nat):Int))),(4,.prim (.slice none 0 0)),(5,.sref H.length 0 (l.length+1) (l.length+1) 1 true),(13,.lst 1 (lw l)),(14,.prim (.int .i64 ((l.length:Nat):Int))),(15,.prim (.int .i64 ((x.1:Nat):Int)))] J 0 41)
  (PQ l n H) (fun x=>l.length-x.1) (0,List.replicate (l.length+1) 0) rfl
  ⟨bh _,by simp,lJ _,by rw [kJ];exact hp0,fun k _=>kJ _ _,by rw [lH];simp [bk],by simp [lw]⟩ ?_
 rintro ⟨i,o⟩ J H' ⟨hi,ho,hO,hc,hz,hv,rfl⟩
 try conv in ov _ _ _ _=>simp only [ov,List.lookup,bG,Option.getD_none,Nat.reduceAdd,Nat.reduceBEq]
 simp only at hi ho hO hc hz hv ⊢
 rcases am i l.length with hlt|hge
 ·have hx:=hL.getD i
  have t1:=fN l hlt
  have g1:=j9 (l:=l) (k:=i) hlt
  generalize l.getD i 0=x at*
  have g3:=mT (l:=o) (k:=i) (by omega)
  have hs1:=lG o i
  generalize o.getD i 0=c at*
  have hy:x*2^n<4294967296*2^n:=Nat.mul_lt_mul_of_pos_right hx hp0
  have hol:=Sr (x:=x) hn hc
  have hom:=Nat.mod_lt (x*2^n) (show 0<4294967296 by decide)
  have hor:c|||x*2^n%4294967296<4294967296:=Nat.or_lt_two_pow (n:=32) (by omega) (by omega)
  generalize hye:x*2^n=y at*
  have hq:y/4294967296<2^n:=Nat.div_lt_of_lt_mul hy
  have g4:=mT (l:=o.set i (c|||y%4294967296)) (k:=i+1) (by simp;omega)
  have hs2:=lG (o.set i (c|||y%4294967296)) (i+1) (y/4294967296) (by simp;omega)
  rw [jH (by omega),hz _ (Nat.lt_succ_self i),Nat.mul_zero,Nat.add_zero] at hs2
  simp (maxSteps:=2000000) (disch:=omega) only [↓RS,RY,reduceCtorEq,reduceAdd,reduceLT,reduceLeDiff,List.reduceReplicate,aP,g1,g3,g4,nr,P9,hye,or32,jZ,aZ]
  refine bl (i+1,(o.set i (c|||y%4294967296)).set (i+1) (y/4294967296)) rfl ⟨hlt,by simp [ho],(hO.set _ hor).set _ (by omega),?_,fun j hj=> ?_,?_,rfl⟩ (by simp only;omega)
  ·try simp only
   rw [GY (by simp;omega)];exact hq
  ·simp only at hj ⊢
   rw [jH (by omega),jH (by omega)];exact hz j (by omega)
  ·have h1:=hs1 (c|||y%4294967296) (by omega)
   try simp only
   rw [hs2,t1,Nat.add_mul,Nat.mul_assoc,hye,←hv]
   rw [hol,Nat.mul_add] at h1
   rw [Nat.pow_succ,Nat.mul_assoc,hol]
   have e:4294967296^i*y=4294967296^i*(y%4294967296)+4294967296^i*(4294967296*(y/4294967296)):=by rw [←Nat.mul_add,Nat.mod_add_div]
   omega
 ·have hia:i=l.length:=by omega
  subst hia
  rw [im l (ax _)] at hv
  have e:lw (mU (l.length+1) (bk l*2^n))=lw o:=by rw [←hv,←ho,←DC hO]
  rw [e] at hK
  simp (maxSteps:=2000000) (disch:=omega) only [↓RS,RY,reduceCtorEq,reduceAdd,reduceLT,reduceLeDiff,List.reduceReplicate,aP]
  exact hK
structure Sd (a:List Nat) (N:Nat) (x:Nat×List Nat) (H:Hp):Prop where
 i:x.1≤a.length
 o:x.2.length=a.length
 l:jD x.2
 z:∀ k,x.1≤k→x.2.getD k 0=0
 v:bk x.2=N%4294967296^x.1
 H:H=[some (.row 1 true (lw x.2))]
theorem MJ {x y r n:Nat} (hn:n<32):(x+4294967296*(y+4294967296*r))/2^n%4294967296=(x+4294967296*y)/2^n%4294967296:=by
 have e:(4294967296:Nat)=2^n*2^(32-n):=by rw [←Nat.pow_add];rw [show n+(32-n)=32 by omega]
 have e1:x+4294967296*(y+4294967296*r)=(x+4294967296*y)+2^n*(4294967296*(2^(32-n)*r)):=by
  have:2^n*(4294967296*(2^(32-n)*r))=4294967296*(4294967296*r):=by
   conv=>rhs;rw [show 4294967296*(4294967296*r)=(2^n*2^(32-n))*(4294967296*r) by rw [←e]]
   grind
  omega
 rw [e1,Nat.add_mul_div_left _ _ (Nat.two_pow_pos n),Nat.add_mul_mod_self_left]
theorem GG {l:List Nat} (hL:jD l) {i:Nat} (h:i≤l.length):bk l/4294967296^i=bk (l.drop i):=by
 rw [nt l i h,Nat.add_mul_div_left _ _ (Nat.pow_pos (by decide)),Nat.div_eq_of_lt,aX]
 have:=ms (hL.take i)
 rwa [d9,Nat.min_eq_left h] at this
theorem PZ {l o:List Nat} {i D n:Nat} (hL:jD l) (hn:n<32) (hi:i<l.length) (ho:bk (o.set i D)=bk o+4294967296^i*D) (hv:bk o=bk l/2^n%4294967296^i) (hD:D=(bk (l.drop i))/2^n%4294967296):
 bk (o.set i D)=bk l/2^n%4294967296^(i+1):=by
 rw [ho,hv,Nat.pow_succ,Nat.mod_mul,hD,←GG hL (Nat.le_of_lt hi),Nat.div_div_eq_div_mul,Nat.div_div_eq_div_mul,Nat.mul_comm (2^n)]
theorem HP (l:List Nat) (n:Nat) (hl:l.length<2^38) (hL:jD l) (hn:n<32):PC prog 300 [.lst 1 (lw l),.prim (.int .i64 ((n:Nat):Int))] (.lst 1 (lw (bf (bk l/2^n)))):=by
 refine PCi ?_
 conv in bL _ _=>cbv
 simp only [bM,RN,Nat.reduceAdd,Nat.reduceSub]
 have hp0:=Nat.two_pow_pos n
 simp (maxSteps:=2000000) (disch:=omega) only [↓RS,RY,reduceCtorEq,reduceAdd,reduceLT,reduceLeDiff,List.reduceReplicate,aP]
 refine eG (fun (x:Nat×List Nat) J=>ov [(0,.lst 1 (lw l)),(1,.prim (.int .i64 ((n:Nat):Int))),(4,.prim (.slice none 0 0)),(5,.sref 0 0 l.length l.length 1 true),(11,.lst 1 (lw l)),(12,.prim (.int .i64 ((l.length:Nat):Int))),(13,.prim (.int .i64 ((x.1:Nat):Int)))] J 0 45)
  (Sd l (bk l/2^n)) (fun x=>l.length-x.1) (0,List.replicate l.length 0) rfl
  ⟨bh _,by simp,lJ _,fun k _=>kJ _ _,by simp [lH,Nat.mod_one],by simp [lw]⟩ ?_
 rintro ⟨i,o⟩ J H ⟨hi,ho,hO,hz,hv,rfl⟩
 try conv in ov _ _ _ _=>simp only [ov,List.lookup,bG,Option.getD_none,Nat.reduceAdd,Nat.reduceBEq]
 simp only at hi ho hO hz hv ⊢
 rcases am i l.length with hlt|hge
 ·have hx:=hL.getD i
  have t1:=kQ l hlt
  have g1:=j9 (l:=l) (k:=i) hlt
  have hs:=fun D=>lG o i D (by omega)
  simp only [hz i (ax _),Nat.mul_zero,Nat.add_zero] at hs
  have g3:=mT (l:=o) (k:=i) (by omega)
  have fin:∀ D,D<4294967296→D=(bk (l.drop i))/2^n%4294967296→Sd l (bk l/2^n) (i+1,o.set i D) [some (.row 1 true (lw (o.set i D)))]:=fun D hD hDe=>
   ⟨hlt,by simp [ho],hO.set _ hD,fun j hj=>by simp only at hj ⊢;rw [jH (by omega)];exact hz j (by omega),PZ hL hn hlt (hs D) hv hDe,rfl⟩
  rcases am (i+1) l.length with hlt2|hge2
  ·have hy:=hL.getD (i+1)
   have t2:=kQ l hlt2
   have g2:=j9 (l:=l) (k:=i+1) hlt2
   generalize l.getD i 0=x at*
   generalize l.getD (i+1) 0=y at*
   have hor:x|||y*4294967296=x+4294967296*y:=by rw [Nat.or_comm,na hx,Nat.add_comm,Nat.mul_comm]
   have hq:(x+4294967296*y)/2^n≤x+4294967296*y:=Nat.div_le_self _ _
   simp (maxSteps:=2000000) (disch:=omega) only [↓RS,RY,reduceCtorEq,reduceAdd,reduceLT,reduceLeDiff,List.reduceReplicate,aP,g1,g2,g3,nr,l4,BZ,hor,JB]
   exact bl (i+1,o.set i ((x+4294967296*y)/2^n%4294967296)) rfl (fin _ (Nat.mod_lt _ (by decide)) (by rw [t1,t2];simp only [bk];exact (MJ hn).symm)) (by simp only;omega)
  ·have t2:l.drop (i+1)=[]:=List.drop_of_length_le hge2
   generalize l.getD i 0=x at*
   have hq:x/2^n≤x:=Nat.div_le_self _ _
   simp (maxSteps:=2000000) (disch:=omega) only [↓RS,RY,reduceCtorEq,reduceAdd,reduceLT,reduceLeDiff,List.reduceReplicate,aP,g1,g3,nr,JB]
   exact bl (i+1,o.set i (x/2^n)) rfl (fin _ (by omega) (by rw [t1,t2];simp only [bk,Nat.mul_zero,Nat.add_zero];rw [bA (by omega)])) (by simp only;omega)
 ·have hia:i=l.length:=by omega
  subst hia
  have hval:bk o=bk l/2^n:=by
   rw [hv,bA]
   exact Nat.lt_of_le_of_lt (Nat.div_le_self _ _) (ms hL)
  simp (maxSteps:=2000000) (disch:=omega) only [↓RS,RY,reduceCtorEq,reduceAdd,reduceLT,reduceLeDiff,List.reduceReplicate,aP]
  refine bI (pF rfl (x:=o) (by rw [aP];omega) (by rw [List.drop_zero,←ho,←aP];exact List.take_length) (by omega) hO ?_)
  rw [hval]
  simp (maxSteps:=2000000) (disch:=omega) only [↓RS,RY,reduceCtorEq,reduceAdd,reduceLT,reduceLeDiff,List.reduceReplicate]
end Go.Av
namespace Go.Av
theorem Kb {U V B:Nat} (h:U<B*V):U/V<B:=Nat.div_lt_of_lt_mul (by rw [Nat.mul_comm];exact h)
theorem Sz {U V B p lo u2 t vl v2 v1:Nat} (hU:U=lo+p*(u2+B*t)) (hlo:lo<p) (hu2:u2<B) (hV:V=vl+p*(v2+B*v1)) (hv1:0<v1):U/V≤t/v1:=by
 rw [Nat.le_div_iff_mul_le hv1]
 have h1:U/V*V≤U:=Nat.div_mul_le_self U V
 generalize U/V=q at*
 have hBp:0<p*B:=Nat.mul_pos (by omega) (by omega)
 have h2:(q*v1)*(p*B)≤q*V:=by
  rw [hV,Nat.mul_assoc];refine Nat.mul_le_mul_left q ?_
  rw [Nat.mul_add]
  have:v1*(p*B)=p*(B*v1):=by rw [Nat.mul_comm,Nat.mul_assoc]
  omega
 have h3:U<(t+1)*(p*B):=by
  have e:(t+1)*(p*B)=p*(B*t)+p*B:=by rw [Nat.add_mul,Nat.one_mul,Nat.mul_comm t,Nat.mul_assoc]
  have e2:p*(u2+1)≤p*B:=Nat.mul_le_mul_left p hu2
  rw [Nat.mul_add] at e2 hU
  omega
 have h4:(q*v1)*(p*B)<(t+1)*(p*B):=by omega
 have:=Nat.lt_of_mul_lt_mul_right h4
 omega
theorem SA {U V B p lo u2 t vl v2 v1 g r:Nat} (hU:U=lo+p*(u2+B*t)) (hlo:lo<p) (hV:V=vl+p*(v2+B*v1)) (hUV:U<B*V) (ht:g*v1+r=t) (hq:U/V≤g) (h:B≤g∨r*B+u2<g*v2):U/V+1≤g:=by
 have hqB:=Kb hUV
 rcases h with h|h
 ·omega
 ·rcases am (U/V) g with h1|h1
  ·exact h1
  ·exfalso
   have hqg:U/V=g:=by omega
   have h1:U/V*V≤U:=Nat.div_mul_le_self U V
   rw [hqg] at h1
   have h2:p*(g*(v2+B*v1))≤g*V:=by
    have e0:g*V=g*vl+p*(g*(v2+B*v1)):=by rw [hV,Nat.mul_add,Nat.mul_left_comm g p]
    omega
   have h3:p*(g*(v2+B*v1))<p*(u2+B*t+1):=by rw [Nat.mul_add p (u2+B*t)];omega
   have h4:=Nat.lt_of_mul_lt_mul_left h3
   rw [←ht] at h4
   have e:g*(v2+B*v1)=g*v2+B*(g*v1):=by rw [Nat.mul_add];congr 1;rw [Nat.mul_left_comm]
   rw [e,Nat.mul_add,Nat.mul_comm B r] at h4
   omega
theorem RU {U V B p lo u2 t vl v2 v1 g r:Nat} (hU:U=lo+p*(u2+B*t)) (hV:V=vl+p*(v2+B*v1)) (hvl:vl<p) (hv1:0<v1) (hv2:v2<B) (ht:g*v1+r=t) (hg:g<B) (h:B≤r∨g*v2≤r*B+u2):g≤U/V+1:=by
 have hp:0<p:=by omega
 have hVpos:0<V:=by
  have:0<p*(v2+B*v1):=Nat.mul_pos hp (by have:=Nat.mul_pos (show 0<B by omega) hv1;omega)
  omega
 have h0:g*v2≤r*B+u2:=by
  rcases h with h|h
  ·have a1:g*v2≤B*B:=Nat.mul_le_mul (by omega) (by omega)
   have a2:B*B≤r*B:=aS B h
   omega
  ·exact h
 have h1:g*(v2+B*v1)≤u2+B*t:=by
  have e:g*(v2+B*v1)=g*v2+B*(g*v1):=by rw [Nat.mul_add];congr 1;rw [Nat.mul_left_comm]
  rw [e,←ht,Nat.mul_add,Nat.mul_comm B r];omega
 have h2:g*V≤g*vl+U:=by
  rw [hV,Nat.mul_add,Nat.mul_left_comm g p]
  have:=Nat.mul_le_mul_left p h1
  omega
 have h3:g*vl<V:=by
  have a1:g*vl≤B*p:=Nat.mul_le_mul (by omega) (by omega)
  have a0:g*vl<B*p:=by
   rcases Nat.eq_zero_or_pos g with rfl|hg0
   ·rw [Nat.zero_mul];exact Nat.mul_pos (by omega) hp
   ·exact Nat.lt_of_lt_of_le (Nat.mul_lt_mul_of_pos_left hvl hg0) (aS p (by omega))
  have a2:B*p≤p*(B*v1):=by rw [Nat.mul_comm B p];exact Nat.mul_le_mul_left p (Nat.le_mul_of_pos_right B hv1)
  rw [hV,Nat.mul_add];omega
 rw [←Nat.lt_succ_iff]
 refine Nat.lt_of_not_le fun hc=> ?_
 have h4:(U/V+1+1)*V≤g*V:=aS V hc
 have h5:U<(U/V+1)*V:=by
  have:=Nat.lt_mul_div_succ U hVpos
  rwa [Nat.mul_comm] at this
 rw [Nat.add_mul (U/V+1),Nat.one_mul] at h4
 omega
theorem Kc {N q V p:Nat} (hp:0<p) (hV:0<V) (hq:q=N/p/V):p*(q*V)≤N∧N<p*((q+1)*V):=by
 subst hq
 rw [Nat.div_div_eq_div_mul]
 have h1:=Nat.div_mul_le_self N (p*V)
 have h2:=Nat.lt_mul_div_succ N (Nat.mul_pos hp hV)
 generalize N/(p*V)=q at*
 have e:p*(q*V)=q*(p*V):=by rw [Nat.mul_left_comm]
 have e2:p*((q+1)*V)=p*V*(q+1):=by rw [Nat.mul_left_comm,Nat.mul_comm]
 omega
end Go.Av
namespace Go.Av
open Go.RowKit
open Go.Proofs.Tryz (prog)
theorem ph {l:List Nat}:∀ {n:Nat},(∀ j,n≤j→l.getD j 0=0)→bk l=bk (l.take n):=by
 intro n h
 rcases am n l.length with hn|hn
 ·rw [nt l n (by omega)]
  have:bk (l.drop n)=0:=by
   have hz:∀ x∈l.drop n,x=0:=by
    intro x hx
    obtain ⟨k,hk,rfl⟩:=bK.1 hx
    have:=h (n+k) (by omega)
    rw [ae,af (by simp at hk;omega)] at this
    simpa using this
   generalize l.drop n=m at hz
   clear hn h
   induction m with
   |nil=>rfl
   |cons x m ih=>
    have h0:=hz x (ah ..)
    have h1:=ih (fun y hy=>hz y (ag _ hy))
    simp only [bk,h0,h1]
  rw [this];omega
 ·rw [List.take_of_length_le hn]
theorem HL {l:List Nat} {n:Nat} (hL:jD l) (h:bk l<4294967296^n):∀ j,n≤j→l.getD j 0=0:=by
 intro j hj
 rcases am j l.length with hl|hl
 ·have h1:=zB l j hl
  have h2:4294967296^n≤4294967296^j:=Nat.pow_le_pow_right (by decide) hj
  rcases Nat.eq_zero_or_pos (l.getD j 0) with h3|h3
  ·exact h3
  ·have:4294967296^j≤4294967296^j*l.getD j 0:=Nat.le_mul_of_pos_right _ h3
   omega
 ·rw [ae,List.getElem?_eq_none hl];rfl
theorem OA (l:List Nat) {k:Nat} (h:k+2=l.length):bk l=bk (l.take k)+4294967296^k*(l.getD k 0+4294967296*l.getD (k+1) 0):=by
 rw [nt l k (by omega),kQ l (by omega:k<l.length),kQ l (by omega:k+1<l.length),List.drop_of_length_le (by omega)]
 simp only [bk,Nat.mul_zero,Nat.add_zero]
theorem Iq {l:List Nat} {i k:Nat} (h:i+k+2<l.length) (hL:jD l) (hz:∀ j,i+k+3≤j→l.getD j 0=0):
 ∃ lo,lo<4294967296^k∧bk l/4294967296^i=lo+4294967296^k*(l.getD (i+k) 0+4294967296*(l.getD (i+k+2) 0*4294967296+l.getD (i+k+1) 0)):=by
 have h1:=GG hL (i:=i) (by omega)
 have h2:bk (l.drop i)=bk ((l.drop i).take (k+3)):=by
  refine ph fun j hj=> ?_
  have:=hz (i+j) (by omega)
  rw [ae] at this ⊢
  rwa [List.getElem?_drop]
 have g:∀ j,(l.drop i).getD j 0=l.getD (i+j) 0:=fun j=>by
  rw [ae,ae,List.getElem?_drop]
 refine ⟨bk ((l.drop i).take k),?_,?_⟩
 ·have:=ms ((hL.drop i).take k)
  rwa [d9,pC,Nat.min_eq_left (by omega)] at this
 ·rw [h1,h2,fN _ (by simp;omega),fN _ (by simp;omega),fN _ (by simp;omega),g,g,g]
  rw [show i+(k+2)=i+k+2 by omega,show i+(k+1)=i+k+1 by omega]
  have e1:4294967296^(k+1)=4294967296^k*4294967296:=Nat.pow_succ ..
  have e2:4294967296^(k+2)=4294967296^k*4294967296*4294967296:=by rw [←e1];exact Nat.pow_succ ..
  rw [e1,e2]
  generalize 4294967296^k=p
  grind
theorem OJ {N V B i k:Nat} (hB:0<B) (hV:V<B^(k+2)) (hN:N<B^(i+1)*V):N<B^(i+k+3)∧N/B^i<B*V:=by
 constructor
 ·refine Nat.lt_trans hN ?_
  rw [show i+k+3=(i+1)+(k+2) by omega,Nat.pow_add _ (i+1)]
  exact Nat.mul_lt_mul_of_pos_left hV (Nat.pow_pos hB)
 ·refine Nat.div_lt_of_lt_mul ?_
  rw [←Nat.mul_assoc,←Nat.pow_succ];exact hN
def QT {S:Type} (id:Nat) (st:S→(Nat→V)→List V) (Inv:S→Hp→Prop) (Q:kF):kF:=fun x T H=>match x with
 | .exit i=>if i=id then ∃ s,T=st s (fun k=>T.getD k cW)∧Inv s H else Q (.exit i) T H
 |x=>Q x T H
theorem lm {S:Type} {id:Nat} {st:S→(Nat→V)→List V} {Inv:S→Hp→Prop} {Q:kF} {T:List V} {H:Hp} (s:S) (h1:T=st s (fun k=>T.getD k cW)) (h2:Inv s H):QT id st Inv Q (.exit id) T H:=by
 simp only [QT,if_true];exact ⟨s,h1,h2⟩
theorem oF {P:Program} {c:LC} {T:List V} {H:Hp} {Q:kF} {S S2:Type} (id:Nat) (st:S→(Nat→V)→List V) (Inv:S→Hp→Prop) (m:S→Nat) (s0:S) (st2:S2→(Nat→V)→List V) (Inv2:S2→Hp→Prop)
 (h1:T=st s0 (fun k=>T.getD k cW)) (h2:Inv s0 H) (rest:∀ s J H,Inv2 s H→Q (.exit id) (st2 s J) H)
 (step:∀ s J H,Inv s H→wpL P c (st s J) H (lpQ st Inv m s (QT id st2 Inv2 Q))):wpL P (.loop c) T H Q:=by
 refine rd (.loop c) ?_ (eG st Inv m s0 h1 h2 step)
 intro x T' H' hq
 cases x with
 |exit i=>
  simp only [QT] at hq
  split at hq
  ·rename_i e;subst e
   obtain ⟨s,e1,e2⟩:=hq
   rw [e1];exact rest s _ _ e2
  ·exact hq
 |_=>exact hq
theorem OB {l:List Nat} {n:Nat} (hn:n<l.length) (hL:jD l) (hz:∀ j,n+1≤j→l.getD j 0=0):∃ lo,lo<4294967296^n∧bk l=lo+4294967296^n*l.getD n 0:=by
 refine ⟨bk (l.take n),?_,?_⟩
 ·have:=ms (hL.take n)
  rwa [d9,Nat.min_eq_left (by omega)] at this
 ·rw [ph hz,fN l hn]
theorem OI {N Q P o3 o4 w s lo:Nat} (h1:o3+P*s+Q=N+P*4294967296) (hQ:Q≤N) (h3:o3=lo+P*w) (hlo:lo<P) (hw:w<4294967296) (hs:s≤1) (h4:o4+P*w=o3+P*((w+s)%4294967296)):o4=N-Q:=by
 have h5:P*4294967296<P*(w+s+1):=by
  rw [Nat.mul_add P (w+s),Nat.mul_add P w];omega
 have h6:=Nat.lt_of_mul_lt_mul_left h5
 have h7:w=4294967295∧s=1:=by omega
 obtain ⟨rfl,rfl⟩:=h7
 simp at h4
 omega
structure PT (q t v1:Nat) (x:Nat×Nat):Prop where
 t:x.1*v1+x.2=t
 q:q≤x.1
structure S1 (u v:List Nat) (i g N:Nat) (H0:Hp) (x:Nat×Nat×Nat×List Nat) (H:Hp):Prop where
 j:x.1≤v.length
 c:x.2.1<4294967296
 b:x.2.2.1≤1
 o:x.2.2.2.length=u.length
 l:jD x.2.2.2
 z:∀ j,i+v.length+1≤j→x.2.2.2.getD j 0=0
 v:bk x.2.2.2+4294967296^i*(g*bk (v.take x.1))=N+4294967296^(i+x.1)*(x.2.1+x.2.2.1)
 H:H=some (.row 1 true (lw x.2.2.2))::H0
structure S5 (u v:List Nat) (i N:Nat) (H0:Hp) (x:Nat×Nat×List Nat) (H:Hp):Prop where
 j:x.1≤v.length
 s:x.2.1≤1
 o:x.2.2.length=u.length
 l:jD x.2.2
 z:∀ j,i+v.length+1≤j→x.2.2.getD j 0=0
 v:bk x.2.2+4294967296^(i+x.1)*x.2.1=N+4294967296^i*bk (v.take x.1)
 H:H=some (.row 1 true (lw x.2.2))::H0
theorem Ov {p P w x g c b s D M O O' N:Nat} {T:Nat} (hs:c+g*x=s) (hv:O+p*(g*M)=N+P*(c+b)) (ho:O'+P*w=O+P*D) (hd:w+4294967296*T=D+s%4294967296+b) (hP:∀ z,P*z=p*(g*M)→True) (q:Nat) (hq:P=p*q):
 O'+p*(g*(M+q*x))=N+P*4294967296*(s/4294967296+T):=by
 have h1:s=s%4294967296+4294967296*(s/4294967296):=(Nat.mod_add_div s _).symm
 have e1:p*(g*(M+q*x))=p*(g*M)+P*(g*x):=by
  rw [hq,Nat.mul_add,Nat.mul_add];congr 1;rw [Nat.mul_left_comm g q x,Nat.mul_assoc]
 have e2:P*w+P*4294967296*T=P*D+P*(s%4294967296)+P*b:=by
  rw [←Nat.mul_add,←Nat.mul_add,←hd,Nat.mul_add,Nat.mul_assoc]
 have e3:P*s=P*(s%4294967296)+P*4294967296*(s/4294967296):=by
  conv=>lhs;rw [h1]
  rw [Nat.mul_add,Nat.mul_assoc]
 have e4:P*s=P*c+P*(g*x):=by rw [←hs,Nat.mul_add]
 rw [e1,Nat.mul_add (P*4294967296)]
 rw [Nat.mul_add] at hv
 omega
theorem PI {P w x c D M O O' N:Nat} {T:Nat} (p q:Nat) (hq:P=p*q) (hv:O+P*c=N+p*M) (ho:O'+P*w=O+P*D) (hd:w+x+c=D+4294967296*T):
 O'+P*4294967296*T=N+p*(M+q*x):=by
 have e2:P*w+P*x+P*c=P*D+P*4294967296*T:=by
  rw [←Nat.mul_add,←Nat.mul_add,hd,Nat.mul_add,Nat.mul_assoc]
 have e1:p*(M+q*x)=p*M+P*x:=by rw [hq,Nat.mul_add,Nat.mul_assoc]
 omega
end Go.Av
