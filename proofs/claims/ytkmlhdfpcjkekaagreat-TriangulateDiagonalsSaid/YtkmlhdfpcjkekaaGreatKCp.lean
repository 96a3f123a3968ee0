/- Helping texts: Cp, Cq, Cr. -/
import Derived.Test.YtkmlhdfpcjkekaaGreatKCm
set_option linter.unusedSimpArgs false
set_option linter.unusedVariables false
set_option maxRecDepth 100000
set_option maxHeartbeats 16000000
namespace Go.Av
open Go.RowKit
open Go.Proofs.Tryz (prog)
def Rt.small (r:Rt):Prop:=r.num.length≤3∧r.den.length≤3
instance (r:Rt):Decidable r.small:=inferInstanceAs (Decidable (_∧_))
theorem Fv {l:List UInt8} (h:l.length≤3):bn l<16777216:=by
 have:=Nat.lt_of_lt_of_le (qM l) (Nat.pow_le_pow_right (by omega:0<256) h)
 simpa using this
theorem sj (r:Rt):PC prog 187 [rV r] (if r.small then .tup [.prim (.int .i64 (r.n)),.prim (.int .i64 ((r.d:Nat):Int)),.prim (.bool true)] else .tup [.prim (.int .i64 (0)),.prim (.int .i64 (0)),.prim (.bool false)]):=by
 obtain ⟨s,l,m⟩:=r
 refine PCi ?_
 conv in bL _ _=>cbv
 simp only [bM,RN,simprocAttr]
 by_cases h1:l.length≤3
 ·by_cases h2:m.length≤3
  ·have h3:=Fv h1
   have h4:=Fv h2
   have hs:(Rt.mk s l m).small:=⟨h1,h2⟩
   have d1:=DX l (by omega)
   have d2:=DX m (by omega)
   have hmax:(if ((bn m:Nat):Int)<1 then 1 else ((bn m:Nat):Int))=(((Rt.mk s l m).d:Nat):Int):=by
    unfold Rt.d;simp only;split<;>split<;>omega
   rw [if_pos hs]
   simp (disch:=omega) only [↓RS,RZ,simprocAttr,rV]
   refine cX d1 ?_
   simp (disch:=omega) only [↓RS,RZ,simprocAttr]
   refine cX d2 ?_
   cases s with
   |true=>
    have e:(0:Int)-(bn l:Nat)=(Rt.mk true l m).n:=by simp [Rt.n,du,sg]
    simp (disch:=omega) only [↓RS,RZ,simprocAttr,e,hmax]
   |false=>
    have e:((bn l:Nat):Int)=(Rt.mk false l m).n:=by simp [Rt.n,du,sg]
    simp (disch:=omega) only [↓RS,RZ,simprocAttr,e,hmax]
  ·have hs:¬(Rt.mk s l m).small:=fun h=>h2 h.2
   rw [if_neg hs]
   simp (disch:=omega) only [↓RS,RZ,simprocAttr,rV]
 ·have hs:¬(Rt.mk s l m).small:=fun h=>h1 h.1
  rw [if_neg hs]
  simp (disch:=omega) only [↓RS,RZ,simprocAttr,rV]
theorem CY (s:Bool) (k:Nat):(sg s k).natAbs=k:=by cases s<;>simp [sg]
theorem natAbs_tmod (a b:Int):(a.tmod b).natAbs=a.natAbs%b.natAbs:=Int.natAbs_tmod a b
structure PR (g:Nat) (x:Int×Int):Prop where
 g:Nat.gcd x.1.natAbs x.2.natAbs=g
 a:x.1.natAbs<4611686018427387904
 b:x.2.natAbs<4611686018427387904
theorem Gj (n:Int) (d:Nat) (hn:n.natAbs<4611686018427387904) (hd:0<d) (hd2:d<4611686018427387904):PC prog 153 [.prim (.int .i64 (n)),.prim (.int .i64 ((d:Nat):Int))] (rV (can (mkRat n d))):=by
 refine PCi ?_
 conv in bL _ _=>cbv
 simp only [bM,RN,simprocAttr]
 obtain ⟨q1,q2⟩:=Im n d hd
 have hg0:0<Nat.gcd n.natAbs d:=Nat.gcd_pos_of_pos_right _ hd
 have hgl:=Nat.gcd_dvd_left n.natAbs d
 have hgm:=Nat.gcd_dvd_right n.natAbs d
 have hgle:Nat.gcd n.natAbs d≤d:=Nat.le_of_dvd hd hgm
 simp (disch:=omega) only [↓RS,RZ,simprocAttr]
 refine eG (fun (x:Int×Int) J=>ov [(0,.prim (.int .i64 (n))),(1,.prim (.int .i64 ((d:Nat):Int))),(4,.ptr 0 0 0),(5,.prim (.int .i64 (x.1))),(6,.prim (.int .i64 (x.2)))] J 0 43)
  (fun x H=>PR (Nat.gcd n.natAbs d) x∧H=[some (.row 3 true [[.prim (.bool false),.prim (.string (bs ([]))),.prim (.string (bs ([])))]])]) (fun x=>x.2.natAbs) (n,(d:Int)) rfl ⟨⟨rfl,hn,hd2⟩,rfl⟩ ?_
 rintro ⟨a,b⟩ J H ⟨⟨hg,ha,hb⟩,rfl⟩
 try conv in ov _ _ _ _=>simp only [ov,List.lookup,RO,simprocAttr]
 simp only at hg ha hb ⊢
 by_cases hb0:b=0
 ·subst hb0
  rw [Int.natAbs_zero,Nat.gcd_zero_right] at hg
  generalize Nat.gcd n.natAbs d=g at*
  have hmax:(if a<0-a then 0-a else a)=((g:Nat):Int):=by split<;>omega
  have hdv:=Nat.div_le_self n.natAbs g
  have hdv2:=Nat.div_le_self d g
  by_cases hn0:n=0
  ·have e:rV (can (mkRat n d))= .agg [.prim (.bool false),.prim (.string (bs ([]))),.prim (.string (bs ([])))]:=by rw [hn0,Rat.zero_mkRat,rP];rfl
   rw [e]
   simp (disch:=omega) only [↓RS,RZ,simprocAttr,hmax]
  ·have hmax2:(if n<0-n then 0-n else n)=((n.natAbs:Nat):Int):=by split<;>omega
   have hpos:0<n.natAbs/g:=Nat.div_pos (Nat.le_of_dvd (by omega) hgl) hg0
   have e1:decide ((mkRat n d).num<0)=decide (n<0):=by
    rw [q1];by_cases h:n<0
    ·rw [an h];simp only [sg,if_true];exact an (by omega)
    ·rw [ak h];simp only [sg];exact ak (by simp;omega)
   have e2:(mkRat n d).num.natAbs=n.natAbs/g:=by rw [q1];exact CY _ _
   have t1:=Jr (n.natAbs/g) (by omega)
   have t2:=Jr (d/g) (by omega)
   by_cases hdg:d=g
   ·have e3:(mkRat n d).den=1:=by rw [q2,hdg];exact Nat.div_self (by omega)
    simp (disch:=omega) only [↓RS,RZ,simprocAttr,hmax,hmax2,uV]
    refine cX t1 ?_
    simp (disch:=omega) only [↓RS,RZ,simprocAttr,hmax,hmax2,uV,rV,can,e1,e2,e3]
    try rfl
   ·have e3:(mkRat n d).den≠1:=by
     rw [q2];intro h
     have:=Nat.div_mul_cancel hgm
     rw [h] at this;omega
    simp (disch:=omega) only [↓RS,RZ,simprocAttr,hmax,hmax2,uV]
    refine cX t1 ?_
    simp (disch:=omega) only [↓RS,RZ,simprocAttr,hmax,hmax2,uV]
    refine cX t2 ?_
    have e4:(can (mkRat n d)).den=bZ (d/g):=by simp only [can];rw [if_neg e3,q2]
    simp (disch:=omega) only [↓RS,RZ,simprocAttr,rV,e4]
    simp only [can,e1,e2]
 ·have hlt:(a.tmod b).natAbs<b.natAbs:=by rw [natAbs_tmod];exact Nat.mod_lt _ (by omega)
  simp (disch:=omega) only [↓RS,RZ,simprocAttr]
  refine bl (b,a.tmod b) rfl ⟨⟨?_,hb,by simp only;omega⟩,rfl⟩ hlt
  try simp only
  rw [natAbs_tmod,←hg,Nat.gcd_comm a.natAbs,Nat.gcd_rec b.natAbs a.natAbs,Nat.gcd_comm]
theorem Hv (a b:Rt) (f g:FuncId) (q:Rt) (ha:a.num.length<2^36∧a.den.length<2^36) (hb:b.num.length<2^36∧b.den.length<2^36)
 (hs:a.small→b.small→PC prog f [.prim (.int .i64 (a.n)),.prim (.int .i64 ((a.d:Nat):Int)),.prim (.int .i64 (b.n)),.prim (.int .i64 ((b.d:Nat):Int))] (rV q)) (hg:PC prog g [fV a.neg a.num a.dd,fV b.neg b.num b.dd] (rV q)):
 PC prog 151 [rV a,rV b,.clo f [] [],.clo g [] []] (rV q):=by
 refine PCi ?_
 conv in bL _ _=>cbv
 simp only [bM,RN,simprocAttr]
 have m1:=sj a
 have m2:=sj b
 have o1:=tu a ha.1 ha.2
 have o2:=tu b hb.1 hb.2
 by_cases h1:a.small
 ·rw [if_pos h1] at m1
  by_cases h2:b.small
  ·rw [if_pos h2] at m2
   have hs:=hs h1 h2
   simp (disch:=omega) only [↓RS,RZ,simprocAttr,rV]
   refine cX m1 ?_
   simp (disch:=omega) only [↓RS,RZ,simprocAttr]
   refine cX m2 ?_
   simp (disch:=omega) only [↓RS,RZ,simprocAttr]
   refine cX hs ?_
   simp (disch:=omega) only [↓RS,RZ,simprocAttr,rV]
  ·rw [if_neg h2] at m2
   simp (disch:=omega) only [↓RS,RZ,simprocAttr,rV]
   refine cX m1 ?_
   simp (disch:=omega) only [↓RS,RZ,simprocAttr]
   refine cX m2 ?_
   simp (disch:=omega) only [↓RS,RZ,simprocAttr]
   refine cX o1 ?_
   simp (disch:=omega) only [↓RS,RZ,simprocAttr,fV]
   refine cX o2 ?_
   simp (disch:=omega) only [↓RS,RZ,simprocAttr,fV]
   refine cX hg ?_
   simp (disch:=omega) only [↓RS,RZ,simprocAttr,rV]
 ·rw [if_neg h1] at m1
  have m2':∃ x y z,PC prog 187 [rV b] (.tup [.prim (.int .i64 (x)),.prim (.int .i64 (y)),.prim (.bool z)]):=by
   by_cases h2:b.small
   ·rw [if_pos h2] at m2;exact ⟨_,_,_,m2⟩
   ·rw [if_neg h2] at m2;exact ⟨_,_,_,m2⟩
  obtain ⟨x,y,z,m2⟩:=m2'
  simp (disch:=omega) only [↓RS,RZ,simprocAttr,rV]
  refine cX m1 ?_
  simp (disch:=omega) only [↓RS,RZ,simprocAttr]
  refine cX m2 ?_
  simp (disch:=omega) only [↓RS,RZ,simprocAttr]
  refine cX o1 ?_
  simp (disch:=omega) only [↓RS,RZ,simprocAttr,fV]
  refine cX o2 ?_
  simp (disch:=omega) only [↓RS,RZ,simprocAttr,fV]
  refine cX hg ?_
  simp (disch:=omega) only [↓RS,RZ,simprocAttr,rV]
end Go.Av
namespace Go.Av
open Go.RowKit
open Go.Proofs.Tryz (prog)
theorem vn (l:List UInt8):du false l=(bn l:Nat):=rfl
theorem J5 (l m:List UInt8) (hl:l.length<2^36) (hm:m.length<2^36):PC prog 121 [iN false l,iN false m] (iN false (bZ (bn l*bn m))):=by
 rw [←I5];exact tw false false l m hl hm
theorem Q8 (x y:Int) (hx:dl x.natAbs<2^36) (hy:dl y.natAbs<2^36):PC prog 155 [cI x,cI y] (cI (x+y)):=by
 have h:=Q7 (decide (x<0)) (decide (y<0)) (bZ x.natAbs) (bZ y.natAbs) hx hy
 rwa [mE,mE] at h
theorem Az (x:Int) (k:Nat) (hx:dl x.natAbs<2^36) (hk:dl k<2^36) (h0:0<k):PC prog 148 [fV (decide (x<0)) (bZ x.natAbs) (bZ k)] (rV (can (mkRat x k))):=by
 have h:=rC (decide (x<0)) (bZ x.natAbs) (bZ k) hx hk (by rw [eU];exact h0)
 rwa [mE,eU] at h
theorem jq (x y:Int):dl (x*y).natAbs≤dl x.natAbs+dl y.natAbs:=by rw [Int.natAbs_mul];exact xO _ _
theorem u5 (x y:Int):dl (x+y).natAbs≤max (dl x.natAbs) (dl y.natAbs)+1:=bi (sC (Int.natAbs_add_le x y)) (Pd _ _)
theorem qG (s:Bool) (l:List UInt8):dl (du s l).natAbs≤l.length:=by rw [lP];exact ll l
theorem Q9 (s t:Bool) (l m k j:List UInt8) (hl:l.length<2^33) (hm:m.length<2^33) (hk:k.length<2^33) (hj:j.length<2^33) (h1:0<bn m) (h2:0<bn j):
 PC prog 154 [fV s l m,fV t k j] (rV (can (mkRat (du s l*bn j+du t k*bn m) (bn m*bn j)))):=by
 refine PCi ?_
 conv in bL _ _=>cbv
 simp only [bM,RN,simprocAttr]
 have p1:=tw s false l j (by omega) (by omega)
 have p2:=tw t false k m (by omega) (by omega)
 have p3:=J5 m j (by omega) (by omega)
 rw [vn] at p1 p2
 have e1:=jq (du s l) (bn j)
 have e2:=jq (du t k) (bn m)
 have e3:=qG s l
 have e4:=qG t k
 have e5:=ll m
 have e6:=ll j
 have e7:=xO (bn m) (bn j)
 have e8:=u5 (du s l*bn j) (du t k*bn m)
 rw [Int.natAbs_natCast] at e1 e2
 have p4:=Q8 (du s l*bn j) (du t k*bn m) (by omega) (by omega)
 have p5:=Az (du s l*bn j+du t k*bn m) (bn m*bn j) (by omega) (by omega) (Nat.mul_pos h1 h2)
 generalize du s l*bn j+du t k*bn m=z at*
 generalize du s l*bn j=x at*
 generalize du t k*bn m=y at*
 clear e1 e2 e3 e4 e5 e6 e7 e8
 simp (disch:=omega) only [↓RS,RZ,simprocAttr,fV]
 refine cX p1 ?_
 simp (disch:=omega) only [↓RS,RZ,simprocAttr,cI,iN]
 refine cX p2 ?_
 simp (disch:=omega) only [↓RS,RZ,simprocAttr,cI,iN]
 refine cX p4 ?_
 simp (disch:=omega) only [↓RS,RZ,simprocAttr,cI,iN]
 refine cX p3 ?_
 simp (disch:=omega) only [↓RS,RZ,simprocAttr,cI,iN]
 refine cX p5 ?_
 simp (disch:=omega) only [↓RS,RZ,simprocAttr,rV]
 try rfl
theorem Rr (n m:Int) (d e:Nat) (hn:n.natAbs<16777216) (hm:m.natAbs<16777216) (hd:d<16777216) (he:e<16777216) (h1:0<d) (h2:0<e):
 PC prog 152 [.prim (.int .i64 (n)),.prim (.int .i64 ((d:Nat):Int)),.prim (.int .i64 (m)),.prim (.int .i64 ((e:Nat):Int))] (rV (can (mkRat (n*e+m*d) (d*e)))):=by
 refine PCi ?_
 conv in bL _ _=>cbv
 simp only [bM,RN,simprocAttr]
 have a1:(n*(e:Int)).natAbs<16777216*16777216:=by rw [Int.natAbs_mul,Int.natAbs_natCast];exact Nat.mul_lt_mul_of_lt_of_lt hn he
 have a2:(m*(d:Int)).natAbs<16777216*16777216:=by rw [Int.natAbs_mul,Int.natAbs_natCast];exact Nat.mul_lt_mul_of_lt_of_lt hm hd
 have a3:d*e<16777216*16777216:=Nat.mul_lt_mul_of_lt_of_lt hd he
 have p1:=Gj (n*e+m*d) (d*e) (by omega) (Nat.mul_pos h1 h2) (by omega)
 simp (disch:=omega) only [↓RS,RZ,simprocAttr]
 refine cX p1 ?_
 simp (disch:=omega) only [↓RS,RZ,simprocAttr,rV]
 try rfl
theorem KA (a b:Rt):mkRat (a.n*b.d+b.n*a.d) (a.d*b.d)=a.val+b.val:=by
 unfold Rt.val
 rw [Rat.mkRat_add_mkRat _ _ (Nat.ne_of_gt a.d_pos) (Nat.ne_of_gt b.d_pos)]
theorem J4 (a b:Rt):mkRat (a.n*b.n) (a.d*b.d)=a.val*b.val:=by
 unfold Rt.val
 rw [Rat.mkRat_mul_mkRat]
def Rt.le (r:Rt) (k:Nat):Prop:=r.num.length≤k∧r.den.length≤k
theorem tX (r:Rt) {k:Nat} (h:r.den.length≤k) (hk:1≤k):r.dd.length≤k:=by unfold Rt.dd;have:=dl1;split<;>omega
theorem uo {r:Rt} (h:r.small):r.n.natAbs<16777216:=by rw [Rt.n,lP];exact Fv h.1
theorem uq {r:Rt} (h:r.small):r.d<16777216:=by have:=Fv h.2;unfold Rt.d;split<;>omega
theorem KB (a b:Rt) (ha:a.le (2^32)) (hb:b.le (2^32)):PC prog 91 [rV a,rV b] (rV (can (a.val+b.val))):=by
 refine PCi ?_
 conv in bL _ _=>cbv
 simp only [bM,RN,simprocAttr]
 have h:=Hv a b 152 154 (can (a.val+b.val)) ⟨by have:=ha.1;omega,by have:=ha.2;omega⟩ ⟨by have:=hb.1;omega,by have:=hb.2;omega⟩
  (fun h1 h2=>by rw [←KA];exact Rr a.n b.n a.d b.d (uo h1) (uo h2) (uq h1) (uq h2) a.d_pos b.d_pos)
  (by
   have h1:=tX a ha.2 (by omega)
   have h2:=tX b hb.2 (by omega)
   have h3:=ha.1
   have h4:=hb.1
   have h:=Q9 a.neg b.neg a.num a.dd b.num b.dd (by omega) (by omega) (by omega) (by omega) (by rw [mz];exact a.d_pos) (by rw [mz];exact b.d_pos)
   rw [mz,mz] at h
   rw [←KA];exact h)
 simp (disch:=omega) only [↓RS,RZ,simprocAttr,rV]
 refine cX h ?_
 simp (disch:=omega) only [↓RS,RZ,simprocAttr,rV]
 try rfl
theorem PX (r:Rt):(Rt.mk (!r.neg) r.num r.den).val= -r.val:=PY r
theorem P4 (a b:Rt) (ha:a.le (2^32)) (hb:b.le (2^32)):PC prog 171 [rV a,rV b] (rV (can (a.val-b.val))):=by
 refine PCi ?_
 conv in bL _ _=>cbv
 simp only [bM,RN,simprocAttr]
 have h:=KB a (Rt.mk (!b.neg) b.num b.den) ha hb
 rw [PX,←Rat.sub_eq_add_neg] at h
 simp (disch:=omega) only [↓RS,RZ,simprocAttr,rV]
 refine cX h ?_
 simp (disch:=omega) only [↓RS,RZ,simprocAttr,rV]
 try rfl
theorem Qv (s t:Bool) (l m k j:List UInt8) (hl:l.length<2^33) (hm:m.length<2^33) (hk:k.length<2^33) (hj:j.length<2^33) (h1:0<bn m) (h2:0<bn j):
 PC prog 159 [fV s l m,fV t k j] (rV (can (mkRat (du s l*du t k) (bn m*bn j)))):=by
 refine PCi ?_
 conv in bL _ _=>cbv
 simp only [bM,RN,simprocAttr]
 have p1:=tw s t l k (by omega) (by omega)
 have p3:=J5 m j (by omega) (by omega)
 have e1:=jq (du s l) (du t k)
 have e3:=qG s l
 have e4:=qG t k
 have e5:=ll m
 have e6:=ll j
 have e7:=xO (bn m) (bn j)
 have p5:=Az (du s l*du t k) (bn m*bn j) (by omega) (by omega) (Nat.mul_pos h1 h2)
 generalize du s l*du t k=z at*
 clear e1 e3 e4 e5 e6 e7
 simp (disch:=omega) only [↓RS,RZ,simprocAttr,fV]
 refine cX p1 ?_
 simp (disch:=omega) only [↓RS,RZ,simprocAttr,cI,iN]
 refine cX p3 ?_
 simp (disch:=omega) only [↓RS,RZ,simprocAttr,cI,iN]
 refine cX p5 ?_
 simp (disch:=omega) only [↓RS,RZ,simprocAttr,rV]
 try rfl
theorem Qw (n m:Int) (d e:Nat) (hn:n.natAbs<16777216) (hm:m.natAbs<16777216) (hd:d<16777216) (he:e<16777216) (h1:0<d) (h2:0<e):
 PC prog 158 [.prim (.int .i64 (n)),.prim (.int .i64 ((d:Nat):Int)),.prim (.int .i64 (m)),.prim (.int .i64 ((e:Nat):Int))] (rV (can (mkRat (n*m) (d*e)))):=by
 refine PCi ?_
 conv in bL _ _=>cbv
 simp only [bM,RN,simprocAttr]
 have a1:(n*m).natAbs<16777216*16777216:=by rw [Int.natAbs_mul];exact Nat.mul_lt_mul_of_lt_of_lt hn hm
 have a3:d*e<16777216*16777216:=Nat.mul_lt_mul_of_lt_of_lt hd he
 have p1:=Gj (n*m) (d*e) (by omega) (Nat.mul_pos h1 h2) (by omega)
 simp (disch:=omega) only [↓RS,RZ,simprocAttr]
 refine cX p1 ?_
 simp (disch:=omega) only [↓RS,RZ,simprocAttr,rV]
 try rfl
theorem Qu (a b:Rt) (ha:a.le (2^32)) (hb:b.le (2^32)):PC prog 94 [rV a,rV b] (rV (can (a.val*b.val))):=by
 refine PCi ?_
 conv in bL _ _=>cbv
 simp only [bM,RN,simprocAttr]
 have h:=Hv a b 158 159 (can (a.val*b.val)) ⟨by have:=ha.1;omega,by have:=ha.2;omega⟩ ⟨by have:=hb.1;omega,by have:=hb.2;omega⟩
  (fun h1 h2=>by rw [←J4];exact Qw a.n b.n a.d b.d (uo h1) (uo h2) (uq h1) (uq h2) a.d_pos b.d_pos)
  (by
   have h1:=tX a ha.2 (by omega)
   have h2:=tX b hb.2 (by omega)
   have h3:=ha.1
   have h4:=hb.1
   have h:=Qv a.neg b.neg a.num a.dd b.num b.dd (by omega) (by omega) (by omega) (by omega) (by rw [mz];exact a.d_pos) (by rw [mz];exact b.d_pos)
   rw [mz,mz] at h
   rw [←J4];exact h)
 simp (disch:=omega) only [↓RS,RZ,simprocAttr,rV]
 refine cX h ?_
 simp (disch:=omega) only [↓RS,RZ,simprocAttr,rV]
 try rfl
end Go.Av
namespace Go.Av
open Go.RowKit
open Go.Proofs.Tryz (prog)
def jV (p q:Rat):Int:=if p<q then-1 else if q<p then 1 else 0
theorem MG (r:Rt):∃ g:Nat,0<g∧r.n=r.val.num*g∧r.d=r.val.den*g:=by
 obtain ⟨m,h1,h2,h3⟩:=Rat.mkRat_num_den (n:=r.n) (d:=r.d) (Nat.ne_of_gt r.d_pos) (n':=r.val.num) (d':=r.val.den) (z':=r.val.den_nz) (c:=r.val.reduced) rfl
 exact ⟨m,by omega,h2,h3⟩
theorem Et (a b:Rt):a.val<b.val↔a.n*b.d<b.n*a.d:=by
 obtain ⟨g,g0,g1,g2⟩:=MG a
 obtain ⟨h,h0,h1,h2⟩:=MG b
 rw [Rat.lt_iff,g1,g2,h1,h2]
 have hp:(0:Int)<(g:Int)*(h:Int):=Int.mul_pos (by omega) (by omega)
 have e1:a.val.num*(g:Int)*((b.val.den*h:Nat):Int)=(g*h:Int)*(a.val.num*b.val.den):=by rw [Int.natCast_mul];grind
 have e2:b.val.num*(h:Int)*((a.val.den*g:Nat):Int)=(g*h:Int)*(b.val.num*a.val.den):=by rw [Int.natCast_mul];grind
 rw [e1,e2]
 exact ⟨fun h=>Int.mul_lt_mul_of_pos_left h hp,fun h=>Int.lt_of_mul_lt_mul_left h (Int.le_of_lt hp)⟩
theorem Fq (a b:Rt):sQ (a.n*b.d) (b.n*a.d)=jV a.val b.val:=by
 unfold sQ jV
 by_cases h1:a.val<b.val
 ·rw [if_pos h1,if_pos ((Et a b).1 h1)]
 ·rw [if_neg h1,if_neg (fun h=>h1 ((Et a b).2 h))]
  by_cases h2:b.val<a.val
  ·rw [if_pos h2,if_pos ((Et b a).1 h2)]
  ·rw [if_neg h2,if_neg (fun h=>h2 ((Et b a).2 h))]
theorem Py (a b:Rt) (f g:FuncId) (q:Int) (ha:a.num.length<2^36∧a.den.length<2^36) (hb:b.num.length<2^36∧b.den.length<2^36)
 (hs:a.small→b.small→PC prog f [.prim (.int .i64 (a.n)),.prim (.int .i64 ((a.d:Nat):Int)),.prim (.int .i64 (b.n)),.prim (.int .i64 ((b.d:Nat):Int))] (.prim (.int .i64 (q)))) (hg:PC prog g [fV a.neg a.num a.dd,fV b.neg b.num b.dd] (.prim (.int .i64 (q)))):
 PC prog 117 [rV a,rV b,.clo f [] [],.clo g [] []] (.prim (.int .i64 (q))):=by
 refine PCi ?_
 conv in bL _ _=>cbv
 simp only [bM,RN,simprocAttr]
 have m1:=sj a
 have m2:=sj b
 have o1:=tu a ha.1 ha.2
 have o2:=tu b hb.1 hb.2
 by_cases h1:a.small
 ·rw [if_pos h1] at m1
  by_cases h2:b.small
  ·rw [if_pos h2] at m2
   have hs:=hs h1 h2
   simp (disch:=omega) only [↓RS,RZ,simprocAttr,rV]
   refine cX m1 ?_
   simp (disch:=omega) only [↓RS,RZ,simprocAttr]
   refine cX m2 ?_
   simp (disch:=omega) only [↓RS,RZ,simprocAttr]
   refine cX hs ?_
   simp (disch:=omega) only [↓RS,RZ,simprocAttr]
  ·rw [if_neg h2] at m2
   simp (disch:=omega) only [↓RS,RZ,simprocAttr,rV]
   refine cX m1 ?_
   simp (disch:=omega) only [↓RS,RZ,simprocAttr]
   refine cX m2 ?_
   simp (disch:=omega) only [↓RS,RZ,simprocAttr]
   refine cX o1 ?_
   simp (disch:=omega) only [↓RS,RZ,simprocAttr,fV]
   refine cX o2 ?_
   simp (disch:=omega) only [↓RS,RZ,simprocAttr,fV]
   refine cX hg ?_
   simp (disch:=omega) only [↓RS,RZ,simprocAttr]
 ·rw [if_neg h1] at m1
  have m2':∃ x y z,PC prog 187 [rV b] (.tup [.prim (.int .i64 (x)),.prim (.int .i64 (y)),.prim (.bool z)]):=by
   by_cases h2:b.small
   ·rw [if_pos h2] at m2;exact ⟨_,_,_,m2⟩
   ·rw [if_neg h2] at m2;exact ⟨_,_,_,m2⟩
  obtain ⟨x,y,z,m2⟩:=m2'
  simp (disch:=omega) only [↓RS,RZ,simprocAttr,rV]
  refine cX m1 ?_
  simp (disch:=omega) only [↓RS,RZ,simprocAttr]
  refine cX m2 ?_
  simp (disch:=omega) only [↓RS,RZ,simprocAttr]
  refine cX o1 ?_
  simp (disch:=omega) only [↓RS,RZ,simprocAttr,fV]
  refine cX o2 ?_
  simp (disch:=omega) only [↓RS,RZ,simprocAttr,fV]
  refine cX hg ?_
  simp (disch:=omega) only [↓RS,RZ,simprocAttr]
theorem Q0 (n m:Int) (d e:Nat) (hn:n.natAbs<16777216) (hm:m.natAbs<16777216) (hd:d<16777216) (he:e<16777216):
 PC prog 118 [.prim (.int .i64 (n)),.prim (.int .i64 ((d:Nat):Int)),.prim (.int .i64 (m)),.prim (.int .i64 ((e:Nat):Int))] (.prim (.int .i64 (sQ (n*e) (m*d)))):=by
 refine PCi ?_
 conv in bL _ _=>cbv
 simp only [bM,RN,simprocAttr]
 have a1:(n*(e:Int)).natAbs<16777216*16777216:=by rw [Int.natAbs_mul,Int.natAbs_natCast];exact Nat.mul_lt_mul_of_lt_of_lt hn he
 have a2:(m*(d:Int)).natAbs<16777216*16777216:=by rw [Int.natAbs_mul,Int.natAbs_natCast];exact Nat.mul_lt_mul_of_lt_of_lt hm hd
 by_cases h1:n*(e:Int)<m*(d:Int)
 ·rw [sQ,if_pos h1]
  simp (disch:=omega) only [↓RS,RZ,simprocAttr]
 ·by_cases h2:m*(d:Int)<n*(e:Int)
  ·rw [sQ,if_neg h1,if_pos h2]
   simp (disch:=omega) only [↓RS,RZ,simprocAttr]
  ·rw [sQ,if_neg h1,if_neg h2]
   simp (disch:=omega) only [↓RS,RZ,simprocAttr]
theorem Hi (x y:Int) (hx:dl x.natAbs<2^36) (hy:dl y.natAbs<2^36):PC prog 120 [cI x,cI y] (.prim (.int .i64 (sQ x y))):=by
 have h:=qJ (decide (x<0)) (decide (y<0)) (bZ x.natAbs) (bZ y.natAbs) hx hy
 rwa [mE,mE] at h
theorem QZ (s t:Bool) (l m k j:List UInt8) (hl:l.length<2^33) (hm:m.length<2^33) (hk:k.length<2^33) (hj:j.length<2^33):
 PC prog 119 [fV s l m,fV t k j] (.prim (.int .i64 (sQ (du s l*bn j) (du t k*bn m)))):=by
 refine PCi ?_
 conv in bL _ _=>cbv
 simp only [bM,RN,simprocAttr]
 have p1:=tw s false l j (by omega) (by omega)
 have p2:=tw t false k m (by omega) (by omega)
 rw [vn] at p1 p2
 have e1:=jq (du s l) (bn j)
 have e2:=jq (du t k) (bn m)
 have e3:=qG s l
 have e4:=qG t k
 have e5:=ll m
 have e6:=ll j
 rw [Int.natAbs_natCast] at e1 e2
 have p4:=Hi (du s l*bn j) (du t k*bn m) (by omega) (by omega)
 generalize du s l*bn j=x at*
 generalize du t k*bn m=y at*
 clear e1 e2 e3 e4 e5 e6
 simp (disch:=omega) only [↓RS,RZ,simprocAttr,fV]
 refine cX p1 ?_
 simp (disch:=omega) only [↓RS,RZ,simprocAttr,cI,iN]
 refine cX p2 ?_
 simp (disch:=omega) only [↓RS,RZ,simprocAttr,cI,iN]
 refine cX p4 ?_
 simp (disch:=omega) only [↓RS,RZ,simprocAttr]
theorem QW (a b:Rt) (ha:a.le (2^32)) (hb:b.le (2^32)):PC prog 55 [rV a,rV b] (.prim (.int .i64 (jV a.val b.val))):=by
 refine PCi ?_
 conv in bL _ _=>cbv
 simp only [bM,RN,simprocAttr]
 have h:=Py a b 118 119 (jV a.val b.val) ⟨by have:=ha.1;omega,by have:=ha.2;omega⟩ ⟨by have:=hb.1;omega,by have:=hb.2;omega⟩
  (fun h1 h2=>by rw [←Fq];exact Q0 a.n b.n a.d b.d (uo h1) (uo h2) (uq h1) (uq h2))
  (by
   have h1:=tX a ha.2 (by omega)
   have h2:=tX b hb.2 (by omega)
   have h3:=ha.1
   have h4:=hb.1
   have h:=QZ a.neg b.neg a.num a.dd b.num b.dd (by omega) (by omega) (by omega) (by omega)
   rw [mz,mz] at h
   rw [←Fq];exact h)
 simp (disch:=omega) only [↓RS,RZ,simprocAttr,rV]
 refine cX h ?_
 simp (disch:=omega) only [↓RS,RZ,simprocAttr]
theorem M7 (r:Rt):sQ r.n 0=jV r.val 0:=by
 have h:=Fq r (Rt.mk false [] [])
 have e1:(Rt.mk false [] []).n=0:=rfl
 have e2:(Rt.mk false [] []).d=1:=rfl
 have e3:(Rt.mk false [] []).val=0:=by unfold Rt.val;rw [e1,Rat.zero_mkRat]
 rw [e1,e2,e3] at h
 simpa using h
theorem M8 (a:Rt) (ha:a.le (2^32)):PC prog 123 [rV a] (.prim (.int .i64 (jV a.val 0))):=by
 refine PCi ?_
 conv in bL _ _=>cbv
 simp only [bM,RN,simprocAttr]
 have o1:=tu a (by have:=ha.1;omega) (by have:=ha.2;omega)
 have hc:=qJ a.neg false a.num [] (by have:=ha.1;omega) (by simp)
 rw [Rx,←Rt.n,M7] at hc
 simp (disch:=omega) only [↓RS,RZ,simprocAttr,rV]
 refine cX o1 ?_
 simp (disch:=omega) only [↓RS,RZ,simprocAttr,fV]
 refine cX hc ?_
 simp (disch:=omega) only [↓RS,RZ,simprocAttr]
end Go.Av
