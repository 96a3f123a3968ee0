/- Helping texts: Cp, Cq, Cr. -/
import Derived.Test.YtkmlhdfpcjkekaaGreatKCm
set_option linter.unusedSimpArgs false
set_option linter.unusedVariables false
set_option maxRecDepth 100000
set_option maxHeartbeats 16000000
namespace Go.Av
open Go.RowKit
open Go.Proofs.Tryz (prog)
def Rt.small (r:Rt):Prop:=r.num.length≤3∧r.den.length≤3
instance (r:Rt):Decidable r.small:=inferInstanceAs (Decidable (_∧_))
theorem bval_3 {l:List UInt8} (h:l.length≤3):bval l<16777216:=by
 have:=Nat.lt_of_lt_of_le (bval_lt l) (Nat.pow_le_pow_right (by omega:0<256) h)
 simpa using this
theorem machine_pc (r:Rt):PC prog 187 [rV r] (if r.small then .tup [.prim (.int .i64 (r.n)),.prim (.int .i64 ((r.d:Nat):Int)),.prim (.bool true)] else .tup [.prim (.int .i64 (0)),.prim (.int .i64 (0)),.prim (.bool false)]):=by
 obtain ⟨s,l,m⟩:=r
 refine PCi ?_
 conv in trip _ _=>cbv
 simp only [runT,RN,simprocAttr]
 by_cases h1:l.length≤3
 ·by_cases h2:m.length≤3
  ·have h3:=bval_3 h1
   have h4:=bval_3 h2
   have hs:(Rt.mk s l m).small:=⟨h1,h2⟩
   have d1:=digits_pc l (by omega)
   have d2:=digits_pc m (by omega)
   have hmax:(if ((bval m:Nat):Int)<1 then 1 else ((bval m:Nat):Int))=(((Rt.mk s l m).d:Nat):Int):=by
    unfold Rt.d;simp only;split<;>split<;>omega
   rw [if_pos hs]
   simp (disch:=omega) only [↓RS,RZ,simprocAttr,rV]
   refine cX d1 ?_
   simp (disch:=omega) only [↓RS,RZ,simprocAttr]
   refine cX d2 ?_
   cases s with
   |true=>
    have e:(0:Int)-(bval l:Nat)=(Rt.mk true l m).n:=by simp [Rt.n,ival,sg]
    simp (disch:=omega) only [↓RS,RZ,simprocAttr,e,hmax]
   |false=>
    have e:((bval l:Nat):Int)=(Rt.mk false l m).n:=by simp [Rt.n,ival,sg]
    simp (disch:=omega) only [↓RS,RZ,simprocAttr,e,hmax]
  ·have hs:¬(Rt.mk s l m).small:=fun h=>h2 h.2
   rw [if_neg hs]
   simp (disch:=omega) only [↓RS,RZ,simprocAttr,rV]
 ·have hs:¬(Rt.mk s l m).small:=fun h=>h1 h.1
  rw [if_neg hs]
  simp (disch:=omega) only [↓RS,RZ,simprocAttr,rV]
theorem sg_natAbs (s:Bool) (k:Nat):(sg s k).natAbs=k:=by cases s<;>simp [sg]
theorem natAbs_tmod (a b:Int):(a.tmod b).natAbs=a.natAbs%b.natAbs:=Int.natAbs_tmod a b
structure RatioInv (g:Nat) (x:Int×Int):Prop where
 g:Nat.gcd x.1.natAbs x.2.natAbs=g
 a:x.1.natAbs<4611686018427387904
 b:x.2.natAbs<4611686018427387904
theorem ratio_pc (n:Int) (d:Nat) (hn:n.natAbs<4611686018427387904) (hd:0<d) (hd2:d<4611686018427387904):PC prog 153 [.prim (.int .i64 (n)),.prim (.int .i64 ((d:Nat):Int))] (rV (can (mkRat n d))):=by
 refine PCi ?_
 conv in trip _ _=>cbv
 simp only [runT,RN,simprocAttr]
 obtain ⟨q1,q2⟩:=mk_num n d hd
 have hg0:0<Nat.gcd n.natAbs d:=Nat.gcd_pos_of_pos_right _ hd
 have hgl:=Nat.gcd_dvd_left n.natAbs d
 have hgm:=Nat.gcd_dvd_right n.natAbs d
 have hgle:Nat.gcd n.natAbs d≤d:=Nat.le_of_dvd hd hgm
 simp (disch:=omega) only [↓RS,RZ,simprocAttr]
 refine wp_lp (fun (x:Int×Int) J=>ov [(0,.prim (.int .i64 (n))),(1,.prim (.int .i64 ((d:Nat):Int))),(4,.ptr 0 0 0),(5,.prim (.int .i64 (x.1))),(6,.prim (.int .i64 (x.2)))] J 0 43)
  (fun x H=>RatioInv (Nat.gcd n.natAbs d) x∧H=[some (.row 3 true [[.prim (.bool false),.prim (.string (bs ([]))),.prim (.string (bs ([])))]])]) (fun x=>x.2.natAbs) (n,(d:Int)) rfl ⟨⟨rfl,hn,hd2⟩,rfl⟩ ?_
 rintro ⟨a,b⟩ J H ⟨⟨hg,ha,hb⟩,rfl⟩
 try conv in ov _ _ _ _=>simp only [ov,List.lookup,RO,simprocAttr]
 simp only at hg ha hb ⊢
 by_cases hb0:b=0
 ·subst hb0
  rw [Int.natAbs_zero,Nat.gcd_zero_right] at hg
  generalize Nat.gcd n.natAbs d=g at*
  have hmax:(if a<0-a then 0-a else a)=((g:Nat):Int):=by split<;>omega
  have hdv:=Nat.div_le_self n.natAbs g
  have hdv2:=Nat.div_le_self d g
  by_cases hn0:n=0
  ·have e:rV (can (mkRat n d))= .agg [.prim (.bool false),.prim (.string (bs ([]))),.prim (.string (bs ([])))]:=by rw [hn0,Rat.zero_mkRat,can_zero];rfl
   rw [e]
   simp (disch:=omega) only [↓RS,RZ,simprocAttr,hmax]
  ·have hmax2:(if n<0-n then 0-n else n)=((n.natAbs:Nat):Int):=by split<;>omega
   have hpos:0<n.natAbs/g:=Nat.div_pos (Nat.le_of_dvd (by omega) hgl) hg0
   have e1:decide ((mkRat n d).num<0)=decide (n<0):=by
    rw [q1];by_cases h:n<0
    ·rw [decide_eq_true h];simp only [sg,if_true];exact decide_eq_true (by omega)
    ·rw [decide_eq_false h];simp only [sg];exact decide_eq_false (by simp;omega)
   have e2:(mkRat n d).num.natAbs=n.natAbs/g:=by rw [q1];exact sg_natAbs _ _
   have t1:=text_pc (n.natAbs/g) (by omega)
   have t2:=text_pc (d/g) (by omega)
   by_cases hdg:d=g
   ·have e3:(mkRat n d).den=1:=by rw [q2,hdg];exact Nat.div_self (by omega)
    simp (disch:=omega) only [↓RS,RZ,simprocAttr,hmax,hmax2,tdivN]
    refine cX t1 ?_
    simp (disch:=omega) only [↓RS,RZ,simprocAttr,hmax,hmax2,tdivN,rV,can,e1,e2,e3]
    try rfl
   ·have e3:(mkRat n d).den≠1:=by
     rw [q2];intro h
     have:=Nat.div_mul_cancel hgm
     rw [h] at this;omega
    simp (disch:=omega) only [↓RS,RZ,simprocAttr,hmax,hmax2,tdivN]
    refine cX t1 ?_
    simp (disch:=omega) only [↓RS,RZ,simprocAttr,hmax,hmax2,tdivN]
    refine cX t2 ?_
    have e4:(can (mkRat n d)).den=digitsOf (d/g):=by simp only [can];rw [if_neg e3,q2]
    simp (disch:=omega) only [↓RS,RZ,simprocAttr,rV,e4]
    simp only [can,e1,e2]
 ·have hlt:(a.tmod b).natAbs<b.natAbs:=by rw [natAbs_tmod];exact Nat.mod_lt _ (by omega)
  simp (disch:=omega) only [↓RS,RZ,simprocAttr]
  refine lp_next (b,a.tmod b) rfl ⟨⟨?_,hb,by simp only;omega⟩,rfl⟩ hlt
  try simp only
  rw [natAbs_tmod,←hg,Nat.gcd_comm a.natAbs,Nat.gcd_rec b.natAbs a.natAbs,Nat.gcd_comm]
theorem bothR_pc (a b:Rt) (f g:FuncId) (q:Rt) (ha:a.num.length<2^36∧a.den.length<2^36) (hb:b.num.length<2^36∧b.den.length<2^36)
 (hs:a.small→b.small→PC prog f [.prim (.int .i64 (a.n)),.prim (.int .i64 ((a.d:Nat):Int)),.prim (.int .i64 (b.n)),.prim (.int .i64 ((b.d:Nat):Int))] (rV q)) (hg:PC prog g [fV a.neg a.num a.dd,fV b.neg b.num b.dd] (rV q)):
 PC prog 151 [rV a,rV b,.clo f [] [],.clo g [] []] (rV q):=by
 refine PCi ?_
 conv in trip _ _=>cbv
 simp only [runT,RN,simprocAttr]
 have m1:=machine_pc a
 have m2:=machine_pc b
 have o1:=ofR_pc a ha.1 ha.2
 have o2:=ofR_pc b hb.1 hb.2
 by_cases h1:a.small
 ·rw [if_pos h1] at m1
  by_cases h2:b.small
  ·rw [if_pos h2] at m2
   have hs:=hs h1 h2
   simp (disch:=omega) only [↓RS,RZ,simprocAttr,rV]
   refine cX m1 ?_
   simp (disch:=omega) only [↓RS,RZ,simprocAttr]
   refine cX m2 ?_
   simp (disch:=omega) only [↓RS,RZ,simprocAttr]
   refine cX hs ?_
   simp (disch:=omega) only [↓RS,RZ,simprocAttr,rV]
  ·rw [if_neg h2] at m2
   simp (disch:=omega) only [↓RS,RZ,simprocAttr,rV]
   refine cX m1 ?_
   simp (disch:=omega) only [↓RS,RZ,simprocAttr]
   refine cX m2 ?_
   simp (disch:=omega) only [↓RS,RZ,simprocAttr]
   refine cX o1 ?_
   simp (disch:=omega) only [↓RS,RZ,simprocAttr,fV]
   refine cX o2 ?_
   simp (disch:=omega) only [↓RS,RZ,simprocAttr,fV]
   refine cX hg ?_
   simp (disch:=omega) only [↓RS,RZ,simprocAttr,rV]
 ·rw [if_neg h1] at m1
  have m2':∃ x y z,PC prog 187 [rV b] (.tup [.prim (.int .i64 (x)),.prim (.int .i64 (y)),.prim (.bool z)]):=by
   by_cases h2:b.small
   ·rw [if_pos h2] at m2;exact ⟨_,_,_,m2⟩
   ·rw [if_neg h2] at m2;exact ⟨_,_,_,m2⟩
  obtain ⟨x,y,z,m2⟩:=m2'
  simp (disch:=omega) only [↓RS,RZ,simprocAttr,rV]
  refine cX m1 ?_
  simp (disch:=omega) only [↓RS,RZ,simprocAttr]
  refine cX m2 ?_
  simp (disch:=omega) only [↓RS,RZ,simprocAttr]
  refine cX o1 ?_
  simp (disch:=omega) only [↓RS,RZ,simprocAttr,fV]
  refine cX o2 ?_
  simp (disch:=omega) only [↓RS,RZ,simprocAttr,fV]
  refine cX hg ?_
  simp (disch:=omega) only [↓RS,RZ,simprocAttr,rV]
end Go.Av
namespace Go.Av
open Go.RowKit
open Go.Proofs.Tryz (prog)
theorem ival_false (l:List UInt8):ival false l=(bval l:Nat):=rfl
theorem mulN_pc (l m:List UInt8) (hl:l.length<2^36) (hm:m.length<2^36):PC prog 121 [iN false l,iN false m] (iN false (digitsOf (bval l*bval m))):=by
 rw [←cI_nat];exact mul_pc false false l m hl hm
theorem addC_pc (x y:Int) (hx:dl x.natAbs<2^36) (hy:dl y.natAbs<2^36):PC prog 155 [cI x,cI y] (cI (x+y)):=by
 have h:=addI_pc (decide (x<0)) (decide (y<0)) (digitsOf x.natAbs) (digitsOf y.natAbs) hx hy
 rwa [ival_can,ival_can] at h
theorem numberC_pc (x:Int) (k:Nat) (hx:dl x.natAbs<2^36) (hk:dl k<2^36) (h0:0<k):PC prog 148 [fV (decide (x<0)) (digitsOf x.natAbs) (digitsOf k)] (rV (can (mkRat x k))):=by
 have h:=number_pc (decide (x<0)) (digitsOf x.natAbs) (digitsOf k) hx hk (by rw [bval_digitsOf];exact h0)
 rwa [ival_can,bval_digitsOf] at h
theorem dl_natAbs_mul (x y:Int):dl (x*y).natAbs≤dl x.natAbs+dl y.natAbs:=by rw [Int.natAbs_mul];exact dl_mul _ _
theorem dl_natAbs_add (x y:Int):dl (x+y).natAbs≤max (dl x.natAbs) (dl y.natAbs)+1:=Nat.le_trans (dl_mono (Int.natAbs_add_le x y)) (dl_add _ _)
theorem dl_ival (s:Bool) (l:List UInt8):dl (ival s l).natAbs≤l.length:=by rw [ival_natAbs];exact dl_bval l
theorem add2_pc (s t:Bool) (l m k j:List UInt8) (hl:l.length<2^33) (hm:m.length<2^33) (hk:k.length<2^33) (hj:j.length<2^33) (h1:0<bval m) (h2:0<bval j):
 PC prog 154 [fV s l m,fV t k j] (rV (can (mkRat (ival s l*bval j+ival t k*bval m) (bval m*bval j)))):=by
 refine PCi ?_
 conv in trip _ _=>cbv
 simp only [runT,RN,simprocAttr]
 have p1:=mul_pc s false l j (by omega) (by omega)
 have p2:=mul_pc t false k m (by omega) (by omega)
 have p3:=mulN_pc m j (by omega) (by omega)
 rw [ival_false] at p1 p2
 have e1:=dl_natAbs_mul (ival s l) (bval j)
 have e2:=dl_natAbs_mul (ival t k) (bval m)
 have e3:=dl_ival s l
 have e4:=dl_ival t k
 have e5:=dl_bval m
 have e6:=dl_bval j
 have e7:=dl_mul (bval m) (bval j)
 have e8:=dl_natAbs_add (ival s l*bval j) (ival t k*bval m)
 rw [Int.natAbs_natCast] at e1 e2
 have p4:=addC_pc (ival s l*bval j) (ival t k*bval m) (by omega) (by omega)
 have p5:=numberC_pc (ival s l*bval j+ival t k*bval m) (bval m*bval j) (by omega) (by omega) (Nat.mul_pos h1 h2)
 generalize ival s l*bval j+ival t k*bval m=z at*
 generalize ival s l*bval j=x at*
 generalize ival t k*bval m=y at*
 clear e1 e2 e3 e4 e5 e6 e7 e8
 simp (disch:=omega) only [↓RS,RZ,simprocAttr,fV]
 refine cX p1 ?_
 simp (disch:=omega) only [↓RS,RZ,simprocAttr,cI,iN]
 refine cX p2 ?_
 simp (disch:=omega) only [↓RS,RZ,simprocAttr,cI,iN]
 refine cX p4 ?_
 simp (disch:=omega) only [↓RS,RZ,simprocAttr,cI,iN]
 refine cX p3 ?_
 simp (disch:=omega) only [↓RS,RZ,simprocAttr,cI,iN]
 refine cX p5 ?_
 simp (disch:=omega) only [↓RS,RZ,simprocAttr,rV]
 try rfl
theorem add1_pc (n m:Int) (d e:Nat) (hn:n.natAbs<16777216) (hm:m.natAbs<16777216) (hd:d<16777216) (he:e<16777216) (h1:0<d) (h2:0<e):
 PC prog 152 [.prim (.int .i64 (n)),.prim (.int .i64 ((d:Nat):Int)),.prim (.int .i64 (m)),.prim (.int .i64 ((e:Nat):Int))] (rV (can (mkRat (n*e+m*d) (d*e)))):=by
 refine PCi ?_
 conv in trip _ _=>cbv
 simp only [runT,RN,simprocAttr]
 have a1:(n*(e:Int)).natAbs<16777216*16777216:=by rw [Int.natAbs_mul,Int.natAbs_natCast];exact Nat.mul_lt_mul_of_lt_of_lt hn he
 have a2:(m*(d:Int)).natAbs<16777216*16777216:=by rw [Int.natAbs_mul,Int.natAbs_natCast];exact Nat.mul_lt_mul_of_lt_of_lt hm hd
 have a3:d*e<16777216*16777216:=Nat.mul_lt_mul_of_lt_of_lt hd he
 have p1:=ratio_pc (n*e+m*d) (d*e) (by omega) (Nat.mul_pos h1 h2) (by omega)
 simp (disch:=omega) only [↓RS,RZ,simprocAttr]
 refine cX p1 ?_
 simp (disch:=omega) only [↓RS,RZ,simprocAttr,rV]
 try rfl
theorem add_val (a b:Rt):mkRat (a.n*b.d+b.n*a.d) (a.d*b.d)=a.val+b.val:=by
 unfold Rt.val
 rw [Rat.mkRat_add_mkRat _ _ (Nat.ne_of_gt a.d_pos) (Nat.ne_of_gt b.d_pos)]
theorem mul_val (a b:Rt):mkRat (a.n*b.n) (a.d*b.d)=a.val*b.val:=by
 unfold Rt.val
 rw [Rat.mkRat_mul_mkRat]
def Rt.le (r:Rt) (k:Nat):Prop:=r.num.length≤k∧r.den.length≤k
theorem dd_len (r:Rt) {k:Nat} (h:r.den.length≤k) (hk:1≤k):r.dd.length≤k:=by unfold Rt.dd;have:=dl1;split<;>omega
theorem small_n {r:Rt} (h:r.small):r.n.natAbs<16777216:=by rw [Rt.n,ival_natAbs];exact bval_3 h.1
theorem small_d {r:Rt} (h:r.small):r.d<16777216:=by have:=bval_3 h.2;unfold Rt.d;split<;>omega
theorem addR_pc (a b:Rt) (ha:a.le (2^32)) (hb:b.le (2^32)):PC prog 91 [rV a,rV b] (rV (can (a.val+b.val))):=by
 refine PCi ?_
 conv in trip _ _=>cbv
 simp only [runT,RN,simprocAttr]
 have h:=bothR_pc a b 152 154 (can (a.val+b.val)) ⟨by have:=ha.1;omega,by have:=ha.2;omega⟩ ⟨by have:=hb.1;omega,by have:=hb.2;omega⟩
  (fun h1 h2=>by rw [←add_val];exact add1_pc a.n b.n a.d b.d (small_n h1) (small_n h2) (small_d h1) (small_d h2) a.d_pos b.d_pos)
  (by
   have h1:=dd_len a ha.2 (by omega)
   have h2:=dd_len b hb.2 (by omega)
   have h3:=ha.1
   have h4:=hb.1
   have h:=add2_pc a.neg b.neg a.num a.dd b.num b.dd (by omega) (by omega) (by omega) (by omega) (by rw [bval_dd];exact a.d_pos) (by rw [bval_dd];exact b.d_pos)
   rw [bval_dd,bval_dd] at h
   rw [←add_val];exact h)
 simp (disch:=omega) only [↓RS,RZ,simprocAttr,rV]
 refine cX h ?_
 simp (disch:=omega) only [↓RS,RZ,simprocAttr,rV]
 try rfl
theorem val_not (r:Rt):(Rt.mk (!r.neg) r.num r.den).val= -r.val:=val_neg r
theorem subR_pc (a b:Rt) (ha:a.le (2^32)) (hb:b.le (2^32)):PC prog 171 [rV a,rV b] (rV (can (a.val-b.val))):=by
 refine PCi ?_
 conv in trip _ _=>cbv
 simp only [runT,RN,simprocAttr]
 have h:=addR_pc a (Rt.mk (!b.neg) b.num b.den) ha hb
 rw [val_not,←Rat.sub_eq_add_neg] at h
 simp (disch:=omega) only [↓RS,RZ,simprocAttr,rV]
 refine cX h ?_
 simp (disch:=omega) only [↓RS,RZ,simprocAttr,rV]
 try rfl
theorem mul2_pc (s t:Bool) (l m k j:List UInt8) (hl:l.length<2^33) (hm:m.length<2^33) (hk:k.length<2^33) (hj:j.length<2^33) (h1:0<bval m) (h2:0<bval j):
 PC prog 159 [fV s l m,fV t k j] (rV (can (mkRat (ival s l*ival t k) (bval m*bval j)))):=by
 refine PCi ?_
 conv in trip _ _=>cbv
 simp only [runT,RN,simprocAttr]
 have p1:=mul_pc s t l k (by omega) (by omega)
 have p3:=mulN_pc m j (by omega) (by omega)
 have e1:=dl_natAbs_mul (ival s l) (ival t k)
 have e3:=dl_ival s l
 have e4:=dl_ival t k
 have e5:=dl_bval m
 have e6:=dl_bval j
 have e7:=dl_mul (bval m) (bval j)
 have p5:=numberC_pc (ival s l*ival t k) (bval m*bval j) (by omega) (by omega) (Nat.mul_pos h1 h2)
 generalize ival s l*ival t k=z at*
 clear e1 e3 e4 e5 e6 e7
 simp (disch:=omega) only [↓RS,RZ,simprocAttr,fV]
 refine cX p1 ?_
 simp (disch:=omega) only [↓RS,RZ,simprocAttr,cI,iN]
 refine cX p3 ?_
 simp (disch:=omega) only [↓RS,RZ,simprocAttr,cI,iN]
 refine cX p5 ?_
 simp (disch:=omega) only [↓RS,RZ,simprocAttr,rV]
 try rfl
theorem mul1_pc (n m:Int) (d e:Nat) (hn:n.natAbs<16777216) (hm:m.natAbs<16777216) (hd:d<16777216) (he:e<16777216) (h1:0<d) (h2:0<e):
 PC prog 158 [.prim (.int .i64 (n)),.prim (.int .i64 ((d:Nat):Int)),.prim (.int .i64 (m)),.prim (.int .i64 ((e:Nat):Int))] (rV (can (mkRat (n*m) (d*e)))):=by
 refine PCi ?_
 conv in trip _ _=>cbv
 simp only [runT,RN,simprocAttr]
 have a1:(n*m).natAbs<16777216*16777216:=by rw [Int.natAbs_mul];exact Nat.mul_lt_mul_of_lt_of_lt hn hm
 have a3:d*e<16777216*16777216:=Nat.mul_lt_mul_of_lt_of_lt hd he
 have p1:=ratio_pc (n*m) (d*e) (by omega) (Nat.mul_pos h1 h2) (by omega)
 simp (disch:=omega) only [↓RS,RZ,simprocAttr]
 refine cX p1 ?_
 simp (disch:=omega) only [↓RS,RZ,simprocAttr,rV]
 try rfl
theorem mulR_pc (a b:Rt) (ha:a.le (2^32)) (hb:b.le (2^32)):PC prog 94 [rV a,rV b] (rV (can (a.val*b.val))):=by
 refine PCi ?_
 conv in trip _ _=>cbv
 simp only [runT,RN,simprocAttr]
 have h:=bothR_pc a b 158 159 (can (a.val*b.val)) ⟨by have:=ha.1;omega,by have:=ha.2;omega⟩ ⟨by have:=hb.1;omega,by have:=hb.2;omega⟩
  (fun h1 h2=>by rw [←mul_val];exact mul1_pc a.n b.n a.d b.d (small_n h1) (small_n h2) (small_d h1) (small_d h2) a.d_pos b.d_pos)
  (by
   have h1:=dd_len a ha.2 (by omega)
   have h2:=dd_len b hb.2 (by omega)
   have h3:=ha.1
   have h4:=hb.1
   have h:=mul2_pc a.neg b.neg a.num a.dd b.num b.dd (by omega) (by omega) (by omega) (by omega) (by rw [bval_dd];exact a.d_pos) (by rw [bval_dd];exact b.d_pos)
   rw [bval_dd,bval_dd] at h
   rw [←mul_val];exact h)
 simp (disch:=omega) only [↓RS,RZ,simprocAttr,rV]
 refine cX h ?_
 simp (disch:=omega) only [↓RS,RZ,simprocAttr,rV]
 try rfl
end Go.Av
namespace Go.Av
open Go.RowKit
open Go.Proofs.Tryz (prog)
def cmpQ (p q:Rat):Int:=if p<q then-1 else if q<p then 1 else 0
theorem val_nd (r:Rt):∃ g:Nat,0<g∧r.n=r.val.num*g∧r.d=r.val.den*g:=by
 obtain ⟨m,h1,h2,h3⟩:=Rat.mkRat_num_den (n:=r.n) (d:=r.d) (Nat.ne_of_gt r.d_pos) (n':=r.val.num) (d':=r.val.den) (z':=r.val.den_nz) (c:=r.val.reduced) rfl
 exact ⟨m,by omega,h2,h3⟩
theorem val_lt (a b:Rt):a.val<b.val↔a.n*b.d<b.n*a.d:=by
 obtain ⟨g,g0,g1,g2⟩:=val_nd a
 obtain ⟨h,h0,h1,h2⟩:=val_nd b
 rw [Rat.lt_iff,g1,g2,h1,h2]
 have hp:(0:Int)<(g:Int)*(h:Int):=Int.mul_pos (by omega) (by omega)
 have e1:a.val.num*(g:Int)*((b.val.den*h:Nat):Int)=(g*h:Int)*(a.val.num*b.val.den):=by rw [Int.natCast_mul];grind
 have e2:b.val.num*(h:Int)*((a.val.den*g:Nat):Int)=(g*h:Int)*(b.val.num*a.val.den):=by rw [Int.natCast_mul];grind
 rw [e1,e2]
 exact ⟨fun h=>Int.mul_lt_mul_of_pos_left h hp,fun h=>Int.lt_of_mul_lt_mul_left h (Int.le_of_lt hp)⟩
theorem cmp_val (a b:Rt):cmpI (a.n*b.d) (b.n*a.d)=cmpQ a.val b.val:=by
 unfold cmpI cmpQ
 by_cases h1:a.val<b.val
 ·rw [if_pos h1,if_pos ((val_lt a b).1 h1)]
 ·rw [if_neg h1,if_neg (fun h=>h1 ((val_lt a b).2 h))]
  by_cases h2:b.val<a.val
  ·rw [if_pos h2,if_pos ((val_lt b a).1 h2)]
  ·rw [if_neg h2,if_neg (fun h=>h2 ((val_lt b a).2 h))]
theorem bothI_pc (a b:Rt) (f g:FuncId) (q:Int) (ha:a.num.length<2^36∧a.den.length<2^36) (hb:b.num.length<2^36∧b.den.length<2^36)
 (hs:a.small→b.small→PC prog f [.prim (.int .i64 (a.n)),.prim (.int .i64 ((a.d:Nat):Int)),.prim (.int .i64 (b.n)),.prim (.int .i64 ((b.d:Nat):Int))] (.prim (.int .i64 (q)))) (hg:PC prog g [fV a.neg a.num a.dd,fV b.neg b.num b.dd] (.prim (.int .i64 (q)))):
 PC prog 117 [rV a,rV b,.clo f [] [],.clo g [] []] (.prim (.int .i64 (q))):=by
 refine PCi ?_
 conv in trip _ _=>cbv
 simp only [runT,RN,simprocAttr]
 have m1:=machine_pc a
 have m2:=machine_pc b
 have o1:=ofR_pc a ha.1 ha.2
 have o2:=ofR_pc b hb.1 hb.2
 by_cases h1:a.small
 ·rw [if_pos h1] at m1
  by_cases h2:b.small
  ·rw [if_pos h2] at m2
   have hs:=hs h1 h2
   simp (disch:=omega) only [↓RS,RZ,simprocAttr,rV]
   refine cX m1 ?_
   simp (disch:=omega) only [↓RS,RZ,simprocAttr]
   refine cX m2 ?_
   simp (disch:=omega) only [↓RS,RZ,simprocAttr]
   refine cX hs ?_
   simp (disch:=omega) only [↓RS,RZ,simprocAttr]
  ·rw [if_neg h2] at m2
   simp (disch:=omega) only [↓RS,RZ,simprocAttr,rV]
   refine cX m1 ?_
   simp (disch:=omega) only [↓RS,RZ,simprocAttr]
   refine cX m2 ?_
   simp (disch:=omega) only [↓RS,RZ,simprocAttr]
   refine cX o1 ?_
   simp (disch:=omega) only [↓RS,RZ,simprocAttr,fV]
   refine cX o2 ?_
   simp (disch:=omega) only [↓RS,RZ,simprocAttr,fV]
   refine cX hg ?_
   simp (disch:=omega) only [↓RS,RZ,simprocAttr]
 ·rw [if_neg h1] at m1
  have m2':∃ x y z,PC prog 187 [rV b] (.tup [.prim (.int .i64 (x)),.prim (.int .i64 (y)),.prim (.bool z)]):=by
   by_cases h2:b.small
   ·rw [if_pos h2] at m2;exact ⟨_,_,_,m2⟩
   ·rw [if_neg h2] at m2;exact ⟨_,_,_,m2⟩
  obtain ⟨x,y,z,m2⟩:=m2'
  simp (disch:=omega) only [↓RS,RZ,simprocAttr,rV]
  refine cX m1 ?_
  simp (disch:=omega) only [↓RS,RZ,simprocAttr]
  refine cX m2 ?_
  simp (disch:=omega) only [↓RS,RZ,simprocAttr]
  refine cX o1 ?_
  simp (disch:=omega) only [↓RS,RZ,simprocAttr,fV]
  refine cX o2 ?_
  simp (disch:=omega) only [↓RS,RZ,simprocAttr,fV]
  refine cX hg ?_
  simp (disch:=omega) only [↓RS,RZ,simprocAttr]
theorem cmp1_pc (n m:Int) (d e:Nat) (hn:n.natAbs<16777216) (hm:m.natAbs<16777216) (hd:d<16777216) (he:e<16777216):
 PC prog 118 [.prim (.int .i64 (n)),.prim (.int .i64 ((d:Nat):Int)),.prim (.int .i64 (m)),.prim (.int .i64 ((e:Nat):Int))] (.prim (.int .i64 (cmpI (n*e) (m*d)))):=by
 refine PCi ?_
 conv in trip _ _=>cbv
 simp only [runT,RN,simprocAttr]
 have a1:(n*(e:Int)).natAbs<16777216*16777216:=by rw [Int.natAbs_mul,Int.natAbs_natCast];exact Nat.mul_lt_mul_of_lt_of_lt hn he
 have a2:(m*(d:Int)).natAbs<16777216*16777216:=by rw [Int.natAbs_mul,Int.natAbs_natCast];exact Nat.mul_lt_mul_of_lt_of_lt hm hd
 by_cases h1:n*(e:Int)<m*(d:Int)
 ·rw [cmpI,if_pos h1]
  simp (disch:=omega) only [↓RS,RZ,simprocAttr]
 ·by_cases h2:m*(d:Int)<n*(e:Int)
  ·rw [cmpI,if_neg h1,if_pos h2]
   simp (disch:=omega) only [↓RS,RZ,simprocAttr]
  ·rw [cmpI,if_neg h1,if_neg h2]
   simp (disch:=omega) only [↓RS,RZ,simprocAttr]
theorem compareC_pc (x y:Int) (hx:dl x.natAbs<2^36) (hy:dl y.natAbs<2^36):PC prog 120 [cI x,cI y] (.prim (.int .i64 (cmpI x y))):=by
 have h:=compareI_pc (decide (x<0)) (decide (y<0)) (digitsOf x.natAbs) (digitsOf y.natAbs) hx hy
 rwa [ival_can,ival_can] at h
theorem cmp2_pc (s t:Bool) (l m k j:List UInt8) (hl:l.length<2^33) (hm:m.length<2^33) (hk:k.length<2^33) (hj:j.length<2^33):
 PC prog 119 [fV s l m,fV t k j] (.prim (.int .i64 (cmpI (ival s l*bval j) (ival t k*bval m)))):=by
 refine PCi ?_
 conv in trip _ _=>cbv
 simp only [runT,RN,simprocAttr]
 have p1:=mul_pc s false l j (by omega) (by omega)
 have p2:=mul_pc t false k m (by omega) (by omega)
 rw [ival_false] at p1 p2
 have e1:=dl_natAbs_mul (ival s l) (bval j)
 have e2:=dl_natAbs_mul (ival t k) (bval m)
 have e3:=dl_ival s l
 have e4:=dl_ival t k
 have e5:=dl_bval m
 have e6:=dl_bval j
 rw [Int.natAbs_natCast] at e1 e2
 have p4:=compareC_pc (ival s l*bval j) (ival t k*bval m) (by omega) (by omega)
 generalize ival s l*bval j=x at*
 generalize ival t k*bval m=y at*
 clear e1 e2 e3 e4 e5 e6
 simp (disch:=omega) only [↓RS,RZ,simprocAttr,fV]
 refine cX p1 ?_
 simp (disch:=omega) only [↓RS,RZ,simprocAttr,cI,iN]
 refine cX p2 ?_
 simp (disch:=omega) only [↓RS,RZ,simprocAttr,cI,iN]
 refine cX p4 ?_
 simp (disch:=omega) only [↓RS,RZ,simprocAttr]
theorem cmpR_pc (a b:Rt) (ha:a.le (2^32)) (hb:b.le (2^32)):PC prog 55 [rV a,rV b] (.prim (.int .i64 (cmpQ a.val b.val))):=by
 refine PCi ?_
 conv in trip _ _=>cbv
 simp only [runT,RN,simprocAttr]
 have h:=bothI_pc a b 118 119 (cmpQ a.val b.val) ⟨by have:=ha.1;omega,by have:=ha.2;omega⟩ ⟨by have:=hb.1;omega,by have:=hb.2;omega⟩
  (fun h1 h2=>by rw [←cmp_val];exact cmp1_pc a.n b.n a.d b.d (small_n h1) (small_n h2) (small_d h1) (small_d h2))
  (by
   have h1:=dd_len a ha.2 (by omega)
   have h2:=dd_len b hb.2 (by omega)
   have h3:=ha.1
   have h4:=hb.1
   have h:=cmp2_pc a.neg b.neg a.num a.dd b.num b.dd (by omega) (by omega) (by omega) (by omega)
   rw [bval_dd,bval_dd] at h
   rw [←cmp_val];exact h)
 simp (disch:=omega) only [↓RS,RZ,simprocAttr,rV]
 refine cX h ?_
 simp (disch:=omega) only [↓RS,RZ,simprocAttr]
theorem sign_val (r:Rt):cmpI r.n 0=cmpQ r.val 0:=by
 have h:=cmp_val r (Rt.mk false [] [])
 have e1:(Rt.mk false [] []).n=0:=rfl
 have e2:(Rt.mk false [] []).d=1:=rfl
 have e3:(Rt.mk false [] []).val=0:=by unfold Rt.val;rw [e1,Rat.zero_mkRat]
 rw [e1,e2,e3] at h
 simpa using h
theorem signR_pc (a:Rt) (ha:a.le (2^32)):PC prog 123 [rV a] (.prim (.int .i64 (cmpQ a.val 0))):=by
 refine PCi ?_
 conv in trip _ _=>cbv
 simp only [runT,RN,simprocAttr]
 have o1:=ofR_pc a (by have:=ha.1;omega) (by have:=ha.2;omega)
 have hc:=compareI_pc a.neg false a.num [] (by have:=ha.1;omega) (by simp)
 rw [zeroI,←Rt.n,sign_val] at hc
 simp (disch:=omega) only [↓RS,RZ,simprocAttr,rV]
 refine cX o1 ?_
 simp (disch:=omega) only [↓RS,RZ,simprocAttr,fV]
 refine cX hc ?_
 simp (disch:=omega) only [↓RS,RZ,simprocAttr]
end Go.Av
