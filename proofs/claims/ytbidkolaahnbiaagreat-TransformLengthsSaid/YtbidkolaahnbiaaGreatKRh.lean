/- Helping texts: Rh, Ri, Rj, Rk, Rl, Rm, Rn, Ro, Rp. -/
import Derived.Test.YtbidkolaahnbiaaGreatKRe
import Derived.Test.YtbidkolaahnbiaaGreatKCv
set_option linter.unusedSimpArgs false
set_option linter.unusedVariables false
set_option maxRecDepth 100000
set_option maxHeartbeats 16000000
namespace Go.Av
open Go.RowKit
open Go.Proofs.Tryz (prog)
theorem digits_nil {n:Nat} (h:n=0):digitsOf n=[]:=by subst h;exact digitsOf_zero
theorem mul_sign {x y:Int} (hx:x≠0) (hy:y≠0):(decide (x<0) !=decide (y<0))=decide (x*y<0):=by
 rcases Int.lt_or_gt_of_ne hx with h1|h1<;>rcases Int.lt_or_gt_of_ne hy with h2|h2
 ·rw [decide_eq_true h1,decide_eq_true h2,decide_eq_false (by have:=Int.mul_pos_of_neg_of_neg h1 h2;omega)];rfl
 ·rw [decide_eq_true h1,decide_eq_false (by omega),decide_eq_true (Int.mul_neg_of_neg_of_pos h1 h2)];rfl
 ·rw [decide_eq_false (by omega),decide_eq_true h2,decide_eq_true (Int.mul_neg_of_pos_of_neg h1 h2)];rfl
 ·rw [decide_eq_false (by omega),decide_eq_false (by omega),decide_eq_false (by have:=Int.mul_pos h1 h2;omega)];rfl
theorem small_prod {x y:Int} (h:(digitsOf x.natAbs).length+(digitsOf y.natAbs).length≤7): -72057594037927936<x*y∧x*y<72057594037927936:=by
 have h1:=bval_lt (digitsOf x.natAbs)
 have h2:=bval_lt (digitsOf y.natAbs)
 rw [bval_digitsOf] at h1 h2
 have h3:x.natAbs*y.natAbs<256^(digitsOf x.natAbs).length*256^(digitsOf y.natAbs).length:=Nat.mul_lt_mul_of_lt_of_lt h1 h2
 rw [←Nat.pow_add,←Int.natAbs_mul] at h3
 have h4:256^((digitsOf x.natAbs).length+(digitsOf y.natAbs).length)≤256^7:=Nat.pow_le_pow_right (by decide) h
 simp only [Nat.reducePow] at h4
 omega
theorem nonnil_beq {n:Nat} (h:n≠0):(digitsOf n==[])=false:=by rw [digits_beq];exact decide_eq_false h
theorem rmul_pc (s t:Bool) (l m:List UInt8) (hl:l.length<2^35) (hm:m.length<2^35):PC prog 198 [iN s l,iN t m] (cI (ival s l*ival t m)):=by
 have k1:=rcan_pc s l (by omega)
 have k2:=rcan_pc t m (by omega)
 have a1:=dl_ival s l
 have a2:=dl_ival t m
 generalize ival s l=x at*
 generalize ival t m=y at*
 rw [←len_dl] at a1 a2
 refine PCi ?_
 conv in trip _ _=>cbv
 simp only [runT,RN,simprocAttr]
 by_cases hx:x=0
 ·have hz:=digits_nil (n:=x.natAbs) (by omega)
  rw [cI,hz] at k1
  simp (disch:=omega) only [↓RS,RZ,simprocAttr,iN]
  refine cX k1 ?_
  simp (disch:=omega) only [↓RS,RZ,simprocAttr,iN]
  refine cX k2 ?_
  simp (disch:=omega) only [↓RS,RZ,simprocAttr,cI,iN]
  exact agg_cI0 (by rw [hx,Int.zero_mul])
 have hx1:=nonnil_beq (n:=x.natAbs) (by omega)
 by_cases hy:y=0
 ·have hz:=digits_nil (n:=y.natAbs) (by omega)
  rw [cI,hz] at k2
  simp (disch:=omega) only [↓RS,RZ,simprocAttr,iN]
  refine cX k1 ?_
  simp (disch:=omega) only [↓RS,RZ,simprocAttr,iN]
  refine cX k2 ?_
  simp (disch:=omega) only [↓RS,RZ,simprocAttr,cI,iN,hx1]
  exact agg_cI0 (by rw [hy,Int.mul_zero])
 have hy1:=nonnil_beq (n:=y.natAbs) (by omega)
 have hsg:=mul_sign hx hy
 by_cases hs:(digitsOf x.natAbs).length+(digitsOf y.natAbs).length≤7
 ·have v1:=rvalue_pc (decide (x<0)) (digitsOf x.natAbs) (by omega)
  have v2:=rvalue_pc (decide (y<0)) (digitsOf y.natAbs) (by omega)
  rw [ival_can] at v1 v2
  have hp:=small_prod hs
  have hof:=rof_pc (x*y) (by omega) (by omega)
  simp (disch:=omega) only [↓RS,RZ,simprocAttr,iN]
  refine cX k1 ?_
  simp (disch:=omega) only [↓RS,RZ,simprocAttr,iN]
  refine cX k2 ?_
  simp (disch:=omega) only [↓RS,RZ,simprocAttr,cI,iN,hx1,hy1]
  refine cX v1 ?_
  simp (disch:=omega) only [↓RS,RZ,simprocAttr,cI,iN]
  refine cX v2 ?_
  simp (disch:=omega) only [↓RS,RZ,simprocAttr,cI,iN]
  refine cX hof ?_
  simp (disch:=omega) only [↓RS,RZ,simprocAttr,cI,iN]
 ·have p1:=rmulm_pc (digitsOf x.natAbs) (digitsOf y.natAbs) (by omega) (by omega)
  rw [bval_digitsOf,bval_digitsOf] at p1
  simp (disch:=omega) only [↓RS,RZ,simprocAttr,iN]
  refine cX k1 ?_
  simp (disch:=omega) only [↓RS,RZ,simprocAttr,iN]
  refine cX k2 ?_
  simp (disch:=omega) only [↓RS,RZ,simprocAttr,cI,iN,hx1,hy1,eqA_bool9,not_beq]
  refine cX p1 ?_
  simp (disch:=omega) only [↓RS,RZ,simprocAttr,iN]
  exact agg_cI hsg (Int.natAbs_mul x y).symm
theorem rcmp_pc (s t:Bool) (l m:List UInt8) (hl:l.length<2^35) (hm:m.length<2^35):PC prog 197 [iN s l,iN t m] (.prim (.int .i64 (cmpI (ival s l) (ival t m)))):=by
 have k1:=rcan_pc s l (by omega)
 have k2:=rcan_pc t m (by omega)
 have a1:=dl_ival s l
 have a2:=dl_ival t m
 generalize ival s l=x at*
 generalize ival t m=y at*
 have c1:=rcmag_pc x.natAbs y.natAbs (by omega) (by omega)
 have c2:=rcmag_pc y.natAbs x.natAbs (by omega) (by omega)
 refine PCi ?_
 conv in trip _ _=>cbv
 simp only [runT,RN,simprocAttr]
 by_cases hx:x<0
 ·by_cases hy:y<0
  ·have e:cmpI x y=sgn y.natAbs x.natAbs:=by unfold cmpI sgn;repeat' split<;>omega
   rw [e]
   simp only [cI,hx,hy,decide_true,decide_false] at k1 k2
   simp (disch:=omega) only [↓RS,RZ,simprocAttr,iN]
   refine cX k1 ?_
   simp (disch:=omega) only [↓RS,RZ,simprocAttr,iN]
   refine cX k2 ?_
   simp (disch:=omega) only [↓RS,RZ,simprocAttr,iN,eqA_bool9,tf_beq,ft_beq]
   refine cX c2 ?_
   simp (disch:=omega) only [↓RS,RZ,simprocAttr,iN]
  ·have e:cmpI x y= -1:=by rw [cmpI,if_pos (by omega)]
   rw [e]
   simp only [cI,hx,hy,decide_true,decide_false] at k1 k2
   simp (disch:=omega) only [↓RS,RZ,simprocAttr,iN]
   refine cX k1 ?_
   simp (disch:=omega) only [↓RS,RZ,simprocAttr,iN]
   refine cX k2 ?_
   simp (disch:=omega) only [↓RS,RZ,simprocAttr,iN,eqA_bool9,tf_beq,ft_beq]
 ·by_cases hy:y<0
  ·have e:cmpI x y=1:=by rw [cmpI,if_neg (by omega),if_pos (by omega)]
   rw [e]
   simp only [cI,hx,hy,decide_true,decide_false] at k1 k2
   simp (disch:=omega) only [↓RS,RZ,simprocAttr,iN]
   refine cX k1 ?_
   simp (disch:=omega) only [↓RS,RZ,simprocAttr,iN]
   refine cX k2 ?_
   simp (disch:=omega) only [↓RS,RZ,simprocAttr,iN,eqA_bool9,tf_beq,ft_beq]
  ·have e:cmpI x y=sgn x.natAbs y.natAbs:=by unfold cmpI sgn;repeat' split<;>omega
   rw [e]
   simp only [cI,hx,hy,decide_true,decide_false] at k1 k2
   simp (disch:=omega) only [↓RS,RZ,simprocAttr,iN]
   refine cX k1 ?_
   simp (disch:=omega) only [↓RS,RZ,simprocAttr,iN]
   refine cX k2 ?_
   simp (disch:=omega) only [↓RS,RZ,simprocAttr,iN,eqA_bool9,tf_beq,ft_beq]
   refine cX c1 ?_
   simp (disch:=omega) only [↓RS,RZ,simprocAttr,iN]
end Go.Av
namespace Go.Av
open Go.RowKit
open Go.Proofs.Tryz (prog)
end Go.Av
namespace Go.Av
open Go.RowKit
open Go.Proofs.Tryz (prog)
theorem rsml_pc (r:Rt):PC prog 195 [rV r] (if r.small then .tup [.prim (.int .i64 (r.n)),.prim (.int .i64 ((r.d:Nat):Int)),.prim (.bool true)] else .tup [.prim (.int .i64 (0)),.prim (.int .i64 (0)),.prim (.bool false)]):=by
 obtain ⟨s,l,m⟩:=r
 by_cases h1:l.length≤3
 ·by_cases h2:m.length≤3
  ·have h3:=bval_3 h1
   have h4:=bval_3 h2
   have hs:(Rt.mk s l m).small:=⟨h1,h2⟩
   have d1:=rnumber_pc l (by omega)
   have d2:=rnumber_pc m (by omega)
   rw [if_pos hs]
   have en:(Rt.mk s l m).n=if s then 0-((bval l:Nat):Int) else ((bval l:Nat):Int):=by cases s<;>simp [Rt.n,ival,sg]
   have ed:(Rt.mk s l m).d=if bval m=0 then 1 else bval m:=rfl
   rw [en,ed]
   have g1:((1:Nat):Int)=1:=rfl
   by_cases hz:bval m=0
   ·rw [if_pos hz]
    cases s<;>(
     refine PCi ?_
     conv in trip _ _=>cbv
     simp only [runT,RN,simprocAttr]
     simp (disch:=omega) only [↓RS,RZ,simprocAttr,rV]
     refine cX d1 ?_
     simp (disch:=omega) only [↓RS,RZ,simprocAttr]
     refine cX d2 ?_
     simp (disch:=omega) only [↓RS,RZ,simprocAttr,hz,g1])
   ·rw [if_neg hz]
    cases s<;>(
     refine PCi ?_
     conv in trip _ _=>cbv
     simp only [runT,RN,simprocAttr]
     simp (disch:=omega) only [↓RS,RZ,simprocAttr,rV]
     refine cX d1 ?_
     simp (disch:=omega) only [↓RS,RZ,simprocAttr]
     refine cX d2 ?_
     simp (disch:=omega) only [↓RS,RZ,simprocAttr])
  ·have hs:¬(Rt.mk s l m).small:=fun h=>h2 h.2
   rw [if_neg hs]
   refine PCi ?_
   conv in trip _ _=>cbv
   simp only [runT,RN,simprocAttr]
   simp (disch:=omega) only [↓RS,RZ,simprocAttr,rV]
 ·have hs:¬(Rt.mk s l m).small:=fun h=>h1 h.1
  rw [if_neg hs]
  refine PCi ?_
  conv in trip _ _=>cbv
  simp only [runT,RN,simprocAttr]
  simp (disch:=omega) only [↓RS,RZ,simprocAttr,rV]
end Go.Av
namespace Go.Av
open Go.RowKit
open Go.Proofs.Tryz (prog)
end Go.Av
namespace Go.Av
open Go.RowKit
open Go.Proofs.Tryz (prog)
theorem radd0_pc (s:Bool) (l:List UInt8) (hl:l.length<2^35):PC prog 242 [iN s l,.agg [.prim (.bool false),.prim (.string (bs ([])))]] (cI (ival s l)):=by
 have h:=radd_pc s false l [] hl (by simp)
 rw [zeroI,Int.add_zero] at h;exact h
theorem rparts_pc (r:Rt) (h1:r.num.length<2^35) (h2:r.den.length<2^35):PC prog 196 [rV r] (.tup [cI r.n,cI r.d]):=by
 obtain ⟨s,l,m⟩:=r
 simp only at h1 h2
 have a1:=radd0_pc s l h1
 have a2:=radd0_pc false m h2
 rw [show ival false m=((bval m:Nat):Int) from rfl,cI_nat] at a2
 have hn:(Rt.mk s l m).n=ival s l:=rfl
 have hd:(Rt.mk s l m).d=if bval m=0 then 1 else bval m:=rfl
 rw [hn,hd]
 have a1':PC prog 242 [.agg [.prim (.bool s),.prim (.string (bs l))],.agg [.prim (.bool false),.prim (.string (bs ([])))]] (cI (ival s l)):=a1
 have a2':PC prog 242 [.agg [.prim (.bool false),.prim (.string (bs m))],.agg [.prim (.bool false),.prim (.string (bs ([])))]] (iN false (digitsOf (bval m))):=a2
 by_cases hz:bval m=0
 ·rw [if_pos hz]
  have o:=rof_pc 1 (by omega) (by omega)
  rw [show (1:Int)=((1:Nat):Int) from rfl,cI_nat] at o
  have o':PC prog 176 [.prim (.int .i64 (1))] (iN false (digitsOf 1)):=o
  rw [hz,digitsOf_zero] at a2'
  rw [cI_nat]
  refine PCi ?_
  conv in trip _ _=>cbv
  simp only [runT,RN,simprocAttr]
  simp (disch:=omega) only [↓RS,RZ,simprocAttr,rV]
  refine cX a1' ?_
  simp (disch:=omega) only [↓RS,RZ,simprocAttr,cI,iN]
  refine cX a2' ?_
  simp (disch:=omega) only [↓RS,RZ,simprocAttr,cI,iN]
  refine cX o' ?_
  simp (disch:=omega) only [↓RS,RZ,simprocAttr,cI,iN]
 ·rw [if_neg hz]
  have hb:=nonnil_beq hz
  rw [cI_nat]
  refine PCi ?_
  conv in trip _ _=>cbv
  simp only [runT,RN,simprocAttr]
  simp (disch:=omega) only [↓RS,RZ,simprocAttr,rV]
  refine cX a1' ?_
  simp (disch:=omega) only [↓RS,RZ,simprocAttr,cI,iN]
  refine cX a2' ?_
  simp (disch:=omega) only [↓RS,RZ,simprocAttr,cI,iN,hb]
end Go.Av
namespace Go.Av
open Go.RowKit
open Go.Proofs.Tryz (prog)
theorem rmulC_pc (x y:Int) (hx:dl x.natAbs<2^35) (hy:dl y.natAbs<2^35):PC prog 198 [cI x,cI y] (cI (x*y)):=by
 have h:=rmul_pc (decide (x<0)) (decide (y<0)) (digitsOf x.natAbs) (digitsOf y.natAbs) hx hy
 rwa [ival_can,ival_can] at h
theorem rcmpC_pc (x y:Int) (hx:dl x.natAbs<2^35) (hy:dl y.natAbs<2^35):PC prog 197 [cI x,cI y] (.prim (.int .i64 (cmpI x y))):=by
 have h:=rcmp_pc (decide (x<0)) (decide (y<0)) (digitsOf x.natAbs) (digitsOf y.natAbs) hx hy
 rwa [ival_can,ival_can] at h
theorem dl_n {r:Rt} {k:Nat} (h:r.le k):dl r.n.natAbs≤k:=Nat.le_trans (dl_ival r.neg r.num) h.1
theorem dl_d {r:Rt} {k:Nat} (h:r.le k) (hk:1≤k):dl r.d≤k:=by
 have h1:=dl_bval r.dd
 have h2:=dd_len r h.2 hk
 rw [bval_dd] at h1;omega
theorem rsml_any (r:Rt):∃ x y z,PC prog 195 [rV r] (.tup [.prim (.int .i64 (x)),.prim (.int .i64 (y)),.prim (.bool z)]):=by
 have h:=rsml_pc r
 by_cases hs:r.small
 ·rw [if_pos hs] at h;exact ⟨_,_,_,h⟩
 ·rw [if_neg hs] at h;exact ⟨_,_,_,h⟩
theorem small_mul {n:Int} {e:Nat} (hn:n.natAbs<16777216) (he:e<16777216):(n*(e:Int)).natAbs<281474976710656:=by
 rw [Int.natAbs_mul,Int.natAbs_natCast];exact Nat.mul_lt_mul_of_lt_of_lt (a:=n.natAbs) (c:=16777216) (b:=e) (d:=16777216) hn he
end Go.Av
namespace Go.Av
open Go.RowKit
open Go.Proofs.Tryz (prog)
theorem rcmpR_pc (a b:Rt) (ha:a.le (2^32)) (hb:b.le (2^32)):PC prog 119 [rV a,rV b] (.prim (.int .i64 (cmpQ a.val b.val))):=by
 have m1:=rsml_pc a
 have m2:=rsml_pc b
 have o1:=rparts_pc a (by have:=ha.1;omega) (by have:=ha.2;omega)
 have o2:=rparts_pc b (by have:=hb.1;omega) (by have:=hb.2;omega)
 have e1:=dl_n ha
 have e2:=dl_n hb
 have e3:=dl_d ha (by omega)
 have e4:=dl_d hb (by omega)
 have hda:=a.d_pos
 have hdb:=b.d_pos
 have f1:=dl_natAbs_mul a.n b.d
 have f2:=dl_natAbs_mul b.n a.d
 rw [Int.natAbs_natCast] at f1 f2
 have p1:=rmulC_pc a.n b.d (by omega) (by rw [Int.natAbs_natCast];omega)
 have p2:=rmulC_pc b.n a.d (by omega) (by rw [Int.natAbs_natCast];omega)
 have p4:=rcmpC_pc (a.n*b.d) (b.n*a.d) (by omega) (by omega)
 rw [←cmp_val]
 by_cases hs:a.small∧b.small
 ·rw [if_pos hs.1] at m1
  rw [if_pos hs.2] at m2
  have a1:=small_mul (small_n hs.1) (small_d hs.2)
  have a2:=small_mul (small_n hs.2) (small_d hs.1)
  clear p1 p2 p4 f1 f2 e1 e2 e3 e4 o1 o2
  rcases Int.lt_trichotomy (a.n*(b.d:Int)) (b.n*(a.d:Int)) with h|h|h
  ·have e:cmpI (a.n*b.d) (b.n*a.d)= -1:=by rw [cmpI,if_pos h]
   rw [e]
   refine PCi ?_
   conv in trip _ _=>cbv
   simp only [runT,RN,simprocAttr]
   simp (disch:=omega) only [↓RS,RZ,simprocAttr,rV]
   refine cX m1 ?_
   simp (disch:=omega) only [↓RS,RZ,simprocAttr]
   refine cX m2 ?_
   simp (disch:=omega) only [↓RS,RZ,simprocAttr]
  ·have e:cmpI (a.n*b.d) (b.n*a.d)=0:=by rw [cmpI,if_neg (by omega),if_neg (by omega)]
   rw [e]
   refine PCi ?_
   conv in trip _ _=>cbv
   simp only [runT,RN,simprocAttr]
   simp (disch:=omega) only [↓RS,RZ,simprocAttr,rV]
   refine cX m1 ?_
   simp (disch:=omega) only [↓RS,RZ,simprocAttr]
   refine cX m2 ?_
   simp (disch:=omega) only [↓RS,RZ,simprocAttr]
  ·have e:cmpI (a.n*b.d) (b.n*a.d)=1:=by rw [cmpI,if_neg (by omega),if_pos h]
   rw [e]
   refine PCi ?_
   conv in trip _ _=>cbv
   simp only [runT,RN,simprocAttr]
   simp (disch:=omega) only [↓RS,RZ,simprocAttr,rV]
   refine cX m1 ?_
   simp (disch:=omega) only [↓RS,RZ,simprocAttr]
   refine cX m2 ?_
   simp (disch:=omega) only [↓RS,RZ,simprocAttr]
 ·simp only [cI_nat] at o1 o2 p1 p2
  generalize a.n*(b.d:Int)=X at*
  generalize b.n*(a.d:Int)=Y at*
  clear f1 f2 e1 e2 e3 e4
  by_cases h1:a.small
  ·have h2:¬b.small:=fun h=>hs ⟨h1,h⟩
   rw [if_pos h1] at m1
   rw [if_neg h2] at m2
   refine PCi ?_
   conv in trip _ _=>cbv
   simp only [runT,RN,simprocAttr]
   simp (disch:=omega) only [↓RS,RZ,simprocAttr,rV]
   refine cX m1 ?_
   simp (disch:=omega) only [↓RS,RZ,simprocAttr]
   refine cX m2 ?_
   simp (disch:=omega) only [↓RS,RZ,simprocAttr]
   refine cX o1 ?_
   simp (disch:=omega) only [↓RS,RZ,simprocAttr,cI,iN]
   refine cX o2 ?_
   simp (disch:=omega) only [↓RS,RZ,simprocAttr,cI,iN]
   refine cX p1 ?_
   simp (disch:=omega) only [↓RS,RZ,simprocAttr,cI,iN]
   refine cX p2 ?_
   simp (disch:=omega) only [↓RS,RZ,simprocAttr,cI,iN]
   refine cX p4 ?_
   simp (disch:=omega) only [↓RS,RZ,simprocAttr]
  ·rw [if_neg h1] at m1
   obtain ⟨x,y,z,m2⟩:=rsml_any b
   refine PCi ?_
   conv in trip _ _=>cbv
   simp only [runT,RN,simprocAttr]
   simp (disch:=omega) only [↓RS,RZ,simprocAttr,rV]
   refine cX m1 ?_
   simp (disch:=omega) only [↓RS,RZ,simprocAttr]
   refine cX m2 ?_
   simp (disch:=omega) only [↓RS,RZ,simprocAttr]
   refine cX o1 ?_
   simp (disch:=omega) only [↓RS,RZ,simprocAttr,cI,iN]
   refine cX o2 ?_
   simp (disch:=omega) only [↓RS,RZ,simprocAttr,cI,iN]
   refine cX p1 ?_
   simp (disch:=omega) only [↓RS,RZ,simprocAttr,cI,iN]
   refine cX p2 ?_
   simp (disch:=omega) only [↓RS,RZ,simprocAttr,cI,iN]
   refine cX p4 ?_
   simp (disch:=omega) only [↓RS,RZ,simprocAttr]
end Go.Av
namespace Go.Av
open Go.RowKit
open Go.Proofs.Tryz (prog)
end Go.Av
namespace Go.Av
open Go.RowKit
open Go.Proofs.Tryz (prog)
theorem rcmpQ_pc (p q:Rat) (hp:ht p≤2^32) (hq:ht q≤2^32):PC prog 119 [qV p,qV q] (.prim (.int .i64 (cmpQ p q))):=by
 have h:=rcmpR_pc (can p) (can q) (can_le hp) (can_le hq)
 rwa [can_val,can_val] at h
def dotP (p q:Pt):Rat:=p.x*q.x+p.y*q.y
theorem ht_dot (p q:Pt):ht (dotP p q)≤2*(hp p+hp q)+1:=by
 have:=ht_add (p.x*q.x) (p.y*q.y);have:=ht_mul p.x q.x;have:=ht_mul p.y q.y;have:=hp_x p;have:=hp_y p;have:=hp_x q;have:=hp_y q
 unfold dotP;omega
end Go.Av
