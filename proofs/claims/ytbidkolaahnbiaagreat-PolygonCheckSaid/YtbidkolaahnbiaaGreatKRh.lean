/- Helping texts: Rh, Ri, Rj. -/
import Derived.Test.YtbidkolaahnbiaaGreatKRe
set_option linter.unusedSimpArgs false
set_option linter.unusedVariables false
set_option maxRecDepth 100000
set_option maxHeartbeats 16000000
namespace Go.Av
open Go.RowKit
open Go.Proofs.Tryz (prog)
theorem rneg_pc (s:Bool) (l:List UInt8) (hl:l.length<2^35):PC prog 243 [iN s l] (cI (-(ival s l))):=by
 have k1:=rcan_pc s l (by omega)
 generalize ival s l=x at*
 have hz:=digits_beq x.natAbs
 refine PCi ?_
 conv in trip _ _=>cbv
 simp only [runT,RN,simprocAttr]
 rcases Int.lt_trichotomy x 0 with h|h|h
 ·have e:decide (x<0)=true:=decide_eq_true h
  have e2:decide (x.natAbs=0)=false:=decide_eq_false (by omega)
  rw [cI,e] at k1
  rw [e2] at hz
  simp (disch:=omega) only [↓RS,RZ,simprocAttr,iN]
  refine cX k1 ?_
  simp (disch:=omega) only [↓RS,RZ,simprocAttr,iN,hz]
  exact agg_cI (by simp;omega) (by omega)
 ·subst h
  rw [cI] at k1
  have e:decide ((0:Int)<0)=false:=rfl
  have e2:decide ((0:Int).natAbs=0)=true:=rfl
  have e3:digitsOf (0:Int).natAbs=[]:=digitsOf_zero
  rw [e,e3] at k1
  simp (disch:=omega) only [↓RS,RZ,simprocAttr,iN]
  refine cX k1 ?_
  simp (disch:=omega) only [↓RS,RZ,simprocAttr,iN]
  exact agg_cI0 (by omega)
 ·have e:decide (x<0)=false:=decide_eq_false (by omega)
  have e2:decide (x.natAbs=0)=false:=decide_eq_false (by omega)
  rw [cI,e] at k1
  rw [e2] at hz
  simp (disch:=omega) only [↓RS,RZ,simprocAttr,iN]
  refine cX k1 ?_
  simp (disch:=omega) only [↓RS,RZ,simprocAttr,iN,hz]
  exact agg_cI (by simp;omega) (by omega)
theorem digits_nil {n:Nat} (h:n=0):digitsOf n=[]:=by subst h;exact digitsOf_zero
theorem mul_sign {x y:Int} (hx:x≠0) (hy:y≠0):(decide (x<0) !=decide (y<0))=decide (x*y<0):=by
 rcases Int.lt_or_gt_of_ne hx with h1|h1<;>rcases Int.lt_or_gt_of_ne hy with h2|h2
 ·rw [decide_eq_true h1,decide_eq_true h2,decide_eq_false (by have:=Int.mul_pos_of_neg_of_neg h1 h2;omega)];rfl
 ·rw [decide_eq_true h1,decide_eq_false (by omega),decide_eq_true (Int.mul_neg_of_neg_of_pos h1 h2)];rfl
 ·rw [decide_eq_false (by omega),decide_eq_true h2,decide_eq_true (Int.mul_neg_of_pos_of_neg h1 h2)];rfl
 ·rw [decide_eq_false (by omega),decide_eq_false (by omega),decide_eq_false (by have:=Int.mul_pos h1 h2;omega)];rfl
theorem small_prod {x y:Int} (h:(digitsOf x.natAbs).length+(digitsOf y.natAbs).length≤7): -72057594037927936<x*y∧x*y<72057594037927936:=by
 have h1:=bval_lt (digitsOf x.natAbs)
 have h2:=bval_lt (digitsOf y.natAbs)
 rw [bval_digitsOf] at h1 h2
 have h3:x.natAbs*y.natAbs<256^(digitsOf x.natAbs).length*256^(digitsOf y.natAbs).length:=Nat.mul_lt_mul_of_lt_of_lt h1 h2
 rw [←Nat.pow_add,←Int.natAbs_mul] at h3
 have h4:256^((digitsOf x.natAbs).length+(digitsOf y.natAbs).length)≤256^7:=Nat.pow_le_pow_right (by decide) h
 simp only [Nat.reducePow] at h4
 omega
theorem nonnil_beq {n:Nat} (h:n≠0):(digitsOf n==[])=false:=by rw [digits_beq];exact decide_eq_false h
theorem rmul_pc (s t:Bool) (l m:List UInt8) (hl:l.length<2^35) (hm:m.length<2^35):PC prog 198 [iN s l,iN t m] (cI (ival s l*ival t m)):=by
 have k1:=rcan_pc s l (by omega)
 have k2:=rcan_pc t m (by omega)
 have a1:=dl_ival s l
 have a2:=dl_ival t m
 generalize ival s l=x at*
 generalize ival t m=y at*
 rw [←len_dl] at a1 a2
 refine PCi ?_
 conv in trip _ _=>cbv
 simp only [runT,RN,simprocAttr]
 by_cases hx:x=0
 ·have hz:=digits_nil (n:=x.natAbs) (by omega)
  rw [cI,hz] at k1
  simp (disch:=omega) only [↓RS,RZ,simprocAttr,iN]
  refine cX k1 ?_
  simp (disch:=omega) only [↓RS,RZ,simprocAttr,iN]
  refine cX k2 ?_
  simp (disch:=omega) only [↓RS,RZ,simprocAttr,cI,iN]
  exact agg_cI0 (by rw [hx,Int.zero_mul])
 have hx1:=nonnil_beq (n:=x.natAbs) (by omega)
 by_cases hy:y=0
 ·have hz:=digits_nil (n:=y.natAbs) (by omega)
  rw [cI,hz] at k2
  simp (disch:=omega) only [↓RS,RZ,simprocAttr,iN]
  refine cX k1 ?_
  simp (disch:=omega) only [↓RS,RZ,simprocAttr,iN]
  refine cX k2 ?_
  simp (disch:=omega) only [↓RS,RZ,simprocAttr,cI,iN,hx1]
  exact agg_cI0 (by rw [hy,Int.mul_zero])
 have hy1:=nonnil_beq (n:=y.natAbs) (by omega)
 have hsg:=mul_sign hx hy
 by_cases hs:(digitsOf x.natAbs).length+(digitsOf y.natAbs).length≤7
 ·have v1:=rvalue_pc (decide (x<0)) (digitsOf x.natAbs) (by omega)
  have v2:=rvalue_pc (decide (y<0)) (digitsOf y.natAbs) (by omega)
  rw [ival_can] at v1 v2
  have hp:=small_prod hs
  have hof:=rof_pc (x*y) (by omega) (by omega)
  simp (disch:=omega) only [↓RS,RZ,simprocAttr,iN]
  refine cX k1 ?_
  simp (disch:=omega) only [↓RS,RZ,simprocAttr,iN]
  refine cX k2 ?_
  simp (disch:=omega) only [↓RS,RZ,simprocAttr,cI,iN,hx1,hy1]
  refine cX v1 ?_
  simp (disch:=omega) only [↓RS,RZ,simprocAttr,cI,iN]
  refine cX v2 ?_
  simp (disch:=omega) only [↓RS,RZ,simprocAttr,cI,iN]
  refine cX hof ?_
  simp (disch:=omega) only [↓RS,RZ,simprocAttr,cI,iN]
 ·have p1:=rmulm_pc (digitsOf x.natAbs) (digitsOf y.natAbs) (by omega) (by omega)
  rw [bval_digitsOf,bval_digitsOf] at p1
  simp (disch:=omega) only [↓RS,RZ,simprocAttr,iN]
  refine cX k1 ?_
  simp (disch:=omega) only [↓RS,RZ,simprocAttr,iN]
  refine cX k2 ?_
  simp (disch:=omega) only [↓RS,RZ,simprocAttr,cI,iN,hx1,hy1,eqA_bool9,not_beq]
  refine cX p1 ?_
  simp (disch:=omega) only [↓RS,RZ,simprocAttr,iN]
  exact agg_cI hsg (Int.natAbs_mul x y).symm
theorem rcmp_pc (s t:Bool) (l m:List UInt8) (hl:l.length<2^35) (hm:m.length<2^35):PC prog 197 [iN s l,iN t m] (.prim (.int .i64 (cmpI (ival s l) (ival t m)))):=by
 have k1:=rcan_pc s l (by omega)
 have k2:=rcan_pc t m (by omega)
 have a1:=dl_ival s l
 have a2:=dl_ival t m
 generalize ival s l=x at*
 generalize ival t m=y at*
 have c1:=rcmag_pc x.natAbs y.natAbs (by omega) (by omega)
 have c2:=rcmag_pc y.natAbs x.natAbs (by omega) (by omega)
 refine PCi ?_
 conv in trip _ _=>cbv
 simp only [runT,RN,simprocAttr]
 by_cases hx:x<0
 ·by_cases hy:y<0
  ·have e:cmpI x y=sgn y.natAbs x.natAbs:=by unfold cmpI sgn;repeat' split<;>omega
   rw [e]
   simp only [cI,hx,hy,decide_true,decide_false] at k1 k2
   simp (disch:=omega) only [↓RS,RZ,simprocAttr,iN]
   refine cX k1 ?_
   simp (disch:=omega) only [↓RS,RZ,simprocAttr,iN]
   refine cX k2 ?_
   simp (disch:=omega) only [↓RS,RZ,simprocAttr,iN,eqA_bool9,tf_beq,ft_beq]
   refine cX c2 ?_
   simp (disch:=omega) only [↓RS,RZ,simprocAttr,iN]
  ·have e:cmpI x y= -1:=by rw [cmpI,if_pos (by omega)]
   rw [e]
   simp only [cI,hx,hy,decide_true,decide_false] at k1 k2
   simp (disch:=omega) only [↓RS,RZ,simprocAttr,iN]
   refine cX k1 ?_
   simp (disch:=omega) only [↓RS,RZ,simprocAttr,iN]
   refine cX k2 ?_
   simp (disch:=omega) only [↓RS,RZ,simprocAttr,iN,eqA_bool9,tf_beq,ft_beq]
 ·by_cases hy:y<0
  ·have e:cmpI x y=1:=by rw [cmpI,if_neg (by omega),if_pos (by omega)]
   rw [e]
   simp only [cI,hx,hy,decide_true,decide_false] at k1 k2
   simp (disch:=omega) only [↓RS,RZ,simprocAttr,iN]
   refine cX k1 ?_
   simp (disch:=omega) only [↓RS,RZ,simprocAttr,iN]
   refine cX k2 ?_
   simp (disch:=omega) only [↓RS,RZ,simprocAttr,iN,eqA_bool9,tf_beq,ft_beq]
  ·have e:cmpI x y=sgn x.natAbs y.natAbs:=by unfold cmpI sgn;repeat' split<;>omega
   rw [e]
   simp only [cI,hx,hy,decide_true,decide_false] at k1 k2
   simp (disch:=omega) only [↓RS,RZ,simprocAttr,iN]
   refine cX k1 ?_
   simp (disch:=omega) only [↓RS,RZ,simprocAttr,iN]
   refine cX k2 ?_
   simp (disch:=omega) only [↓RS,RZ,simprocAttr,iN,eqA_bool9,tf_beq,ft_beq]
   refine cX c1 ?_
   simp (disch:=omega) only [↓RS,RZ,simprocAttr,iN]
end Go.Av
namespace Go.Av
open Go.RowKit
open Go.Proofs.Tryz (prog)
structure RGcd (g k:Nat) (x:Nat×Nat):Prop where
 g:Nat.gcd x.1 x.2=g
 a:dl x.1≤k
 b:dl x.2≤k
theorem nat7 {n:Nat} (h:(digitsOf n).length≤7):n<72057594037927936:=by
 have:=bval_7 h
 rwa [bval_digitsOf] at this
theorem gcd_step {a b:Nat}:Nat.gcd b (a%b)=Nat.gcd a b:=by rw [Nat.gcd_comm b,←Nat.gcd_rec,Nat.gcd_comm]
theorem rgcd_pc (s t:Bool) (l m:List UInt8) (hl:l.length<2^35) (hm:m.length<2^35):PC prog 244 [iN s l,iN t m] (cI (Nat.gcd (bval l) (bval m))):=by
 have t1:=rtrim_pc l (by omega)
 have t2:=rtrim_pc m (by omega)
 have b1:=dl_bval l
 have b2:=dl_bval m
 generalize bval l=a0 at*
 generalize bval m=b0 at*
 rw [cI_nat]
 refine PCi ?_
 conv in trip _ _=>cbv
 simp only [runT,RN,simprocAttr]
 simp (disch:=omega) only [↓RS,RZ,simprocAttr,iN]
 refine cX t1 ?_
 simp (disch:=omega) only [↓RS,RZ,simprocAttr,iN]
 refine cX t2 ?_
 simp (disch:=omega) only [↓RS,RZ,simprocAttr,iN]
 refine wp_lp (fun (x:Nat×Nat) J=>ov [(4,.ptr 2 0 0),(5,.prim (.string (bs (digitsOf x.1)))),(6,.prim (.string (bs (digitsOf x.2))))] J 0 53)
  (fun x H=>RGcd (Nat.gcd a0 b0) (2^35) x∧H=[some (.row 2 true [[.prim (.bool s),.prim (.string (bs l))]]),some (.row 2 true [[.prim (.bool t),.prim (.string (bs m))]]),some (.row 2 true [[.prim (.bool false),.prim (.string (bs ([])))]])]) (fun x=>x.2) (a0,b0) rfl ⟨⟨rfl,by simp only;omega,by simp only;omega⟩,rfl⟩ ?_
 rintro ⟨a,b⟩ J H ⟨⟨hg,ha,hb⟩,rfl⟩
 try conv in ov _ _ _ _=>simp only [ov,List.lookup,RO,simprocAttr]
 simp only at hg ha hb ⊢
 rw [←len_dl] at ha
 by_cases hb0:b=0
 ·subst hb0
  rw [Nat.gcd_zero_right] at hg
  have hz:=digitsOf_zero
  rw [←hg]
  simp (disch:=omega) only [↓RS,RZ,simprocAttr,hz,iN]
 have hb1:=nonnil_beq hb0
 by_cases hs:(digitsOf a).length≤7∧(digitsOf b).length≤7
 ·have v1:=rsmall_pc (digitsOf a) hs.1
  have v2:=rsmall_pc (digitsOf b) hs.2
  have n1:=nat7 hs.1
  have n2:=nat7 hs.2
  rw [bval_digitsOf] at v1 v2
  rw [←hg]
  simp (disch:=omega) only [↓RS,RZ,simprocAttr,hb1]
  refine cX v1 ?_
  simp (disch:=omega) only [↓RS,RZ,simprocAttr]
  refine cX v2 ?_
  simp (disch:=omega) only [↓RS,RZ,simprocAttr]
  refine wp_lp (fun (x:Nat×Nat) J=>ov [(4,.ptr 2 0 0),(9,.prim (.int .i64 ((x.1:Nat):Int))),(10,.prim (.int .i64 ((x.2:Nat):Int)))] J 0 53)
   (fun x H=>(Nat.gcd x.1 x.2=Nat.gcd a b∧x.1<72057594037927936∧x.2<72057594037927936)∧H=[some (.row 2 true [[.prim (.bool s),.prim (.string (bs l))]]),some (.row 2 true [[.prim (.bool t),.prim (.string (bs m))]]),some (.row 2 true [[.prim (.bool false),.prim (.string (bs ([])))]])]) (fun x=>x.2) (a,b) rfl ⟨⟨rfl,n1,n2⟩,rfl⟩ ?_
  rintro ⟨c,d⟩ J'' H ⟨⟨hg2,hc,hd⟩,rfl⟩
  try conv in ov _ _ _ _=>simp only [ov,List.lookup,RO,simprocAttr]
  simp only at hg2 hc hd ⊢
  rcases Nat.eq_zero_or_pos d with hd0|hd0
  ·subst hd0
   rw [Nat.gcd_zero_right] at hg2
   have hof:=rof_pc (c:Int) (by omega) (by omega)
   rw [cI_nat] at hof
   rw [←hg2]
   simp (disch:=omega) only [↓RS,RZ,simprocAttr]
   refine cX hof ?_
   simp (disch:=omega) only [↓RS,RZ,simprocAttr,iN]
  ·have hm:=Nat.mod_lt c hd0
   simp (disch:=omega) only [↓RS,RZ,simprocAttr,tmodN]
   exact lp_next (d,c%d) rfl ⟨⟨by simp only;rw [gcd_step,hg2],by simp only;omega,by simp only;omega⟩,rfl⟩ hm
 ·have hdv:=rdivm_pc (digitsOf a) b (by omega) (by omega) (by omega)
  rw [bval_digitsOf] at hdv
  have hm:=Nat.mod_lt a (Nat.pos_of_ne_zero hb0)
  have hcase:7<(digitsOf a).length∨((digitsOf a).length≤7∧7<(digitsOf b).length):=by omega
  rcases hcase with h7|⟨h7,h8⟩
  all_goals (
   simp (disch:=omega) only [↓RS,RZ,simprocAttr,hb1]
   refine cX hdv ?_
   simp (disch:=omega) only [↓RS,RZ,simprocAttr]
   refine lp_next (b,a%b) rfl ⟨⟨by simp only;rw [gcd_step,hg],hb,?_⟩,rfl⟩ hm
   exact Nat.le_trans (dl_mono (Nat.le_of_lt hm)) hb)
theorem rdivX_pc (x:Int) (g:Nat) (hx:dl x.natAbs<2^35) (hg:dl g<2^35) (h0:0<g) (hd:x.natAbs%g=0):PC prog 245 [cI x,cI g] (.tup [cI (sg (decide (x<0)) (x.natAbs/g)),cI 0,.prim (.int .i64 (0))]):=by
 have k1:=rcan_pc (decide (x<0)) (digitsOf x.natAbs) (by rw [len_dl];omega)
 rw [ival_can] at k1
 have k2:=rcan_pc false (digitsOf g) (by rw [len_dl];omega)
 rw [show ival false (digitsOf g)=(g:Int) by rw [ival,bval_digitsOf];rfl] at k2
 have hg1:=nonnil_beq (n:=g) (by omega)
 have hr:cI 0= .agg [.prim (.bool false),.prim (.string (bs ([])))]:=by rw [cI,show (0:Int).natAbs=0 from rfl,digitsOf_zero];rfl
 rw [cI_nat] at k2 ⊢
 rw [hr]
 have hqx:x.natAbs/g≤x.natAbs:=Nat.div_le_self _ _
 have hql:=dl_mono hqx
 have hneg:=rneg_pc false (digitsOf (x.natAbs/g)) (by rw [len_dl];omega)
 rw [show ival false (digitsOf (x.natAbs/g))=((x.natAbs/g:Nat):Int) by rw [ival,bval_digitsOf];rfl] at hneg
 have hdm:=rdivm_pc (digitsOf x.natAbs) g (by rw [len_dl];omega) (by omega) h0
 rw [bval_digitsOf,hd,digitsOf_zero] at hdm
 have hq':(x.natAbs:Int).tdiv (g:Int)=((x.natAbs/g:Nat):Int):=tdivN _ _
 generalize x.natAbs/g=q at*
 have hneg':PC prog 243 [.agg [.prim (.bool false),.prim (.string (bs (digitsOf q)))]] (cI (-((q:Nat):Int))):=hneg
 by_cases hs:(digitsOf x.natAbs).length≤7∧(digitsOf g).length≤7
 ·have v1:=rsmall_pc (digitsOf x.natAbs) hs.1
  have v2:=rsmall_pc (digitsOf g) hs.2
  have n1:=nat7 hs.1
  have n2:=nat7 hs.2
  rw [bval_digitsOf] at v1 v2
  have o1:=rof_pc (q:Int) (by omega) (by omega)
  have o2:=rof_pc 0 (by omega) (by omega)
  rw [cI_nat] at o1
  rw [hr] at o2
  have hd':(x.natAbs:Int).tmod (g:Int)=0:=by rw [tmodN,hd];rfl
  by_cases hn:x<0
  ·simp only [cI,hn,decide_true] at k1 ⊢
   rw [show sg true q= -((q:Nat):Int) from rfl]
   refine PCi ?_
   conv in trip _ _=>cbv
   simp only [runT,RN,simprocAttr]
   simp (disch:=omega) only [↓RS,RZ,simprocAttr,iN]
   refine cX k1 ?_
   simp (disch:=omega) only [↓RS,RZ,simprocAttr,iN]
   refine cX k2 ?_
   simp (disch:=omega) only [↓RS,RZ,simprocAttr,iN,hg1]
   refine cX v1 ?_
   simp (disch:=omega) only [↓RS,RZ,simprocAttr,iN]
   refine cX v2 ?_
   simp (disch:=omega) only [↓RS,RZ,simprocAttr,iN,hd',hq']
   refine cX o1 ?_
   simp (disch:=omega) only [↓RS,RZ,simprocAttr,iN,hd']
   refine cX o2 ?_
   simp (disch:=omega) only [↓RS,RZ,simprocAttr,iN,eqA_bool9,tf_beq,ft_beq]
   refine cX hneg' ?_
   simp (disch:=omega) only [↓RS,RZ,simprocAttr,cI,iN]
   try rfl
  ·simp only [cI,hn,decide_false] at k1 ⊢
   rw [show sg false q=((q:Nat):Int) from rfl]
   refine PCi ?_
   conv in trip _ _=>cbv
   simp only [runT,RN,simprocAttr]
   simp (disch:=omega) only [↓RS,RZ,simprocAttr,iN]
   refine cX k1 ?_
   simp (disch:=omega) only [↓RS,RZ,simprocAttr,iN]
   refine cX k2 ?_
   simp (disch:=omega) only [↓RS,RZ,simprocAttr,iN,hg1]
   refine cX v1 ?_
   simp (disch:=omega) only [↓RS,RZ,simprocAttr,iN]
   refine cX v2 ?_
   simp (disch:=omega) only [↓RS,RZ,simprocAttr,iN,hd',hq']
   refine cX o1 ?_
   simp (disch:=omega) only [↓RS,RZ,simprocAttr,iN,hd']
   refine cX o2 ?_
   simp (disch:=omega) only [↓RS,RZ,simprocAttr,iN,eqA_bool9,tf_beq,ft_beq]
   try rfl
 ·have hcase:7<(digitsOf x.natAbs).length∨((digitsOf x.natAbs).length≤7∧7<(digitsOf g).length):=by omega
  by_cases hn:x<0
  ·simp only [cI,hn,decide_true] at k1 ⊢
   rw [show sg true q= -((q:Nat):Int) from rfl]
   rcases hcase with h7|⟨h7,h8⟩
   all_goals (
    refine PCi ?_
    conv in trip _ _=>cbv
    simp only [runT,RN,simprocAttr]
    simp (disch:=omega) only [↓RS,RZ,simprocAttr,iN]
    refine cX k1 ?_
    simp (disch:=omega) only [↓RS,RZ,simprocAttr,iN]
    refine cX k2 ?_
    simp (disch:=omega) only [↓RS,RZ,simprocAttr,iN,hg1]
    refine cX hdm ?_
    simp (disch:=omega) only [↓RS,RZ,simprocAttr,iN,eqA_bool9,tf_beq,ft_beq]
    refine cX hneg' ?_
    simp (disch:=omega) only [↓RS,RZ,simprocAttr,cI,iN]
    try rfl)
  ·simp only [cI,hn,decide_false] at k1 ⊢
   rw [show sg false q=((q:Nat):Int) from rfl]
   rcases hcase with h7|⟨h7,h8⟩
   all_goals (
    refine PCi ?_
    conv in trip _ _=>cbv
    simp only [runT,RN,simprocAttr]
    simp (disch:=omega) only [↓RS,RZ,simprocAttr,iN]
    refine cX k1 ?_
    simp (disch:=omega) only [↓RS,RZ,simprocAttr,iN]
    refine cX k2 ?_
    simp (disch:=omega) only [↓RS,RZ,simprocAttr,iN,hg1]
    refine cX hdm ?_
    simp (disch:=omega) only [↓RS,RZ,simprocAttr,iN,eqA_bool9,tf_beq,ft_beq]
    try rfl)
end Go.Av
namespace Go.Av
open Go.RowKit
open Go.Proofs.Tryz (prog)
theorem rsml_pc (r:Rt):PC prog 195 [rV r] (if r.small then .tup [.prim (.int .i64 (r.n)),.prim (.int .i64 ((r.d:Nat):Int)),.prim (.bool true)] else .tup [.prim (.int .i64 (0)),.prim (.int .i64 (0)),.prim (.bool false)]):=by
 obtain ⟨s,l,m⟩:=r
 by_cases h1:l.length≤3
 ·by_cases h2:m.length≤3
  ·have h3:=bval_3 h1
   have h4:=bval_3 h2
   have hs:(Rt.mk s l m).small:=⟨h1,h2⟩
   have d1:=rnumber_pc l (by omega)
   have d2:=rnumber_pc m (by omega)
   rw [if_pos hs]
   have en:(Rt.mk s l m).n=if s then 0-((bval l:Nat):Int) else ((bval l:Nat):Int):=by cases s<;>simp [Rt.n,ival,sg]
   have ed:(Rt.mk s l m).d=if bval m=0 then 1 else bval m:=rfl
   rw [en,ed]
   have g1:((1:Nat):Int)=1:=rfl
   by_cases hz:bval m=0
   ·rw [if_pos hz]
    cases s<;>(
     refine PCi ?_
     conv in trip _ _=>cbv
     simp only [runT,RN,simprocAttr]
     simp (disch:=omega) only [↓RS,RZ,simprocAttr,rV]
     refine cX d1 ?_
     simp (disch:=omega) only [↓RS,RZ,simprocAttr]
     refine cX d2 ?_
     simp (disch:=omega) only [↓RS,RZ,simprocAttr,hz,g1])
   ·rw [if_neg hz]
    cases s<;>(
     refine PCi ?_
     conv in trip _ _=>cbv
     simp only [runT,RN,simprocAttr]
     simp (disch:=omega) only [↓RS,RZ,simprocAttr,rV]
     refine cX d1 ?_
     simp (disch:=omega) only [↓RS,RZ,simprocAttr]
     refine cX d2 ?_
     simp (disch:=omega) only [↓RS,RZ,simprocAttr])
  ·have hs:¬(Rt.mk s l m).small:=fun h=>h2 h.2
   rw [if_neg hs]
   refine PCi ?_
   conv in trip _ _=>cbv
   simp only [runT,RN,simprocAttr]
   simp (disch:=omega) only [↓RS,RZ,simprocAttr,rV]
 ·have hs:¬(Rt.mk s l m).small:=fun h=>h1 h.1
  rw [if_neg hs]
  refine PCi ?_
  conv in trip _ _=>cbv
  simp only [runT,RN,simprocAttr]
  simp (disch:=omega) only [↓RS,RZ,simprocAttr,rV]
theorem pow7 (n j:Nat):n/2^(8*j)=n/2^(8*(j+1))*256+n/2^(8*j)%256:=by
 have e2:2^(8*(j+1))=2^(8*j)*2^8:=Nat.pow_add 2 (8*j) 8
 rw [e2,←Nat.div_div_eq_div_mul]
 generalize n/2^(8*j)=q
 simp only [Nat.reducePow]
 omega
theorem digits_step (a b:Nat) (h:b<256) (h0:a*256+b≠0):digitsOf (a*256+b)=digitsOf a++[UInt8.ofNat (a*256+b)]:=by
 rw [digitsOf_pos h0]
 congr 2
 ·congr 1;omega
 ·rw [←UInt8.toNat_inj];simp
theorem tm256 (a:Nat):((a:Nat):Int).tmod 256=((a%256:Nat):Int):=rfl
theorem shr_i64 {a n:Nat} (h:n≤64):((a:Nat):Int).fdiv (2^min n IntKind.i64.bits)=((a/2^n:Nat):Int):=shrN h
theorem eight {j:Nat}:8*((j+1:Nat):Int)-8=((8*j:Nat):Int):=by omega
theorem rdigits_pc (n:Nat) (h:n<72057594037927936):PC prog 287 [.prim (.int .i64 ((n:Nat):Int))] (.prim (.string (bs (digitsOf n)))):=by
 refine PCi ?_
 conv in trip _ _=>cbv
 simp only [runT,RN,simprocAttr]
 simp (disch:=omega) only [↓RS,RZ,simprocAttr]
 refine wp_lp (fun (x:Nat×V) J=>ov [(0,.prim (.int .i64 ((n:Nat):Int))),(2,.prim (.string (bs ([])))),(3,x.2),(4,.prim (.int .i64 (8*(x.1:Int)-8)))] J 0 30)
  (fun x H=>x.1≤7∧Bufn 0 H x.2 1 (bw (digitsOf (n/2^(8*x.1))))) (fun x=>x.1) (7,.prim (.slice none 0 0)) rfl ⟨Nat.le_refl _,by simp only;rw [Nat.div_eq_of_lt (by simp only [Nat.reduceMul,Nat.reducePow];omega),digitsOf_zero];exact .nil (Nat.zero_le _)⟩ ?_
 rintro ⟨j,v⟩ J H ⟨hj,hb⟩
 try conv in ov _ _ _ _=>simp only [ov,List.lookup,RO,simprocAttr]
 simp only at hj hb ⊢
 rcases j with _|j
 ·simp only [Nat.mul_zero,Nat.pow_zero,Nat.div_one] at hb
  rcases hb.2 with ⟨h1,rfl⟩|⟨b,_,rfl,hg⟩
  ·have h0:digitsOf n=[]:=by simpa [bw] using h1
   rw [h0]
   have hbb:bytesOf []=some []:=rfl
   simp (disch:=omega) only [↓RS,RZ,simprocAttr,hbb]
  ·have hbb:=bytesOf_bw (digitsOf n)
   have htk:(bw (digitsOf n)).take (digitsOf n).length=bw (digitsOf n):=List.take_of_length_le (by rw [bw_length];omega)
   simp (disch:=omega) only [↓RS,RZ,simprocAttr,bw_length,hg,hbb,htk]
 ·have hq:=pow7 n j
  have hqn:n/2^(8*j)≤n:=Nat.div_le_self _ _
  have hj8:8*j≤64:=by omega
  have hsh:= @shr_i64 n (8*j) hj8
  have hpl:dl (n/2^(8*(j+1)))≤8:=dl_le (by have:=Nat.div_le_self n (2^(8*(j+1)));simp only [Nat.reducePow];omega)
  rw [←len_dl] at hpl
  have hbl:=bw_length (digitsOf (n/2^(8*(j+1))))
  generalize hpe:n/2^(8*(j+1))=p at*
  generalize hqe:n/2^(8*j)=q at*
  have hk:= @eight j
  by_cases hA:0<q%256
  ·have hd:=digits_step p (q%256) (by omega) (by omega)
   rw [←hq] at hd
   simp (disch:=omega) only [↓RS,RZ,simprocAttr,hk,hsh,tm256,wrap_nat_u8]
   refine Bufn.append (ei:=⟨1,1,[.int .u8 0],.int .u8,false⟩) (hb.app _) (by simp [cellV]) (by simp only [List.length_cons,List.length_nil];omega) (by simp only [List.length_cons,List.length_nil];omega) ?_
   intro v' H' hb' _
   simp (disch:=omega) only [↓RS,RZ,simprocAttr]
   refine lp_next (j,v') rfl ⟨by simp only;omega,?_⟩ (by simp only;omega)
   try simp only
   rw [hqe,hd]
   have e:bw (digitsOf p++[UInt8.ofNat q])=bw (digitsOf p)++[[.prim (.int .u8 ((q%256:Nat):Int))]]:=by simp [bw]
   rw [e];exact hb'
  ·have hA0:q%256=0:=by omega
   by_cases hp:p=0
   ·subst hp
    have hnil:=digitsOf_zero
    rcases hb.2 with ⟨_,rfl⟩|⟨b,_,rfl,hg⟩
    ·simp (disch:=omega) only [↓RS,RZ,simprocAttr,hk,hsh,tm256,hA0]
     refine lp_next (j,_) rfl ⟨by simp only;omega,?_⟩ (by simp only;omega)
     try simp only
     rw [hqe,show q=0 by omega];exact hb
    ·rw [hnil] at hg ⊢
     have hl0:(bw []).length=0:=rfl
     simp (disch:=omega) only [↓RS,RZ,simprocAttr,hk,hsh,tm256,hA0,hl0]
     refine lp_next (j,_) rfl ⟨by simp only;omega,?_⟩ (by simp only;omega)
     try simp only
     rw [hqe,show q=0 by omega]
     rw [hnil,hl0] at hb
     rw [hnil];exact hb
   ·have hd:=digits_step p (q%256) (by omega) (by omega)
    rw [←hq] at hd
    have hne:digitsOf p≠[]:=by
     have:=nonnil_beq hp
     simpa using this
    have hpos:0<(digitsOf p).length:=List.length_pos_iff.2 hne
    have hne2:bw (digitsOf p)≠[]:=by intro h;rw [h] at hbl;simp at hbl;omega
    obtain ⟨b,h0b,hv,hg⟩:=hb.cases hne2
    subst hv
    simp (disch:=omega) only [↓RS,RZ,simprocAttr,hk,hsh,tm256,hA0,hbl,wrap_nat_u8]
    rw [←hbl]
    refine Bufn.append (ei:=⟨1,1,[.int .u8 0],.int .u8,false⟩) (hb.app _) (by simp [cellV]) (by simp only [List.length_cons,List.length_nil];omega) (by simp only [List.length_cons,List.length_nil];omega) ?_
    intro v' H' hb' _
    simp (disch:=omega) only [↓RS,RZ,simprocAttr]
    refine lp_next (j,v') rfl ⟨by simp only;omega,?_⟩ (by simp only;omega)
    try simp only
    rw [hqe,hd]
    have e:bw (digitsOf p++[UInt8.ofNat q])=bw (digitsOf p)++[[.prim (.int .u8 ((q%256:Nat):Int))]]:=by simp [bw]
    rw [e,hA0];exact hb'
end Go.Av
