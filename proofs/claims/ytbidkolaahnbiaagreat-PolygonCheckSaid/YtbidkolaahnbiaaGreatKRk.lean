/- Helping texts: Rk, Rl, Rm. -/
import Derived.Test.YtbidkolaahnbiaaGreatKRh
set_option linter.unusedSimpArgs false
set_option linter.unusedVariables false
set_option maxRecDepth 100000
set_option maxHeartbeats 16000000
namespace Go.Av
open Go.RowKit
open Go.Proofs.Tryz (prog)
theorem can_packed (n:Int) (d:Nat) (hd:0<d):can (mkRat n d)=⟨decide (n<0),digitsOf (n.natAbs/Nat.gcd n.natAbs d),if d/Nat.gcd n.natAbs d=1 then [] else digitsOf (d/Nat.gcd n.natAbs d)⟩:=by
 obtain ⟨q1,q2⟩:=mk_num n d hd
 have hgl:=Nat.gcd_dvd_left n.natAbs d
 have hg0:0<Nat.gcd n.natAbs d:=Nat.gcd_pos_of_pos_right _ hd
 unfold can
 rw [q1,q2,sg_natAbs]
 congr 1
 by_cases hn:n<0
 ·have hpos:0<n.natAbs/Nat.gcd n.natAbs d:=Nat.div_pos (Nat.le_of_dvd (by omega) hgl) hg0
  rw [decide_eq_true hn]
  simp only [sg,if_true]
  exact decide_eq_true (by omega)
 ·rw [decide_eq_false hn]
  simp only [sg,Bool.false_eq_true,if_false]
  exact decide_eq_false (Int.not_lt.2 (Int.natCast_nonneg _))
theorem rpack_pc (n:Int) (d:Nat) (hn:n.natAbs<72057594037927936) (hd:0<d) (hd2:d<72057594037927936):PC prog 241 [.prim (.int .i64 (n)),.prim (.int .i64 ((d:Nat):Int))] (rV (can (mkRat n d))):=by
 by_cases h0:n=0
 ·rw [h0,Rat.zero_mkRat,can_zero]
  refine PCi ?_
  conv in trip _ _=>cbv
  simp only [runT,RN,simprocAttr]
  simp (disch:=omega) only [↓RS,RZ,simprocAttr,rV]
 rw [can_packed n d hd]
 have hg0:0<Nat.gcd n.natAbs d:=Nat.gcd_pos_of_pos_right _ hd
 have hgl:=Nat.gcd_dvd_left n.natAbs d
 have hgm:=Nat.gcd_dvd_right n.natAbs d
 have hdv:=Nat.div_le_self n.natAbs (Nat.gcd n.natAbs d)
 have hdv2:=Nat.div_le_self d (Nat.gcd n.natAbs d)
 have hdp:0<d/Nat.gcd n.natAbs d:=Nat.div_pos (Nat.le_of_dvd hd hgm) hg0
 have t1:=rdigits_pc (n.natAbs/Nat.gcd n.natAbs d) (by omega)
 have t2:=rdigits_pc (d/Nat.gcd n.natAbs d) (by omega)
 have q1:∀ g:Nat,((n.natAbs:Nat):Int).tdiv (g:Int)=((n.natAbs/g:Nat):Int):=fun g=>tdivN _ _
 have q2:∀ g:Nat,((d:Nat):Int).tdiv (g:Int)=((d/g:Nat):Int):=fun g=>tdivN _ _
 generalize hN:n.natAbs=N at*
 generalize hG:Nat.gcd N d=G at*
 refine PCi ?_
 conv in trip _ _=>cbv
 simp only [runT,RN,simprocAttr]
 rcases Int.lt_or_gt_of_ne h0 with hn0|hn0
 ·have e:(0:Int)-n=(N:Int):=by omega
  have en:decide (n<0)=true:=decide_eq_true hn0
  rw [en]
  simp (disch:=omega) only [↓RS,RZ,simprocAttr,e]
  refine wp_lp (fun (x:Nat×Nat) J=>ov [(0,.prim (.int .i64 ((N:Nat):Int))),(1,.prim (.int .i64 ((d:Nat):Int))),(4,.ptr 0 0 0),(5,.ptr 1 0 0),(6,.prim (.int .i64 ((x.1:Nat):Int))),(7,.prim (.int .i64 ((x.2:Nat):Int)))] J 0 41)
   (fun x H=>(Nat.gcd x.1 x.2=G∧x.1<72057594037927936∧x.2<72057594037927936)∧H=[some (.row 3 true [[.prim (.bool false),.prim (.string (bs ([]))),.prim (.string (bs ([])))]]),some (.row 3 true [[.prim (.bool true),.prim (.string (bs ([]))),.prim (.string (bs ([])))]])]) (fun x=>x.2) (N,d) rfl ⟨⟨hG,hn,hd2⟩,rfl⟩ ?_
  rintro ⟨c,e⟩ J'' H ⟨⟨hg2,hc,hd⟩,rfl⟩
  try conv in ov _ _ _ _=>simp only [ov,List.lookup,RO,simprocAttr]
  simp only at hg2 hc hd ⊢
  rcases Nat.eq_zero_or_pos e with he0|he0
  ·subst he0
   rw [Nat.gcd_zero_right] at hg2
   subst hg2
   have q1':=q1 c
   have q2':=q2 c
   generalize N/c=u at*
   generalize d/c=w at*
   simp (disch:=omega) only [↓RS,RZ,simprocAttr,q1',q2']
   refine cX t1 ?_
   by_cases h1:w=1
   ·rw [if_pos h1]
    simp (disch:=omega) only [↓RS,RZ,simprocAttr,q1',q2',rV]
   ·rw [if_neg h1]
    simp (disch:=omega) only [↓RS,RZ,simprocAttr,q1',q2']
    refine cX t2 ?_
    simp (disch:=omega) only [↓RS,RZ,simprocAttr,rV]
  ·have hm:=Nat.mod_lt c he0
   simp (disch:=omega) only [↓RS,RZ,simprocAttr,tmodN]
   exact lp_next (e,c%e) rfl ⟨⟨by simp only;rw [gcd_step,hg2],by simp only;omega,by simp only;omega⟩,rfl⟩ hm
 ·have e:n=(N:Int):=by omega
  have en:decide (n<0)=false:=decide_eq_false (by omega)
  rw [en]
  subst e
  simp (disch:=omega) only [↓RS,RZ,simprocAttr]
  refine wp_lp (fun (x:Nat×Nat) J=>ov [(0,.prim (.int .i64 ((N:Nat):Int))),(1,.prim (.int .i64 ((d:Nat):Int))),(4,.ptr 0 0 0),(5,.ptr 1 0 0),(6,.prim (.int .i64 ((x.1:Nat):Int))),(7,.prim (.int .i64 ((x.2:Nat):Int)))] J 0 41)
   (fun x H=>(Nat.gcd x.1 x.2=G∧x.1<72057594037927936∧x.2<72057594037927936)∧H=[some (.row 3 true [[.prim (.bool false),.prim (.string (bs ([]))),.prim (.string (bs ([])))]]),some (.row 3 true [[.prim (.bool false),.prim (.string (bs ([]))),.prim (.string (bs ([])))]])]) (fun x=>x.2) (N,d) rfl ⟨⟨hG,hn,hd2⟩,rfl⟩ ?_
  rintro ⟨c,e⟩ J'' H ⟨⟨hg2,hc,hd⟩,rfl⟩
  try conv in ov _ _ _ _=>simp only [ov,List.lookup,RO,simprocAttr]
  simp only at hg2 hc hd ⊢
  rcases Nat.eq_zero_or_pos e with he0|he0
  ·subst he0
   rw [Nat.gcd_zero_right] at hg2
   subst hg2
   have q1':=q1 c
   have q2':=q2 c
   generalize N/c=u at*
   generalize d/c=w at*
   simp (disch:=omega) only [↓RS,RZ,simprocAttr,q1',q2']
   refine cX t1 ?_
   by_cases h1:w=1
   ·rw [if_pos h1]
    simp (disch:=omega) only [↓RS,RZ,simprocAttr,q1',q2',rV]
   ·rw [if_neg h1]
    simp (disch:=omega) only [↓RS,RZ,simprocAttr,q1',q2']
    refine cX t2 ?_
    simp (disch:=omega) only [↓RS,RZ,simprocAttr,rV]
  ·have hm:=Nat.mod_lt c he0
   simp (disch:=omega) only [↓RS,RZ,simprocAttr,tmodN]
   exact lp_next (e,c%e) rfl ⟨⟨by simp only;rw [gcd_step,hg2],by simp only;omega,by simp only;omega⟩,rfl⟩ hm
end Go.Av
namespace Go.Av
open Go.RowKit
open Go.Proofs.Tryz (prog)
theorem radd0_pc (s:Bool) (l:List UInt8) (hl:l.length<2^35):PC prog 242 [iN s l,.agg [.prim (.bool false),.prim (.string (bs ([])))]] (cI (ival s l)):=by
 have h:=radd_pc s false l [] hl (by simp)
 rw [zeroI,Int.add_zero] at h;exact h
theorem rparts_pc (r:Rt) (h1:r.num.length<2^35) (h2:r.den.length<2^35):PC prog 196 [rV r] (.tup [cI r.n,cI r.d]):=by
 obtain ⟨s,l,m⟩:=r
 simp only at h1 h2
 have a1:=radd0_pc s l h1
 have a2:=radd0_pc false m h2
 rw [show ival false m=((bval m:Nat):Int) from rfl,cI_nat] at a2
 have hn:(Rt.mk s l m).n=ival s l:=rfl
 have hd:(Rt.mk s l m).d=if bval m=0 then 1 else bval m:=rfl
 rw [hn,hd]
 have a1':PC prog 242 [.agg [.prim (.bool s),.prim (.string (bs l))],.agg [.prim (.bool false),.prim (.string (bs ([])))]] (cI (ival s l)):=a1
 have a2':PC prog 242 [.agg [.prim (.bool false),.prim (.string (bs m))],.agg [.prim (.bool false),.prim (.string (bs ([])))]] (iN false (digitsOf (bval m))):=a2
 by_cases hz:bval m=0
 ·rw [if_pos hz]
  have o:=rof_pc 1 (by omega) (by omega)
  rw [show (1:Int)=((1:Nat):Int) from rfl,cI_nat] at o
  have o':PC prog 176 [.prim (.int .i64 (1))] (iN false (digitsOf 1)):=o
  rw [hz,digitsOf_zero] at a2'
  rw [cI_nat]
  refine PCi ?_
  conv in trip _ _=>cbv
  simp only [runT,RN,simprocAttr]
  simp (disch:=omega) only [↓RS,RZ,simprocAttr,rV]
  refine cX a1' ?_
  simp (disch:=omega) only [↓RS,RZ,simprocAttr,cI,iN]
  refine cX a2' ?_
  simp (disch:=omega) only [↓RS,RZ,simprocAttr,cI,iN]
  refine cX o' ?_
  simp (disch:=omega) only [↓RS,RZ,simprocAttr,cI,iN]
 ·rw [if_neg hz]
  have hb:=nonnil_beq hz
  rw [cI_nat]
  refine PCi ?_
  conv in trip _ _=>cbv
  simp only [runT,RN,simprocAttr]
  simp (disch:=omega) only [↓RS,RZ,simprocAttr,rV]
  refine cX a1' ?_
  simp (disch:=omega) only [↓RS,RZ,simprocAttr,cI,iN]
  refine cX a2' ?_
  simp (disch:=omega) only [↓RS,RZ,simprocAttr,cI,iN,hb]
theorem raddC0_pc (x:Int) (hx:dl x.natAbs<2^35):PC prog 242 [cI x,.agg [.prim (.bool false),.prim (.string (bs ([])))]] (cI x):=by
 have h:=radd0_pc (decide (x<0)) (digitsOf x.natAbs) hx
 rwa [ival_can] at h
theorem rnegC_pc (x:Int) (hx:dl x.natAbs<2^35):PC prog 243 [cI x] (cI (-x)):=by
 have h:=rneg_pc (decide (x<0)) (digitsOf x.natAbs) hx
 rwa [ival_can] at h
theorem rgcdC_pc (x y:Int) (hx:dl x.natAbs<2^35) (hy:dl y.natAbs<2^35):PC prog 244 [cI x,cI y] (iN false (digitsOf (Nat.gcd x.natAbs y.natAbs))):=by
 have h:=rgcd_pc (decide (x<0)) (decide (y<0)) (digitsOf x.natAbs) (digitsOf y.natAbs) hx hy
 rwa [bval_digitsOf,bval_digitsOf,cI_nat] at h
theorem digits_one:digitsOf 1=[1]:=by rw [digitsOf_lt (by omega) (by omega)];rfl
theorem digits_beq1 (n:Nat):(digitsOf n==[1])=decide (n=1):=by
 by_cases h:n=1
 ·subst h;rw [digits_one];rfl
 ·rw [decide_eq_false h,beq_eq_false_iff_ne,←digits_one]
  exact fun hc=>h (digits_inj hc)
theorem rreduce_pc (x y:Int) (hx:dl x.natAbs<2^34) (hy:dl y.natAbs<2^34) (hy0:y≠0):PC prog 175 [cI x,cI y] (rV (can (qI x y))):=by
 have b1:=raddC0_pc x (by omega)
 have b2:=raddC0_pc y (by omega)
 by_cases hx0:x=0
 ·subst hx0
  have e:qI 0 y=0:=Rat.zero_divInt y
  rw [e,can_zero]
  have hc:cI 0= .agg [.prim (.bool false),.prim (.string (bs ([])))]:=by rw [cI,show (0:Int).natAbs=0 from rfl,digitsOf_zero];rfl
  rw [hc] at b1 ⊢
  refine PCi ?_
  conv in trip _ _=>cbv
  simp only [runT,RN,simprocAttr]
  simp (disch:=omega) only [↓RS,RZ,simprocAttr,cI,iN]
  refine cX b1 ?_
  simp (disch:=omega) only [↓RS,RZ,simprocAttr,cI,iN]
  refine cX b2 ?_
  simp (disch:=omega) only [↓RS,RZ,simprocAttr,cI,iN,rV]
 have hxb:=nonnil_beq (n:=x.natAbs) (by omega)
 have key:∀ (u:Int) (d:Nat),0<d→dl u.natAbs<2^34→dl d<2^34→u≠0→
  PC prog 245 [cI u,iN false (digitsOf (Nat.gcd u.natAbs d))] (.tup [iN (decide (u<0)) (digitsOf (u.natAbs/Nat.gcd u.natAbs d)),iN false [],.prim (.int .i64 (0))])∧
  PC prog 245 [cI (d:Int),iN false (digitsOf (Nat.gcd u.natAbs d))] (.tup [iN false (digitsOf (d/Nat.gcd u.natAbs d)),iN false [],.prim (.int .i64 (0))]):=by
  intro u d hd hu hdl hu0
  have hg0:0<Nat.gcd u.natAbs d:=Nat.gcd_pos_of_pos_right _ hd
  have hgl:=Nat.gcd_dvd_left u.natAbs d
  have hgm:=Nat.gcd_dvd_right u.natAbs d
  have hgd:=dl_mono (Nat.le_of_dvd hd hgm)
  have d1:=rdivX_pc u (Nat.gcd u.natAbs d) (by omega) (by omega) hg0 (Nat.mod_eq_zero_of_dvd hgl)
  have d2:=rdivX_pc (d:Int) (Nat.gcd u.natAbs d) (by rw [Int.natAbs_natCast];omega) (by omega) hg0 (by rw [Int.natAbs_natCast];exact Nat.mod_eq_zero_of_dvd hgm)
  have hz:cI 0=iN false []:=by rw [cI,show (0:Int).natAbs=0 from rfl,digitsOf_zero];rfl
  have hpos:0<u.natAbs/Nat.gcd u.natAbs d:=Nat.div_pos (Nat.le_of_dvd (by omega) hgl) hg0
  rw [cI_nat,hz] at d1 d2
  rw [Int.natAbs_natCast,show decide ((d:Int)<0)=false from decide_eq_false (by omega)] at d2
  rw [show sg false (d/Nat.gcd u.natAbs d)=((d/Nat.gcd u.natAbs d:Nat):Int) from rfl,cI_nat] at d2
  refine ⟨?_,d2⟩
  have e:cI (sg (decide (u<0)) (u.natAbs/Nat.gcd u.natAbs d))=iN (decide (u<0)) (digitsOf (u.natAbs/Nat.gcd u.natAbs d)):=by
   rw [cI,sg_natAbs]
   congr 1
   by_cases hn:u<0
   ·rw [decide_eq_true hn];simp only [sg,if_true];exact decide_eq_true (by omega)
   ·rw [decide_eq_false hn];simp only [sg,Bool.false_eq_true,if_false];exact decide_eq_false (Int.not_lt.2 (Int.natCast_nonneg _))
  rw [e] at d1;exact d1
 by_cases hneg:y<0
 ·obtain ⟨d,rfl⟩:∃ d:Nat,y= -(d:Int):=⟨y.natAbs,by omega⟩
  have hd0:0<d:=by omega
  rw [Int.natAbs_neg,Int.natAbs_natCast] at hy
  have n1:=rnegC_pc x (by omega)
  have n2:=rnegC_pc (-(d:Int)) (by rw [Int.natAbs_neg,Int.natAbs_natCast];omega)
  rw [Int.neg_neg] at n2
  obtain ⟨k1,k2⟩:=key (-x) d hd0 (by rw [Int.natAbs_neg];exact hx) hy (by omega)
  have g1:=rgcdC_pc (-x) (d:Int) (by rw [Int.natAbs_neg];omega) (by rw [Int.natAbs_natCast];omega)
  rw [Int.natAbs_natCast] at g1
  have hq:qI x (-(d:Int))=mkRat (-x) d:=by rw [←qI_neg,Int.neg_neg];rfl
  rw [hq,can_packed _ _ hd0]
  have e:cI (-(d:Int))=iN true (digitsOf d):=by rw [cI,decide_eq_true (by omega),Int.natAbs_neg,Int.natAbs_natCast]
  rw [e] at b2 n2 ⊢
  rw [cI_nat] at n2 k2 g1
  generalize-x=u at*
  generalize Nat.gcd u.natAbs d=G at*
  generalize d/G=W at*
  generalize u.natAbs/G=A at*
  refine PCi ?_
  conv in trip _ _=>cbv
  simp only [runT,RN,simprocAttr]
  simp (disch:=omega) only [↓RS,RZ,simprocAttr,cI,iN]
  refine cX b1 ?_
  simp (disch:=omega) only [↓RS,RZ,simprocAttr,cI,iN]
  refine cX b2 ?_
  simp (disch:=omega) only [↓RS,RZ,simprocAttr,cI,iN,hxb]
  refine cX n1 ?_
  simp (disch:=omega) only [↓RS,RZ,simprocAttr,cI,iN]
  refine cX n2 ?_
  simp (disch:=omega) only [↓RS,RZ,simprocAttr,cI,iN]
  refine cX g1 ?_
  simp (disch:=omega) only [↓RS,RZ,simprocAttr,cI,iN]
  refine cX k1 ?_
  simp (disch:=omega) only [↓RS,RZ,simprocAttr,cI,iN]
  refine cX k2 ?_
  have hw:=digits_beq1 W
  by_cases hW:W=1
  ·rw [if_pos hW]
   rw [decide_eq_true hW] at hw
   simp (disch:=omega) only [↓RS,RZ,simprocAttr,cI,iN,hw,rV]
  ·rw [if_neg hW]
   rw [decide_eq_false hW] at hw
   simp (disch:=omega) only [↓RS,RZ,simprocAttr,cI,iN,hw,rV]
 ·obtain ⟨d,rfl⟩:∃ d:Nat,y=(d:Int):=⟨y.natAbs,by omega⟩
  have hd0:0<d:=by omega
  rw [Int.natAbs_natCast] at hy
  obtain ⟨k1,k2⟩:=key x d hd0 hx hy hx0
  have g1:=rgcdC_pc x (d:Int) (by omega) (by rw [Int.natAbs_natCast];omega)
  rw [Int.natAbs_natCast] at g1
  have hq:qI x (d:Int)=mkRat x d:=rfl
  rw [hq,can_packed _ _ hd0]
  rw [cI_nat] at b2 k2 g1 ⊢
  generalize Nat.gcd x.natAbs d=G at*
  generalize d/G=W at*
  generalize x.natAbs/G=A at*
  refine PCi ?_
  conv in trip _ _=>cbv
  simp only [runT,RN,simprocAttr]
  simp (disch:=omega) only [↓RS,RZ,simprocAttr,cI,iN]
  refine cX b1 ?_
  simp (disch:=omega) only [↓RS,RZ,simprocAttr,cI,iN]
  refine cX b2 ?_
  simp (disch:=omega) only [↓RS,RZ,simprocAttr,cI,iN,hxb]
  refine cX g1 ?_
  simp (disch:=omega) only [↓RS,RZ,simprocAttr,cI,iN]
  refine cX k1 ?_
  simp (disch:=omega) only [↓RS,RZ,simprocAttr,cI,iN]
  refine cX k2 ?_
  have hw:=digits_beq1 W
  by_cases hW:W=1
  ·rw [if_pos hW]
   rw [decide_eq_true hW] at hw
   simp (disch:=omega) only [↓RS,RZ,simprocAttr,cI,iN,hw,rV]
  ·rw [if_neg hW]
   rw [decide_eq_false hW] at hw
   simp (disch:=omega) only [↓RS,RZ,simprocAttr,cI,iN,hw,rV]
end Go.Av
namespace Go.Av
open Go.RowKit
open Go.Proofs.Tryz (prog)
theorem rmulC_pc (x y:Int) (hx:dl x.natAbs<2^35) (hy:dl y.natAbs<2^35):PC prog 198 [cI x,cI y] (cI (x*y)):=by
 have h:=rmul_pc (decide (x<0)) (decide (y<0)) (digitsOf x.natAbs) (digitsOf y.natAbs) hx hy
 rwa [ival_can,ival_can] at h
theorem raddC_pc (x y:Int) (hx:dl x.natAbs<2^35) (hy:dl y.natAbs<2^35):PC prog 242 [cI x,cI y] (cI (x+y)):=by
 have h:=radd_pc (decide (x<0)) (decide (y<0)) (digitsOf x.natAbs) (digitsOf y.natAbs) hx hy
 rwa [ival_can,ival_can] at h
theorem rcmpC_pc (x y:Int) (hx:dl x.natAbs<2^35) (hy:dl y.natAbs<2^35):PC prog 197 [cI x,cI y] (.prim (.int .i64 (cmpI x y))):=by
 have h:=rcmp_pc (decide (x<0)) (decide (y<0)) (digitsOf x.natAbs) (digitsOf y.natAbs) hx hy
 rwa [ival_can,ival_can] at h
theorem dl_n {r:Rt} {k:Nat} (h:r.le k):dl r.n.natAbs≤k:=Nat.le_trans (dl_ival r.neg r.num) h.1
theorem dl_d {r:Rt} {k:Nat} (h:r.le k) (hk:1≤k):dl r.d≤k:=by
 have h1:=dl_bval r.dd
 have h2:=dd_len r h.2 hk
 rw [bval_dd] at h1;omega
theorem qI_nat (x:Int) (d:Nat):qI x (d:Int)=mkRat x d:=rfl
theorem rsml_any (r:Rt):∃ x y z,PC prog 195 [rV r] (.tup [.prim (.int .i64 (x)),.prim (.int .i64 (y)),.prim (.bool z)]):=by
 have h:=rsml_pc r
 by_cases hs:r.small
 ·rw [if_pos hs] at h;exact ⟨_,_,_,h⟩
 ·rw [if_neg hs] at h;exact ⟨_,_,_,h⟩
theorem small_mul {n:Int} {e:Nat} (hn:n.natAbs<16777216) (he:e<16777216):(n*(e:Int)).natAbs<281474976710656:=by
 rw [Int.natAbs_mul,Int.natAbs_natCast];exact Nat.mul_lt_mul_of_lt_of_lt (a:=n.natAbs) (c:=16777216) (b:=e) (d:=16777216) hn he
theorem raddR_pc (a b:Rt) (ha:a.le (2^32)) (hb:b.le (2^32)):PC prog 172 [rV a,rV b] (rV (can (a.val+b.val))):=by
 have m1:=rsml_pc a
 have m2:=rsml_pc b
 have o1:=rparts_pc a (by have:=ha.1;omega) (by have:=ha.2;omega)
 have o2:=rparts_pc b (by have:=hb.1;omega) (by have:=hb.2;omega)
 have e1:=dl_n ha
 have e2:=dl_n hb
 have e3:=dl_d ha (by omega)
 have e4:=dl_d hb (by omega)
 have hda:=a.d_pos
 have hdb:=b.d_pos
 have f1:=dl_natAbs_mul a.n b.d
 have f2:=dl_natAbs_mul b.n a.d
 have f3:=dl_mul a.d b.d
 rw [Int.natAbs_natCast] at f1 f2
 have f4:=dl_natAbs_add (a.n*b.d) (b.n*a.d)
 have p1:=rmulC_pc a.n b.d (by omega) (by rw [Int.natAbs_natCast];omega)
 have p2:=rmulC_pc b.n a.d (by omega) (by rw [Int.natAbs_natCast];omega)
 have p3:=rmulC_pc a.d b.d (by rw [Int.natAbs_natCast];omega) (by rw [Int.natAbs_natCast];omega)
 have p4:=raddC_pc (a.n*b.d) (b.n*a.d) (by omega) (by omega)
 have hmul:(a.d:Int)*(b.d:Int)=((a.d*b.d:Nat):Int):=by rw [Int.natCast_mul]
 rw [hmul] at p3
 have hpos:0<a.d*b.d:=Nat.mul_pos hda hdb
 have p5:=rreduce_pc (a.n*b.d+b.n*a.d) ((a.d*b.d:Nat):Int) (by omega) (by rw [Int.natAbs_natCast];omega) (by omega)
 rw [qI_nat,add_val] at p5
 by_cases hs:a.small∧b.small
 ·rw [if_pos hs.1] at m1
  rw [if_pos hs.2] at m2
  have a1:=small_mul (small_n hs.1) (small_d hs.2)
  have a2:=small_mul (small_n hs.2) (small_d hs.1)
  have a3:a.d*b.d<281474976710656:=Nat.mul_lt_mul_of_lt_of_lt (c:=16777216) (d:=16777216) (small_d hs.1) (small_d hs.2)
  have k:=rpack_pc (a.n*b.d+b.n*a.d) (a.d*b.d) (by omega) hpos (by omega)
  rw [add_val] at k
  clear p1 p2 p3 p4 p5 f1 f2 f3 f4 e1 e2 e3 e4 o1 o2
  refine PCi ?_
  conv in trip _ _=>cbv
  simp only [runT,RN,simprocAttr]
  simp (disch:=omega) only [↓RS,RZ,simprocAttr,rV]
  refine cX m1 ?_
  simp (disch:=omega) only [↓RS,RZ,simprocAttr]
  refine cX m2 ?_
  simp (disch:=omega) only [↓RS,RZ,simprocAttr]
  refine cX k ?_
  simp (disch:=omega) only [↓RS,RZ,simprocAttr,rV]
 ·simp only [cI_nat] at o1 o2 p1 p2 p3 p5
  generalize a.n*(b.d:Int)=X at*
  generalize b.n*(a.d:Int)=Y at*
  generalize a.d*b.d=D at*
  generalize X+Y=Z at*
  clear f1 f2 f3 f4 e1 e2 e3 e4 hmul
  by_cases h1:a.small
  ·have h2:¬b.small:=fun h=>hs ⟨h1,h⟩
   rw [if_pos h1] at m1
   rw [if_neg h2] at m2
   refine PCi ?_
   conv in trip _ _=>cbv
   simp only [runT,RN,simprocAttr]
   simp (disch:=omega) only [↓RS,RZ,simprocAttr,rV]
   refine cX m1 ?_
   simp (disch:=omega) only [↓RS,RZ,simprocAttr]
   refine cX m2 ?_
   simp (disch:=omega) only [↓RS,RZ,simprocAttr]
   refine cX o1 ?_
   simp (disch:=omega) only [↓RS,RZ,simprocAttr,cI,iN]
   refine cX o2 ?_
   simp (disch:=omega) only [↓RS,RZ,simprocAttr,cI,iN]
   refine cX p1 ?_
   simp (disch:=omega) only [↓RS,RZ,simprocAttr,cI,iN]
   refine cX p2 ?_
   simp (disch:=omega) only [↓RS,RZ,simprocAttr,cI,iN]
   refine cX p4 ?_
   simp (disch:=omega) only [↓RS,RZ,simprocAttr,cI,iN]
   refine cX p3 ?_
   simp (disch:=omega) only [↓RS,RZ,simprocAttr,cI,iN]
   refine cX p5 ?_
   simp (disch:=omega) only [↓RS,RZ,simprocAttr,rV]
  ·rw [if_neg h1] at m1
   obtain ⟨x,y,z,m2⟩:=rsml_any b
   refine PCi ?_
   conv in trip _ _=>cbv
   simp only [runT,RN,simprocAttr]
   simp (disch:=omega) only [↓RS,RZ,simprocAttr,rV]
   refine cX m1 ?_
   simp (disch:=omega) only [↓RS,RZ,simprocAttr]
   refine cX m2 ?_
   simp (disch:=omega) only [↓RS,RZ,simprocAttr]
   refine cX o1 ?_
   simp (disch:=omega) only [↓RS,RZ,simprocAttr,cI,iN]
   refine cX o2 ?_
   simp (disch:=omega) only [↓RS,RZ,simprocAttr,cI,iN]
   refine cX p1 ?_
   simp (disch:=omega) only [↓RS,RZ,simprocAttr,cI,iN]
   refine cX p2 ?_
   simp (disch:=omega) only [↓RS,RZ,simprocAttr,cI,iN]
   refine cX p4 ?_
   simp (disch:=omega) only [↓RS,RZ,simprocAttr,cI,iN]
   refine cX p3 ?_
   simp (disch:=omega) only [↓RS,RZ,simprocAttr,cI,iN]
   refine cX p5 ?_
   simp (disch:=omega) only [↓RS,RZ,simprocAttr,rV]
end Go.Av
