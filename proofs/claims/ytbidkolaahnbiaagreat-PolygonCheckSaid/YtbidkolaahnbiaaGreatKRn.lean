/- Helping texts: Rn, Ro, Rp. -/
import Derived.Test.YtbidkolaahnbiaaGreatKRk
import Derived.Test.YtbidkolaahnbiaaGreatKCv
set_option linter.unusedSimpArgs false
set_option linter.unusedVariables false
set_option maxRecDepth 100000
set_option maxHeartbeats 16000000
namespace Go.Av
open Go.RowKit
open Go.Proofs.Tryz (prog)
theorem rmulR_pc (a b:Rt) (ha:a.le (2^32)) (hb:b.le (2^32)):PC prog 173 [rV a,rV b] (rV (can (a.val*b.val))):=by
 have m1:=rsml_pc a
 have m2:=rsml_pc b
 have o1:=rparts_pc a (by have:=ha.1;omega) (by have:=ha.2;omega)
 have o2:=rparts_pc b (by have:=hb.1;omega) (by have:=hb.2;omega)
 have e1:=dl_n ha
 have e2:=dl_n hb
 have e3:=dl_d ha (by omega)
 have e4:=dl_d hb (by omega)
 have hda:=a.d_pos
 have hdb:=b.d_pos
 have f1:=dl_natAbs_mul a.n b.n
 have f3:=dl_mul a.d b.d
 have p1:=rmulC_pc a.n b.n (by omega) (by omega)
 have p3:=rmulC_pc a.d b.d (by rw [Int.natAbs_natCast];omega) (by rw [Int.natAbs_natCast];omega)
 have hmul:(a.d:Int)*(b.d:Int)=((a.d*b.d:Nat):Int):=by rw [Int.natCast_mul]
 rw [hmul] at p3
 have hpos:0<a.d*b.d:=Nat.mul_pos hda hdb
 have p5:=fun hx hy=>rreduce_pc (a.n*b.n) ((a.d*b.d:Nat):Int) hx hy (by omega)
 rw [qI_nat,mul_val] at p5
 by_cases hs:a.small∧b.small
 ·rw [if_pos hs.1] at m1
  rw [if_pos hs.2] at m2
  have a1:(a.n*b.n).natAbs<281474976710656:=by rw [Int.natAbs_mul];exact Nat.mul_lt_mul_of_lt_of_lt (c:=16777216) (d:=16777216) (small_n hs.1) (small_n hs.2)
  have a3:a.d*b.d<281474976710656:=Nat.mul_lt_mul_of_lt_of_lt (c:=16777216) (d:=16777216) (small_d hs.1) (small_d hs.2)
  have k:=rpack_pc (a.n*b.n) (a.d*b.d) (by omega) hpos (by omega)
  rw [mul_val] at k
  clear p1 p3 p5 f1 f3 e1 e2 e3 e4 o1 o2
  refine PCi ?_
  conv in trip _ _=>cbv
  simp only [runT,RN,simprocAttr]
  simp (disch:=omega) only [↓RS,RZ,simprocAttr,rV]
  refine cX m1 ?_
  simp (disch:=omega) only [↓RS,RZ,simprocAttr]
  refine cX m2 ?_
  simp (disch:=omega) only [↓RS,RZ,simprocAttr]
  refine cX k ?_
  simp (disch:=omega) only [↓RS,RZ,simprocAttr,rV]
 ·have p5:=p5 (by omega) (by rw [Int.natAbs_natCast];omega)
  simp only [cI_nat] at o1 o2 p1 p3 p5
  generalize a.n*b.n=X at*
  generalize a.d*b.d=D at*
  clear f1 f3 e1 e2 e3 e4 hmul
  by_cases h1:a.small
  ·have h2:¬b.small:=fun h=>hs ⟨h1,h⟩
   rw [if_pos h1] at m1
   rw [if_neg h2] at m2
   refine PCi ?_
   conv in trip _ _=>cbv
   simp only [runT,RN,simprocAttr]
   simp (disch:=omega) only [↓RS,RZ,simprocAttr,rV]
   refine cX m1 ?_
   simp (disch:=omega) only [↓RS,RZ,simprocAttr]
   refine cX m2 ?_
   simp (disch:=omega) only [↓RS,RZ,simprocAttr]
   refine cX o1 ?_
   simp (disch:=omega) only [↓RS,RZ,simprocAttr,cI,iN]
   refine cX o2 ?_
   simp (disch:=omega) only [↓RS,RZ,simprocAttr,cI,iN]
   refine cX p1 ?_
   simp (disch:=omega) only [↓RS,RZ,simprocAttr,cI,iN]
   refine cX p3 ?_
   simp (disch:=omega) only [↓RS,RZ,simprocAttr,cI,iN]
   refine cX p5 ?_
   simp (disch:=omega) only [↓RS,RZ,simprocAttr,rV]
  ·rw [if_neg h1] at m1
   obtain ⟨x,y,z,m2⟩:=rsml_any b
   refine PCi ?_
   conv in trip _ _=>cbv
   simp only [runT,RN,simprocAttr]
   simp (disch:=omega) only [↓RS,RZ,simprocAttr,rV]
   refine cX m1 ?_
   simp (disch:=omega) only [↓RS,RZ,simprocAttr]
   refine cX m2 ?_
   simp (disch:=omega) only [↓RS,RZ,simprocAttr]
   refine cX o1 ?_
   simp (disch:=omega) only [↓RS,RZ,simprocAttr,cI,iN]
   refine cX o2 ?_
   simp (disch:=omega) only [↓RS,RZ,simprocAttr,cI,iN]
   refine cX p1 ?_
   simp (disch:=omega) only [↓RS,RZ,simprocAttr,cI,iN]
   refine cX p3 ?_
   simp (disch:=omega) only [↓RS,RZ,simprocAttr,cI,iN]
   refine cX p5 ?_
   simp (disch:=omega) only [↓RS,RZ,simprocAttr,rV]
theorem rcmpR_pc (a b:Rt) (ha:a.le (2^32)) (hb:b.le (2^32)):PC prog 119 [rV a,rV b] (.prim (.int .i64 (cmpQ a.val b.val))):=by
 have m1:=rsml_pc a
 have m2:=rsml_pc b
 have o1:=rparts_pc a (by have:=ha.1;omega) (by have:=ha.2;omega)
 have o2:=rparts_pc b (by have:=hb.1;omega) (by have:=hb.2;omega)
 have e1:=dl_n ha
 have e2:=dl_n hb
 have e3:=dl_d ha (by omega)
 have e4:=dl_d hb (by omega)
 have hda:=a.d_pos
 have hdb:=b.d_pos
 have f1:=dl_natAbs_mul a.n b.d
 have f2:=dl_natAbs_mul b.n a.d
 rw [Int.natAbs_natCast] at f1 f2
 have p1:=rmulC_pc a.n b.d (by omega) (by rw [Int.natAbs_natCast];omega)
 have p2:=rmulC_pc b.n a.d (by omega) (by rw [Int.natAbs_natCast];omega)
 have p4:=rcmpC_pc (a.n*b.d) (b.n*a.d) (by omega) (by omega)
 rw [←cmp_val]
 by_cases hs:a.small∧b.small
 ·rw [if_pos hs.1] at m1
  rw [if_pos hs.2] at m2
  have a1:=small_mul (small_n hs.1) (small_d hs.2)
  have a2:=small_mul (small_n hs.2) (small_d hs.1)
  clear p1 p2 p4 f1 f2 e1 e2 e3 e4 o1 o2
  rcases Int.lt_trichotomy (a.n*(b.d:Int)) (b.n*(a.d:Int)) with h|h|h
  ·have e:cmpI (a.n*b.d) (b.n*a.d)= -1:=by rw [cmpI,if_pos h]
   rw [e]
   refine PCi ?_
   conv in trip _ _=>cbv
   simp only [runT,RN,simprocAttr]
   simp (disch:=omega) only [↓RS,RZ,simprocAttr,rV]
   refine cX m1 ?_
   simp (disch:=omega) only [↓RS,RZ,simprocAttr]
   refine cX m2 ?_
   simp (disch:=omega) only [↓RS,RZ,simprocAttr]
  ·have e:cmpI (a.n*b.d) (b.n*a.d)=0:=by rw [cmpI,if_neg (by omega),if_neg (by omega)]
   rw [e]
   refine PCi ?_
   conv in trip _ _=>cbv
   simp only [runT,RN,simprocAttr]
   simp (disch:=omega) only [↓RS,RZ,simprocAttr,rV]
   refine cX m1 ?_
   simp (disch:=omega) only [↓RS,RZ,simprocAttr]
   refine cX m2 ?_
   simp (disch:=omega) only [↓RS,RZ,simprocAttr]
  ·have e:cmpI (a.n*b.d) (b.n*a.d)=1:=by rw [cmpI,if_neg (by omega),if_pos h]
   rw [e]
   refine PCi ?_
   conv in trip _ _=>cbv
   simp only [runT,RN,simprocAttr]
   simp (disch:=omega) only [↓RS,RZ,simprocAttr,rV]
   refine cX m1 ?_
   simp (disch:=omega) only [↓RS,RZ,simprocAttr]
   refine cX m2 ?_
   simp (disch:=omega) only [↓RS,RZ,simprocAttr]
 ·simp only [cI_nat] at o1 o2 p1 p2
  generalize a.n*(b.d:Int)=X at*
  generalize b.n*(a.d:Int)=Y at*
  clear f1 f2 e1 e2 e3 e4
  by_cases h1:a.small
  ·have h2:¬b.small:=fun h=>hs ⟨h1,h⟩
   rw [if_pos h1] at m1
   rw [if_neg h2] at m2
   refine PCi ?_
   conv in trip _ _=>cbv
   simp only [runT,RN,simprocAttr]
   simp (disch:=omega) only [↓RS,RZ,simprocAttr,rV]
   refine cX m1 ?_
   simp (disch:=omega) only [↓RS,RZ,simprocAttr]
   refine cX m2 ?_
   simp (disch:=omega) only [↓RS,RZ,simprocAttr]
   refine cX o1 ?_
   simp (disch:=omega) only [↓RS,RZ,simprocAttr,cI,iN]
   refine cX o2 ?_
   simp (disch:=omega) only [↓RS,RZ,simprocAttr,cI,iN]
   refine cX p1 ?_
   simp (disch:=omega) only [↓RS,RZ,simprocAttr,cI,iN]
   refine cX p2 ?_
   simp (disch:=omega) only [↓RS,RZ,simprocAttr,cI,iN]
   refine cX p4 ?_
   simp (disch:=omega) only [↓RS,RZ,simprocAttr]
  ·rw [if_neg h1] at m1
   obtain ⟨x,y,z,m2⟩:=rsml_any b
   refine PCi ?_
   conv in trip _ _=>cbv
   simp only [runT,RN,simprocAttr]
   simp (disch:=omega) only [↓RS,RZ,simprocAttr,rV]
   refine cX m1 ?_
   simp (disch:=omega) only [↓RS,RZ,simprocAttr]
   refine cX m2 ?_
   simp (disch:=omega) only [↓RS,RZ,simprocAttr]
   refine cX o1 ?_
   simp (disch:=omega) only [↓RS,RZ,simprocAttr,cI,iN]
   refine cX o2 ?_
   simp (disch:=omega) only [↓RS,RZ,simprocAttr,cI,iN]
   refine cX p1 ?_
   simp (disch:=omega) only [↓RS,RZ,simprocAttr,cI,iN]
   refine cX p2 ?_
   simp (disch:=omega) only [↓RS,RZ,simprocAttr,cI,iN]
   refine cX p4 ?_
   simp (disch:=omega) only [↓RS,RZ,simprocAttr]
end Go.Av
namespace Go.Av
open Go.RowKit
open Go.Proofs.Tryz (prog)
theorem rsubR_pc (a b:Rt) (ha:a.le (2^32)) (hb:b.le (2^32)):PC prog 140 [rV a,rV b] (rV (can (a.val-b.val))):=by
 have h:=raddR_pc a (Rt.mk (!b.neg) b.num b.den) ha hb
 rw [val_not,←Rat.sub_eq_add_neg] at h
 refine PCi ?_
 conv in trip _ _=>cbv
 simp only [runT,RN,simprocAttr]
 simp (disch:=omega) only [↓RS,RZ,simprocAttr,rV]
 refine cX h ?_
 simp (disch:=omega) only [↓RS,RZ,simprocAttr,rV]
theorem rnormR_pc (r:Rt) (hr:r.le (2^32)):PC prog 174 [rV r] (rV (can r.val)):=by
 have m1:=rsml_pc r
 have o1:=rparts_pc r (by have:=hr.1;omega) (by have:=hr.2;omega)
 have e1:=dl_n hr
 have e3:=dl_d hr (by omega)
 have hd:=r.d_pos
 by_cases hs:r.small
 ·rw [if_pos hs] at m1
  have hn1:=small_n hs
  have hd1:=small_d hs
  have k:=rpack_pc r.n r.d (by omega) hd (by omega)
  have k:PC prog 241 [.prim (.int .i64 (r.n)),.prim (.int .i64 ((r.d:Nat):Int))] (rV (can r.val)):=k
  refine PCi ?_
  conv in trip _ _=>cbv
  simp only [runT,RN,simprocAttr]
  simp (disch:=omega) only [↓RS,RZ,simprocAttr,rV]
  refine cX m1 ?_
  simp (disch:=omega) only [↓RS,RZ,simprocAttr]
  refine cX k ?_
  simp (disch:=omega) only [↓RS,RZ,simprocAttr,rV]
 ·rw [if_neg hs] at m1
  have k:=rreduce_pc r.n (r.d:Int) (by omega) (by rw [Int.natAbs_natCast];omega) (by omega)
  rw [cI_nat] at o1 k
  have k:PC prog 175 [cI r.n,iN false (digitsOf r.d)] (rV (can r.val)):=k
  refine PCi ?_
  conv in trip _ _=>cbv
  simp only [runT,RN,simprocAttr]
  simp (disch:=omega) only [↓RS,RZ,simprocAttr,rV]
  refine cX m1 ?_
  simp (disch:=omega) only [↓RS,RZ,simprocAttr]
  refine cX o1 ?_
  simp (disch:=omega) only [↓RS,RZ,simprocAttr,cI,iN]
  refine cX k ?_
  simp (disch:=omega) only [↓RS,RZ,simprocAttr,rV]
theorem val_zR:zR.val=0:=by
 have e1:zR.n=0:=rfl
 unfold Rt.val;rw [e1,Rat.zero_mkRat]
theorem rsignR_pc (a:Rt) (ha:a.le (2^32)):PC prog 96 [rV a] (.prim (.int .i64 (cmpQ a.val 0))):=by
 have h:=rcmpR_pc a zR ha ⟨by simp [zR],by simp [zR]⟩
 rw [val_zR] at h
 have h:PC prog 119 [rV a,.agg [.prim (.bool false),.prim (.string (bs ([]))),.prim (.string (bs ([])))]] (.prim (.int .i64 (cmpQ a.val 0))):=h
 refine PCi ?_
 conv in trip _ _=>cbv
 simp only [runT,RN,simprocAttr]
 simp (disch:=omega) only [↓RS,RZ,simprocAttr,rV]
 refine cX h ?_
 simp (disch:=omega) only [↓RS,RZ,simprocAttr]
theorem rcheckR_pc (r:Rt) (hr:r.le (2^32)):PC prog 95 [rV r] (.prim (.int .i64 (if r=can r.val then 0 else 1))):=by
 have h:=rnormR_pc r hr
 generalize can r.val=c at*
 by_cases he:r=c
 ·have hd:decide (Rt.mk c.neg c.num c.den=Rt.mk r.neg r.num r.den)=true:=decide_eq_true he.symm
  rw [if_pos he]
  refine PCi ?_
  conv in trip _ _=>cbv
  simp only [runT,RN,simprocAttr]
  simp (disch:=omega) only [↓RS,RZ,simprocAttr,rV]
  refine cX h ?_
  simp (disch:=omega) only [↓RS,RZ,simprocAttr,rV,eqA_rat,hd]
 ·have hd:decide (Rt.mk c.neg c.num c.den=Rt.mk r.neg r.num r.den)=false:=decide_eq_false (fun e=>he e.symm)
  rw [if_neg he]
  refine PCi ?_
  conv in trip _ _=>cbv
  simp only [runT,RN,simprocAttr]
  simp (disch:=omega) only [↓RS,RZ,simprocAttr,rV]
  refine cX h ?_
  simp (disch:=omega) only [↓RS,RZ,simprocAttr,rV,eqA_rat,hd]
theorem inv_val (b:Rt) (h:b.n≠0):(Rt.mk (decide (b.n<0)) (digitsOf b.d) (digitsOf b.n.natAbs)).val=(b.val)⁻¹:=by
 have e1:(Rt.mk (decide (b.n<0)) (digitsOf b.d) (digitsOf b.n.natAbs)).n=sg (decide (b.n<0)) b.d:=by rw [Rt.n,ival,bval_digitsOf]
 have e2:(Rt.mk (decide (b.n<0)) (digitsOf b.d) (digitsOf b.n.natAbs)).d=b.n.natAbs:=by
  unfold Rt.d;simp only;rw [bval_digitsOf,if_neg (by omega)]
 have e3:b.val=Rat.divInt b.n b.d:=rfl
 unfold Rt.val at e3 ⊢
 rw [e1,e2,e3,Rat.inv_divInt]
 by_cases hn:b.n<0
 ·rw [decide_eq_true hn]
  have:sg true b.d= -(b.d:Int):=rfl
  rw [this,show b.n.natAbs=(-b.n).natAbs by rw [Int.natAbs_neg],qI_pos (by omega),qI_neg];rfl
 ·rw [decide_eq_false hn]
  have:sg false b.d=(b.d:Int):=rfl
  rw [this,qI_pos (by omega)];rfl
theorem rquoR_pc (a b:Rt) (ha:a.le (2^32)) (hb:b.le (2^32)):PC prog 217 [rV a,rV b] (if b.val=0 then .tup [rV ⟨false,[],[]⟩,.prim (.int .i64 (10))] else .tup [rV (can (a.val/b.val)),.prim (.int .i64 (0))]):=by
 have o2:=rparts_pc b (by have:=hb.1;omega) (by have:=hb.2;omega)
 rw [cI_nat] at o2
 by_cases h0:b.val=0
 ·rw [if_pos h0]
  have hn:=(val_zero b).1 h0
  have hz:cI b.n=iN false []:=by rw [hn,cI,show (0:Int).natAbs=0 from rfl,digitsOf_zero];rfl
  rw [hz] at o2
  refine PCi ?_
  conv in trip _ _=>cbv
  simp only [runT,RN,simprocAttr]
  simp (disch:=omega) only [↓RS,RZ,simprocAttr,rV]
  refine cX o2 ?_
  simp (disch:=omega) only [↓RS,RZ,simprocAttr,cI,iN,rV]
 ·rw [if_neg h0]
  have hn:b.n≠0:=fun h=>h0 ((val_zero b).2 h)
  have hb1:=nonnil_beq (n:=b.n.natAbs) (by omega)
  have h:=rmulR_pc a (Rt.mk (decide (b.n<0)) (digitsOf b.d) (digitsOf b.n.natAbs)) ha ⟨dl_d hb (by omega),dl_n hb⟩
  rw [inv_val b hn,←Rat.div_def] at h
  refine PCi ?_
  conv in trip _ _=>cbv
  simp only [runT,RN,simprocAttr]
  simp (disch:=omega) only [↓RS,RZ,simprocAttr,rV]
  refine cX o2 ?_
  simp (disch:=omega) only [↓RS,RZ,simprocAttr,cI,iN,rV,hb1]
  refine cX h ?_
  simp (disch:=omega) only [↓RS,RZ,simprocAttr,rV]
end Go.Av
namespace Go.Av
open Go.RowKit
open Go.Proofs.Tryz (prog)
theorem raddQ_pc (p q:Rat) (hp:ht p≤2^32) (hq:ht q≤2^32):PC prog 172 [qV p,qV q] (qV (p+q)):=by
 have h:=raddR_pc (can p) (can q) (can_le hp) (can_le hq)
 rwa [can_val,can_val] at h
theorem rsubQ_pc (p q:Rat) (hp:ht p≤2^32) (hq:ht q≤2^32):PC prog 140 [qV p,qV q] (qV (p-q)):=by
 have h:=rsubR_pc (can p) (can q) (can_le hp) (can_le hq)
 rwa [can_val,can_val] at h
theorem rmulQ_pc (p q:Rat) (hp:ht p≤2^32) (hq:ht q≤2^32):PC prog 173 [qV p,qV q] (qV (p*q)):=by
 have h:=rmulR_pc (can p) (can q) (can_le hp) (can_le hq)
 rwa [can_val,can_val] at h
theorem rcmpQ_pc (p q:Rat) (hp:ht p≤2^32) (hq:ht q≤2^32):PC prog 119 [qV p,qV q] (.prim (.int .i64 (cmpQ p q))):=by
 have h:=rcmpR_pc (can p) (can q) (can_le hp) (can_le hq)
 rwa [can_val,can_val] at h
theorem rsignQ_pc (p:Rat) (hp:ht p≤2^32):PC prog 96 [qV p] (.prim (.int .i64 (cmpQ p 0))):=by
 have h:=rsignR_pc (can p) (can_le hp)
 rwa [can_val] at h
theorem rvsub_pc (p q:Pt) (h1:hp p≤2^32) (h2:hp q≤2^32):PC prog 138 [pV p,pV q] (pV (p.sub q)):=by
 have:=hp_x p;have:=hp_y p;have:=hp_x q;have:=hp_y q
 have s1:=rsubQ_pc p.x q.x (by omega) (by omega)
 have s2:=rsubQ_pc p.y q.y (by omega) (by omega)
 refine PCi ?_
 conv in trip _ _=>cbv
 simp only [runT,RN,simprocAttr]
 simp (disch:=omega) only [↓RS,RZ,simprocAttr,pV,ptV]
 refine cX s1 ?_
 simp (disch:=omega) only [↓RS,RZ,simprocAttr,qV,rV]
 refine cX s2 ?_
 simp (disch:=omega) only [↓RS,RZ,simprocAttr,qV,rV,pV,ptV]
 try rfl
theorem rvcross_pc (p q:Pt) (h1:hp p≤2^30) (h2:hp q≤2^30):PC prog 212 [pV p,pV q] (qV (cross p q)):=by
 have:=hp_x p;have:=hp_y p;have:=hp_x q;have:=hp_y q
 have:=ht_mul p.x q.y;have:=ht_mul p.y q.x
 have s1:=rmulQ_pc p.x q.y (by omega) (by omega)
 have s2:=rmulQ_pc p.y q.x (by omega) (by omega)
 have s3:=rsubQ_pc (p.x*q.y) (p.y*q.x) (by omega) (by omega)
 refine PCi ?_
 conv in trip _ _=>cbv
 simp only [runT,RN,simprocAttr]
 simp (disch:=omega) only [↓RS,RZ,simprocAttr,pV,ptV]
 refine cX s1 ?_
 simp (disch:=omega) only [↓RS,RZ,simprocAttr,qV,rV]
 refine cX s2 ?_
 simp (disch:=omega) only [↓RS,RZ,simprocAttr,qV,rV]
 refine cX s3 ?_
 simp (disch:=omega) only [↓RS,RZ,simprocAttr,qV,rV]
 try rfl
def dotP (p q:Pt):Rat:=p.x*q.x+p.y*q.y
theorem ht_dot (p q:Pt):ht (dotP p q)≤2*(hp p+hp q)+1:=by
 have:=ht_add (p.x*q.x) (p.y*q.y);have:=ht_mul p.x q.x;have:=ht_mul p.y q.y;have:=hp_x p;have:=hp_y p;have:=hp_x q;have:=hp_y q
 unfold dotP;omega
theorem rvdot_pc (p q:Pt) (h1:hp p≤2^30) (h2:hp q≤2^30):PC prog 137 [pV p,pV q] (qV (dotP p q)):=by
 have:=hp_x p;have:=hp_y p;have:=hp_x q;have:=hp_y q
 have:=ht_mul p.x q.x;have:=ht_mul p.y q.y
 have s1:=rmulQ_pc p.x q.x (by omega) (by omega)
 have s2:=rmulQ_pc p.y q.y (by omega) (by omega)
 have s3:=raddQ_pc (p.x*q.x) (p.y*q.y) (by omega) (by omega)
 refine PCi ?_
 conv in trip _ _=>cbv
 simp only [runT,RN,simprocAttr]
 simp (disch:=omega) only [↓RS,RZ,simprocAttr,pV,ptV]
 refine cX s1 ?_
 simp (disch:=omega) only [↓RS,RZ,simprocAttr,qV,rV]
 refine cX s2 ?_
 simp (disch:=omega) only [↓RS,RZ,simprocAttr,qV,rV]
 refine cX s3 ?_
 simp (disch:=omega) only [↓RS,RZ,simprocAttr,qV,rV]
 try rfl
theorem rorient_pc (a b c:Pt) (h1:hp a≤2^26) (h2:hp b≤2^26) (h3:hp c≤2^26):PC prog 136 [pV a,pV b,pV c] (.prim (.int .i64 (orient a b c))):=by
 have a1:=hp_sub b a;have a2:=hp_sub c a;have a3:=ht_cross (b.sub a) (c.sub a)
 have s1:=rvsub_pc b a (by omega) (by omega)
 have s2:=rvsub_pc c a (by omega) (by omega)
 have s3:=rvcross_pc (b.sub a) (c.sub a) (by omega) (by omega)
 have s4:=rsignQ_pc (cross (b.sub a) (c.sub a)) (by omega)
 refine PCi ?_
 conv in trip _ _=>cbv
 simp only [runT,RN,simprocAttr]
 simp (disch:=omega) only [↓RS,RZ,simprocAttr,pV,ptV]
 refine cX s1 ?_
 simp (disch:=omega) only [↓RS,RZ,simprocAttr,pV,ptV]
 refine cX s2 ?_
 simp (disch:=omega) only [↓RS,RZ,simprocAttr,pV,ptV]
 refine cX s3 ?_
 simp (disch:=omega) only [↓RS,RZ,simprocAttr,qV,rV]
 refine cX s4 ?_
 simp (disch:=omega) only [↓RS,RZ,simprocAttr]
 try rfl
def rbetween (a b p:Pt):Bool:=decide (orient a b p=0)&&decide (cmpQ (dotP (a.sub p) (b.sub p)) 0≤0)
theorem rbetween_pc (a b p:Pt) (h1:hp a≤2^26) (h2:hp b≤2^26) (h3:hp p≤2^26):PC prog 60 [pV a,pV b,pV p] (.prim (.bool (rbetween a b p))):=by
 have a1:=hp_sub a p;have a2:=hp_sub b p;have a3:=ht_dot (a.sub p) (b.sub p)
 have s1:=rorient_pc a b p h1 h2 h3
 have s2:=rvsub_pc a p (by omega) (by omega)
 have s3:=rvsub_pc b p (by omega) (by omega)
 have s4:=rvdot_pc (a.sub p) (b.sub p) (by omega) (by omega)
 have s5:=rsignQ_pc (dotP (a.sub p) (b.sub p)) (by omega)
 unfold rbetween
 generalize orient a b p=o at*
 generalize cmpQ (dotP (a.sub p) (b.sub p)) 0=z at*
 by_cases ho:o=0
 ·subst ho
  by_cases hz:z≤0
  ·rw [decide_eq_true hz]
   refine PCi ?_
   conv in trip _ _=>cbv
   simp only [runT,RN,simprocAttr]
   simp (disch:=omega) only [↓RS,RZ,simprocAttr,pV,ptV]
   refine cX s1 ?_
   simp (disch:=omega) only [↓RS,RZ,simprocAttr,pV,ptV]
   refine cX s2 ?_
   simp (disch:=omega) only [↓RS,RZ,simprocAttr,pV,ptV]
   refine cX s3 ?_
   simp (disch:=omega) only [↓RS,RZ,simprocAttr,pV,ptV]
   refine cX s4 ?_
   simp (disch:=omega) only [↓RS,RZ,simprocAttr,qV,rV]
   refine cX s5 ?_
   simp (disch:=omega) only [↓RS,RZ,simprocAttr]
   try rfl
  ·rw [decide_eq_false hz]
   refine PCi ?_
   conv in trip _ _=>cbv
   simp only [runT,RN,simprocAttr]
   simp (disch:=omega) only [↓RS,RZ,simprocAttr,pV,ptV]
   refine cX s1 ?_
   simp (disch:=omega) only [↓RS,RZ,simprocAttr,pV,ptV]
   refine cX s2 ?_
   simp (disch:=omega) only [↓RS,RZ,simprocAttr,pV,ptV]
   refine cX s3 ?_
   simp (disch:=omega) only [↓RS,RZ,simprocAttr,pV,ptV]
   refine cX s4 ?_
   simp (disch:=omega) only [↓RS,RZ,simprocAttr,qV,rV]
   refine cX s5 ?_
   simp (disch:=omega) only [↓RS,RZ,simprocAttr]
   try rfl
 ·rw [decide_eq_false ho]
  refine PCi ?_
  conv in trip _ _=>cbv
  simp only [runT,RN,simprocAttr]
  simp (disch:=omega) only [↓RS,RZ,simprocAttr,pV,ptV]
  refine cX s1 ?_
  simp (disch:=omega) only [↓RS,RZ,simprocAttr]
  try rfl
end Go.Av
