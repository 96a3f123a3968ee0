/- Helping texts: Ga. -/
import Derived.Test.YtbidkolaahnbiaaGreatKDj
set_option linter.unusedSimpArgs false
set_option linter.unusedVariables false
set_option maxRecDepth 100000
set_option maxHeartbeats 16000000
namespace Go.Av
open Go.RowKit
open Go.Proofs.Tryz (prog)
theorem negR_pc (r:Rt) (h:r.le (2^32)):PC prog 42 [rV r] (rV (can (-r.val))):=by
 have h1:=h.1
 have h2:=h.2
 have h3:=dd_len r h2 (by omega)
 have o:PC prog 100 [.agg [.prim (.bool (!r.neg)),.prim (.string (bs (r.num))),.prim (.string (bs (r.den)))]] (fV (!r.neg) r.num r.dd):=ofR_pc ⟨!r.neg,r.num,r.den⟩ (by simp only;omega) (by simp only;omega)
 have n:=number_pc (!r.neg) r.num r.dd (by omega) (by omega) (by rw [bval_dd];exact r.d_pos)
 have e:mkRat (ival (!r.neg) r.num) (bval r.dd)= -r.val:=by rw [←val_not,bval_dd];rfl
 rw [e] at n
 refine PCi ?_
 conv in trip _ _=>cbv
 simp only [runT,RN,simprocAttr]
 simp (disch:=omega) only [↓RS,RZ,simprocAttr,rV]
 refine cX o ?_
 simp (disch:=omega) only [↓RS,RZ,simprocAttr,fV]
 refine cX n ?_
 simp (disch:=omega) only [↓RS,RZ,simprocAttr,rV]
 try rfl
theorem negQ_pc (p:Rat) (h:ht p≤2^32):PC prog 42 [qV p] (qV (-p)):=by
 have h:=negR_pc (can p) (can_le h)
 rwa [can_val] at h
theorem eqA_q2 (a b:Rat):eqA (tyOf prog) 9 27 (.agg [.prim (.bool (can a).neg),.prim (.string (bs ((can a).num))),.prim (.string (bs ((can a).den)))]) (.agg [.prim (.bool (can b).neg),.prim (.string (bs ((can b).num))),.prim (.string (bs ((can b).den)))])=some (decide (a=b)):=by
 rw [eqA_rat]
 have:decide (Rt.mk (can a).neg (can a).num (can a).den=Rt.mk (can b).neg (can b).num (can b).den)=decide (a=b):=by
  rw [decide_eq_decide]
  exact ⟨fun h=>can_inj h,fun h=>by subst h;rfl⟩
 rw [this]
theorem qV_zero:qV 0=rV ⟨false,[],[]⟩:=by unfold qV;rw [can_zero]
theorem sum2_pc (a b:Rat) (h1:ht a≤2^30) (h2:ht b≤2^30):PC prog 171 [.lst 3 [qc a,qc b]] (qV (a+b)):=by
 have z:=ht_zero
 have a1:=addQ_pc 0 a (by omega) (by omega)
 rw [Rat.zero_add,qV_zero] at a1
 have a2:=addQ_pc a b (by omega) (by omega)
 refine PCi ?_
 conv in trip _ _=>cbv
 simp only [runT,RN,simprocAttr]
 simp (disch:=omega) only [↓RS,RZ,simprocAttr,qc]
 refine wp_iter 3 ?_
 simp (disch:=omega) only [↓RS,RZ,simprocAttr,iterL_s,itQ_normal,itQ_exit,itQ_ret,Int.reduceAdd]
 refine cX a1 ?_
 simp (disch:=omega) only [↓RS,RZ,simprocAttr,iterL_s,itQ_normal,itQ_exit,itQ_ret,Int.reduceAdd,qV,rV]
 refine cX a2 ?_
 simp (disch:=omega) only [↓RS,RZ,simprocAttr,iterL_s,itQ_normal,itQ_exit,itQ_ret,Int.reduceAdd,qV,rV]
 try rfl
theorem rminus_pc (a b:Rat) (h1:ht a≤2^30) (h2:ht b≤2^30):PC prog 187 [qV a,qV b] (qV (-(a*b))):=by
 have m:=mulQ_pc a b (by omega) (by omega)
 have:=ht_mul a b
 have n:=negQ_pc (a*b) (by omega)
 refine PCi ?_
 conv in trip _ _=>cbv
 simp only [runT,RN,simprocAttr]
 simp (disch:=omega) only [↓RS,RZ,simprocAttr,qV,rV]
 refine cX m ?_
 simp (disch:=omega) only [↓RS,RZ,simprocAttr,qV,rV]
 refine cX n ?_
 simp (disch:=omega) only [↓RS,RZ,simprocAttr,qV,rV]
 try rfl
def rotP (r p:Pt):Pt:=⟨r.x*p.x+ -(r.y*p.y),r.y*p.x+r.x*p.y⟩
theorem hp_rot (r p:Pt):hp (rotP r p)≤2*(hp r+hp p)+1:=by
 have h1:=hp_x r;have h2:=hp_y r;have h3:=hp_x p;have h4:=hp_y p
 have m1:=ht_mul r.x p.x;have m2:=ht_mul r.y p.y;have m3:=ht_mul r.y p.x;have m4:=ht_mul r.x p.y
 have n:=ht_neg (r.y*p.y)
 have a1:=ht_add (r.x*p.x) (-(r.y*p.y));have a2:=ht_add (r.y*p.x) (r.x*p.y)
 exact hp_mk (by omega) (by omega)
def isRot (r:Pt):Prop:=r.x*r.x+r.y*r.y=1
def rotC (X Y:Rt):Int:=if X=can X.val∧Y=can Y.val then (if X.val*X.val+Y.val*Y.val=1 then 0 else 2) else 1
theorem rotCheck_pc (X Y:Rt) (h1:X.le (2^20)) (h2:Y.le (2^20)):PC prog 86 [ptV X Y] (.prim (.int .i64 (rotC X Y))):=by
 have c1:=checkR2_pc X ⟨by have:=h1.1;omega,by have:=h1.2;omega⟩
 have c2:=checkR2_pc Y ⟨by have:=h2.1;omega,by have:=h2.2;omega⟩
 unfold rotC
 by_cases hx:X=can X.val
 ·rw [if_pos hx] at c1
  by_cases hy:Y=can Y.val
  ·rw [if_pos hy] at c2
   rw [if_pos ⟨hx,hy⟩]
   rw [hx] at h1
   rw [hy] at h2
   have k1:=ht_of_le h1 (by omega)
   have k2:=ht_of_le h2 (by omega)
   generalize X.val=a at*
   generalize Y.val=b at*
   subst hx
   subst hy
   have m1:=mulQ_pc a a (by omega) (by omega)
   have m2:=mulQ_pc b b (by omega) (by omega)
   have l1:=ht_mul a a
   have l2:=ht_mul b b
   have s:=sum2_pc (a*a) (b*b) (by omega) (by omega)
   have o:=ofQ_pc 1 (by omega) (by omega)
   have e:=eqA_q2 (a*a+b*b) ((1:Int):Rat)
   rw [show ((1:Int):Rat)=1 from rfl] at o e
   simp only [qc] at s
   by_cases hs:a*a+b*b=1
   ·rw [if_pos hs]
    rw [decide_eq_true hs] at e
    refine PCi ?_
    conv in trip _ _=>cbv
    simp only [runT,RN,simprocAttr]
    simp (disch:=omega) only [↓RS,RZ,simprocAttr,ptV]
    refine cX c1 ?_
    simp (disch:=omega) only [↓RS,RZ,simprocAttr]
    refine cX c2 ?_
    simp (disch:=omega) only [↓RS,RZ,simprocAttr]
    refine cX m1 ?_
    simp (disch:=omega) only [↓RS,RZ,simprocAttr,qV,rV]
    refine cX m2 ?_
    simp (disch:=omega) only [↓RS,RZ,simprocAttr,qV,rV]
    refine cX s ?_
    simp (disch:=omega) only [↓RS,RZ,simprocAttr,qV,rV]
    refine cX o ?_
    simp (disch:=omega) only [↓RS,RZ,simprocAttr,qV,rV,e]
   ·rw [if_neg hs]
    rw [decide_eq_false hs] at e
    refine PCi ?_
    conv in trip _ _=>cbv
    simp only [runT,RN,simprocAttr]
    simp (disch:=omega) only [↓RS,RZ,simprocAttr,ptV]
    refine cX c1 ?_
    simp (disch:=omega) only [↓RS,RZ,simprocAttr]
    refine cX c2 ?_
    simp (disch:=omega) only [↓RS,RZ,simprocAttr]
    refine cX m1 ?_
    simp (disch:=omega) only [↓RS,RZ,simprocAttr,qV,rV]
    refine cX m2 ?_
    simp (disch:=omega) only [↓RS,RZ,simprocAttr,qV,rV]
    refine cX s ?_
    simp (disch:=omega) only [↓RS,RZ,simprocAttr,qV,rV]
    refine cX o ?_
    simp (disch:=omega) only [↓RS,RZ,simprocAttr,qV,rV,e]
  ·rw [if_neg hy] at c2
   rw [if_neg (fun h=>hy h.2)]
   refine PCi ?_
   conv in trip _ _=>cbv
   simp only [runT,RN,simprocAttr]
   simp (disch:=omega) only [↓RS,RZ,simprocAttr,ptV]
   refine cX c1 ?_
   simp (disch:=omega) only [↓RS,RZ,simprocAttr]
   refine cX c2 ?_
   simp (disch:=omega) only [↓RS,RZ,simprocAttr]
 ·rw [if_neg hx] at c1
  rw [if_neg (fun h=>hx h.1)]
  refine PCi ?_
  conv in trip _ _=>cbv
  simp only [runT,RN,simprocAttr]
  simp (disch:=omega) only [↓RS,RZ,simprocAttr,ptV]
  refine cX c1 ?_
  simp (disch:=omega) only [↓RS,RZ,simprocAttr]
theorem rotCheck0_pc (r:Pt) (h:hp r≤2^20) (hr:isRot r):PC prog 86 [pV r] (.prim (.int .i64 (0))):=by
 have h1:=hp_x r
 have h2:=hp_y r
 have c:=rotCheck_pc (can r.x) (can r.y) (can_le (by omega)) (can_le (by omega))
 unfold rotC at c
 rw [can_val,can_val,if_pos ⟨rfl,rfl⟩,if_pos (show r.x*r.x+r.y*r.y=1 from hr)] at c
 exact c
theorem wrong1_pc (r:Pt) (h:hp r≤2^20) (hr:isRot r):PC prog 107 [.lst 6 [pc r]] (.prim (.bool false)):=by
 have c:=rotCheck0_pc r h hr
 refine PCi ?_
 conv in trip _ _=>cbv
 simp only [runT,RN,simprocAttr]
 simp (disch:=omega) only [↓RS,RZ,simprocAttr,pc]
 refine wp_iter 2 ?_
 simp (disch:=omega) only [↓RS,RZ,simprocAttr,iterL_s,itQ_normal,itQ_exit,itQ_ret,Int.reduceAdd]
 refine cX c ?_
 simp (disch:=omega) only [↓RS,RZ,simprocAttr,iterL_s,itQ_normal,itQ_exit,itQ_ret,Int.reduceAdd]
theorem image_pc (r p:Pt) (h1:hp r≤2^20) (h2:hp p≤2^20):PC prog 113 [pV r,pV p] (pV (rotP r p)):=by
 have k1:=hp_x r;have k2:=hp_y r;have k3:=hp_x p;have k4:=hp_y p
 have l1:=ht_mul r.x p.x;have l2:=ht_mul r.y p.y;have l3:=ht_mul r.y p.x;have l4:=ht_mul r.x p.y
 have l5:=ht_neg (r.y*p.y)
 have m1:=mulQ_pc r.x p.x (by omega) (by omega)
 have m2:=rminus_pc r.y p.y (by omega) (by omega)
 have s1:=sum2_pc (r.x*p.x) (-(r.y*p.y)) (by omega) (by omega)
 have m3:=mulQ_pc r.y p.x (by omega) (by omega)
 have m4:=mulQ_pc r.x p.y (by omega) (by omega)
 have s2:=sum2_pc (r.y*p.x) (r.x*p.y) (by omega) (by omega)
 simp only [qc] at s1 s2
 refine PCi ?_
 conv in trip _ _=>cbv
 simp only [runT,RN,simprocAttr]
 simp (disch:=omega) only [↓RS,RZ,simprocAttr,pV,ptV]
 refine cX m1 ?_
 simp (disch:=omega) only [↓RS,RZ,simprocAttr,qV,rV]
 refine cX m2 ?_
 simp (disch:=omega) only [↓RS,RZ,simprocAttr,qV,rV]
 refine cX s1 ?_
 simp (disch:=omega) only [↓RS,RZ,simprocAttr,qV,rV]
 refine cX m3 ?_
 simp (disch:=omega) only [↓RS,RZ,simprocAttr,qV,rV]
 refine cX m4 ?_
 simp (disch:=omega) only [↓RS,RZ,simprocAttr,qV,rV]
 refine cX s2 ?_
 simp (disch:=omega) only [↓RS,RZ,simprocAttr,qV,rV,rotP,pV,ptV]
 try rfl
theorem apply_pc (r p:Pt) (h1:hp r≤2^20) (h2:hp p≤2^20) (hr:isRot r):PC prog 46 [pV r,pV p] (.tup [pV (rotP r p),.prim (.int .i64 (0))]):=by
 have w:=wrong1_pc r h1 hr
 have i:=image_pc r p h1 h2
 simp only [pc] at w
 refine PCi ?_
 conv in trip _ _=>cbv
 simp only [runT,RN,simprocAttr]
 simp (disch:=omega) only [↓RS,RZ,simprocAttr,pV,ptV]
 refine cX w ?_
 simp (disch:=omega) only [↓RS,RZ,simprocAttr]
 refine cX i ?_
 simp (disch:=omega) only [↓RS,RZ,simprocAttr,pV,ptV]
 try rfl
end Go.Av
