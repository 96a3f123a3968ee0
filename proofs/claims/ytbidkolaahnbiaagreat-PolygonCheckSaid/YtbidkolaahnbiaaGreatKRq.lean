/- Helping texts: Rq, Sa. -/
import Derived.Test.YtbidkolaahnbiaaGreatKFh
import Derived.Test.YtbidkolaahnbiaaGreatKRn
import Derived.Test.YtbidkolaahnbiaaGreatKCv
set_option linter.unusedSimpArgs false
set_option linter.unusedVariables false
set_option maxRecDepth 100000
set_option maxHeartbeats 16000000
namespace Go.Av
open Go.RowKit
open Go.Proofs.Tryz (prog)
theorem cmpQ_le0 {q:Rat}:cmpQ q 0≤0↔q≤0:=by
 unfold cmpQ
 by_cases h1:q<0
 ·rw [if_pos h1]
  exact ⟨fun _=>Rat.le_of_lt h1,fun _=>by decide⟩
 ·rw [if_neg h1]
  by_cases h2:0<q
  ·rw [if_pos h2]
   exact ⟨fun h=>absurd h (by decide),fun h=>absurd h2 (Rat.not_lt.2 h)⟩
  ·rw [if_neg h2]
   exact ⟨fun _=>Rat.not_lt.1 h2,fun _=>by decide⟩
theorem rbetween_iff {a b p:Pt}:rbetween a b p=true↔ar a b p=0∧dotP (a.sub p) (b.sub p)≤0:=by
 unfold rbetween
 rw [Bool.and_eq_true,decide_eq_true_eq,decide_eq_true_eq,orient_ar,cmpQ_le0]
theorem on_line {a b p:Pt} (hne:a≠b) (h:ar a b p=0):∃ m,p=pt a b m:=by
 by_cases hx:b.x-a.x=0
 ·have hy:b.y-a.y≠0:=fun hy=>hne (Pt.ext (by grind) (by grind))
  refine ⟨(p.y-a.y)/(b.y-a.y),Pt.ext ?_ ?_⟩
  ·unfold pt ar at*;simp only;grind
  ·unfold pt;simp only
   rw [Rat.div_mul_cancel hy];grind
 ·refine ⟨(p.x-a.x)/(b.x-a.x),Pt.ext ?_ ?_⟩
  ·unfold pt;simp only
   rw [Rat.div_mul_cancel hx];grind
  ·unfold pt ar at*;simp only
   have:(p.x-a.x)/(b.x-a.x)*(b.y-a.y)=p.y-a.y:=by
    rw [Rat.div_def]
    have:(b.x-a.x)*(b.x-a.x)⁻¹=1:=Rat.mul_inv_cancel _ hx
    grind
   grind
theorem sq_nn (x:Rat):0≤x*x:=by
 by_cases h:0≤x
 ·exact Rat.mul_nonneg h h
 ·have:=Rat.mul_nonneg (show 0≤ -x by grind) (show 0≤ -x by grind)
  grind
theorem sq_pos {x:Rat} (h:x≠0):0<x*x:=by
 by_cases h0:0<x
 ·exact Rat.mul_pos h0 h0
 ·have:=Rat.mul_pos (show 0< -x by grind) (show 0< -x by grind)
  grind
theorem len_pos {a b:Pt} (hne:a≠b):0<(b.x-a.x)*(b.x-a.x)+(b.y-a.y)*(b.y-a.y):=by
 have h1:=sq_nn (b.x-a.x)
 have h2:=sq_nn (b.y-a.y)
 by_cases hx:b.x-a.x=0
 ·have hy:b.y-a.y≠0:=fun hy=>hne (Pt.ext (by grind) (by grind))
  have:=sq_pos hy
  grind
 ·have:=sq_pos hx
  grind
theorem rbetween_onSeg {a b p:Pt} (hne:a≠b):rbetween a b p=true↔onSeg a b p:=by
 rw [rbetween_iff]
 have hl:=len_pos hne
 have dot_pt:∀ m,dotP (a.sub (pt a b m)) (b.sub (pt a b m))= -(m*(1-m)*((b.x-a.x)*(b.x-a.x)+(b.y-a.y)*(b.y-a.y))):=by
  intro m;unfold dotP Pt.sub pt;simp only;grind
 constructor
 ·rintro ⟨h1,h2⟩
  obtain ⟨m,rfl⟩:=on_line hne h1
  rw [dot_pt] at h2
  have h3:0≤m*(1-m):=by
   by_cases h:0≤m*(1-m)
   ·exact h
   ·have:=Rat.mul_pos (show 0< -(m*(1-m)) by grind) hl
    grind
  refine ⟨m,?_,?_,rfl⟩
  ·by_cases h:0≤m
   ·exact h
   ·have:=Rat.mul_pos (show 0< -m by grind) (show 0<1-m by grind)
    grind
  ·by_cases h:m≤1
   ·exact h
   ·have:=Rat.mul_pos (show 0<m by grind) (show 0<m-1 by grind)
    grind
 ·rintro ⟨m,m0,m1,rfl⟩
  refine ⟨by rw [ar_pt,ar_l,ar_r];grind,?_⟩
  rw [dot_pt]
  have h3:=Rat.mul_nonneg (Rat.mul_nonneg m0 (show 0≤1-m by grind)) (Rat.le_of_lt hl)
  grind
end Go.Av
namespace Go.Av
open Go.RowKit
open Go.Proofs.Tryz (prog)
theorem rvcheck_pc (X Y:Rt) (h1:X.le (2^32)) (h2:Y.le (2^32)):PC prog 83 [ptV X Y] (.prim (.int .i64 (if X=can X.val∧Y=can Y.val then 0 else 1))):=by
 have c1:=rcheckR_pc X h1
 have c2:=rcheckR_pc Y h2
 by_cases hx:X=can X.val
 ·rw [if_pos hx] at c1
  by_cases hy:Y=can Y.val
  ·rw [if_pos hy] at c2
   rw [if_pos ⟨hx,hy⟩]
   refine PCi ?_
   conv in trip _ _=>cbv
   simp only [runT,RN,simprocAttr]
   simp (disch:=omega) only [↓RS,RZ,simprocAttr,ptV]
   refine cX c1 ?_
   simp (disch:=omega) only [↓RS,RZ,simprocAttr]
   refine cX c2 ?_
   simp (disch:=omega) only [↓RS,RZ,simprocAttr]
  ·rw [if_neg hy] at c2
   rw [if_neg (fun h=>hy h.2)]
   refine PCi ?_
   conv in trip _ _=>cbv
   simp only [runT,RN,simprocAttr]
   simp (disch:=omega) only [↓RS,RZ,simprocAttr,ptV]
   refine cX c1 ?_
   simp (disch:=omega) only [↓RS,RZ,simprocAttr]
   refine cX c2 ?_
   simp (disch:=omega) only [↓RS,RZ,simprocAttr]
 ·rw [if_neg hx] at c1
  rw [if_neg (fun h=>hx h.1)]
  refine PCi ?_
  conv in trip _ _=>cbv
  simp only [runT,RN,simprocAttr]
  simp (disch:=omega) only [↓RS,RZ,simprocAttr,ptV]
  refine cX c1 ?_
  simp (disch:=omega) only [↓RS,RZ,simprocAttr]
theorem rvcmp_pc (p q:Pt) (h1:hp p≤2^32) (h2:hp q≤2^32):PC prog 161 [pV p,pV q] (.prim (.int .i64 (cmpP p q))):=by
 have:=hp_x p;have:=hp_y p;have:=hp_x q;have:=hp_y q
 have c1:=rcmpQ_pc p.x q.x (by omega) (by omega)
 have c2:=rcmpQ_pc p.y q.y (by omega) (by omega)
 by_cases hc:cmpQ p.x q.x=0
 ·rw [cmpP,if_pos hc]
  rw [hc] at c1
  refine PCi ?_
  conv in trip _ _=>cbv
  simp only [runT,RN,simprocAttr]
  simp (disch:=omega) only [↓RS,RZ,simprocAttr,pV,ptV]
  refine cX c1 ?_
  simp (disch:=omega) only [↓RS,RZ,simprocAttr]
  refine cX c2 ?_
  simp (disch:=omega) only [↓RS,RZ,simprocAttr]
 ·rw [cmpP,if_neg hc]
  refine PCi ?_
  conv in trip _ _=>cbv
  simp only [runT,RN,simprocAttr]
  simp (disch:=omega) only [↓RS,RZ,simprocAttr,pV,ptV]
  refine cX c1 ?_
  simp (disch:=omega) only [↓RS,RZ,simprocAttr]
theorem rvadd_pc (p q:Pt) (h1:hp p≤2^32) (h2:hp q≤2^32):PC prog 273 [pV p,pV q] (pV (p.add q)):=by
 have:=hp_x p;have:=hp_y p;have:=hp_x q;have:=hp_y q
 have s1:=raddQ_pc p.x q.x (by omega) (by omega)
 have s2:=raddQ_pc p.y q.y (by omega) (by omega)
 refine PCi ?_
 conv in trip _ _=>cbv
 simp only [runT,RN,simprocAttr]
 simp (disch:=omega) only [↓RS,RZ,simprocAttr,pV,ptV]
 refine cX s1 ?_
 simp (disch:=omega) only [↓RS,RZ,simprocAttr,qV,rV]
 refine cX s2 ?_
 simp (disch:=omega) only [↓RS,RZ,simprocAttr,qV,rV,pV,ptV]
 try rfl
theorem rvscale_pc (p:Pt) (r:Rat) (h1:hp p≤2^32) (h2:ht r≤2^32):PC prog 274 [pV p,qV r] (pV (p.smul r)):=by
 have:=hp_x p;have:=hp_y p
 have s1:=rmulQ_pc p.x r (by omega) (by omega)
 have s2:=rmulQ_pc p.y r (by omega) (by omega)
 refine PCi ?_
 conv in trip _ _=>cbv
 simp only [runT,RN,simprocAttr]
 simp (disch:=omega) only [↓RS,RZ,simprocAttr,pV,ptV,qV,rV]
 refine cX s1 ?_
 simp (disch:=omega) only [↓RS,RZ,simprocAttr,qV,rV]
 refine cX s2 ?_
 simp (disch:=omega) only [↓RS,RZ,simprocAttr,qV,rV,pV,ptV]
 try rfl
theorem rquoQ_pc (p q:Rat) (hp:ht p≤2^32) (hq:ht q≤2^32) (h:q≠0):PC prog 217 [qV p,qV q] (.tup [qV (p/q),.prim (.int .i64 (0))]):=by
 have h1:=rquoR_pc (can p) (can q) (can_le hp) (can_le hq)
 rwa [can_val,can_val,if_neg h] at h1
theorem rscheck_pc (s:Sg) (h:hs s≤2^30):PC prog 153 [sgV s] (.prim (.int .i64 (if cmpP s.a s.b=0 then 12 else 0))):=by
 have:=hs_a s;have:=hs_b s
 have c:=rvcmp_pc s.a s.b (by omega) (by omega)
 by_cases hc:cmpP s.a s.b=0
 ·rw [if_pos hc]
  rw [hc] at c
  refine PCi ?_
  conv in trip _ _=>cbv
  simp only [runT,RN,simprocAttr]
  simp (disch:=omega) only [↓RS,RZ,simprocAttr,sgV,s4V]
  refine cX c ?_
  simp (disch:=omega) only [↓RS,RZ,simprocAttr]
 ·rw [if_neg hc]
  refine PCi ?_
  conv in trip _ _=>cbv
  simp only [runT,RN,simprocAttr]
  simp (disch:=omega) only [↓RS,RZ,simprocAttr,sgV,s4V]
  refine cX c ?_
  simp (disch:=omega) only [↓RS,RZ,simprocAttr]
theorem rscan_pc (p:Pt) (h:hp p≤2^30):PC prog 272 [pV p] (pV p):=by
 have h0:=hp_pt0
 have hh:=rvadd_pc p pt0 (by omega) (by omega)
 rw [add_pt0,pV0] at hh
 refine PCi ?_
 conv in trip _ _=>cbv
 simp only [runT,RN,simprocAttr]
 simp (disch:=omega) only [↓RS,RZ,simprocAttr,pV,ptV]
 refine cX hh ?_
 simp (disch:=omega) only [↓RS,RZ,simprocAttr,pV,ptV]
 try rfl
theorem rsorder_pc (s:Sg) (h:hs s≤2^30):PC prog 218 [sgV s] (sgV s.order):=by
 have:=hs_a s;have:=hs_b s
 have c1:=rscan_pc s.a (by omega)
 have c2:=rscan_pc s.b (by omega)
 have c:=rvcmp_pc s.a s.b (by omega) (by omega)
 by_cases hc:0<cmpP s.a s.b
 ·rw [Sg.order,if_pos hc]
  refine PCi ?_
  conv in trip _ _=>cbv
  simp only [runT,RN,simprocAttr]
  simp (disch:=omega) only [↓RS,RZ,simprocAttr,sgV,s4V]
  refine cX c ?_
  simp (disch:=omega) only [↓RS,RZ,simprocAttr,sgV,s4V]
  refine cX c2 ?_
  simp (disch:=omega) only [↓RS,RZ,simprocAttr,pV,ptV]
  refine cX c1 ?_
  simp (disch:=omega) only [↓RS,RZ,simprocAttr,pV,ptV,sgV,s4V]
  try rfl
 ·rw [Sg.order,if_neg hc]
  refine PCi ?_
  conv in trip _ _=>cbv
  simp only [runT,RN,simprocAttr]
  simp (disch:=omega) only [↓RS,RZ,simprocAttr,sgV,s4V]
  refine cX c ?_
  simp (disch:=omega) only [↓RS,RZ,simprocAttr,sgV,s4V]
  refine cX c1 ?_
  simp (disch:=omega) only [↓RS,RZ,simprocAttr,pV,ptV]
  refine cX c2 ?_
  simp (disch:=omega) only [↓RS,RZ,simprocAttr,pV,ptV,sgV,s4V]
  try rfl
def lexIn (s:Sg) (p:Pt):Bool:=decide (cmpP s.a p≤0)&&decide (cmpP p s.b≤0)
theorem rlexIn_pc (s:Sg) (p:Pt) (h:hs s≤2^30) (hq:hp p≤2^30):PC prog 286 [sgV s,pV p] (.prim (.bool (lexIn s p))):=by
 have:=hs_a s;have:=hs_b s
 have c1:=rvcmp_pc s.a p (by omega) (by omega)
 have c2:=rvcmp_pc p s.b (by omega) (by omega)
 unfold lexIn
 by_cases h1:cmpP s.a p≤0
 ·by_cases h2:cmpP p s.b≤0
  ·rw [decide_eq_true h1,decide_eq_true h2]
   refine PCi ?_
   conv in trip _ _=>cbv
   simp only [runT,RN,simprocAttr]
   simp (disch:=omega) only [↓RS,RZ,simprocAttr,sgV,s4V,pV,ptV]
   refine cX c1 ?_
   simp (disch:=omega) only [↓RS,RZ,simprocAttr]
   refine cX c2 ?_
   simp (disch:=omega) only [↓RS,RZ,simprocAttr]
  ·rw [decide_eq_true h1,decide_eq_false h2]
   refine PCi ?_
   conv in trip _ _=>cbv
   simp only [runT,RN,simprocAttr]
   simp (disch:=omega) only [↓RS,RZ,simprocAttr,sgV,s4V,pV,ptV]
   refine cX c1 ?_
   simp (disch:=omega) only [↓RS,RZ,simprocAttr]
   refine cX c2 ?_
   simp (disch:=omega) only [↓RS,RZ,simprocAttr]
 ·rw [decide_eq_false h1]
  refine PCi ?_
  conv in trip _ _=>cbv
  simp only [runT,RN,simprocAttr]
  simp (disch:=omega) only [↓RS,RZ,simprocAttr,sgV,s4V,pV,ptV]
  refine cX c1 ?_
  simp (disch:=omega) only [↓RS,RZ,simprocAttr]
theorem rgreater_pc (p q:Pt) (h1:hp p≤2^30) (h2:hp q≤2^30):PC prog 284 [pV p,pV q] (pV (greater p q)):=by
 have c:=rvcmp_pc p q (by omega) (by omega)
 by_cases h0:cmpP p q<0
 ·rw [greater,if_pos h0]
  refine PCi ?_
  conv in trip _ _=>cbv
  simp only [runT,RN,simprocAttr]
  simp (disch:=omega) only [↓RS,RZ,simprocAttr,pV,ptV]
  refine cX c ?_
  simp (disch:=omega) only [↓RS,RZ,simprocAttr,pV,ptV]
 ·rw [greater,if_neg h0]
  refine PCi ?_
  conv in trip _ _=>cbv
  simp only [runT,RN,simprocAttr]
  simp (disch:=omega) only [↓RS,RZ,simprocAttr,pV,ptV]
  refine cX c ?_
  simp (disch:=omega) only [↓RS,RZ,simprocAttr,pV,ptV]
theorem rlesser_pc (p q:Pt) (h1:hp p≤2^30) (h2:hp q≤2^30):PC prog 285 [pV p,pV q] (pV (lesser p q)):=by
 have c:=rvcmp_pc p q (by omega) (by omega)
 by_cases h0:cmpP p q<0
 ·rw [lesser,if_pos h0]
  refine PCi ?_
  conv in trip _ _=>cbv
  simp only [runT,RN,simprocAttr]
  simp (disch:=omega) only [↓RS,RZ,simprocAttr,pV,ptV]
  refine cX c ?_
  simp (disch:=omega) only [↓RS,RZ,simprocAttr,pV,ptV]
 ·rw [lesser,if_neg h0]
  refine PCi ?_
  conv in trip _ _=>cbv
  simp only [runT,RN,simprocAttr]
  simp (disch:=omega) only [↓RS,RZ,simprocAttr,pV,ptV]
  refine cX c ?_
  simp (disch:=omega) only [↓RS,RZ,simprocAttr,pV,ptV]
def rmeetS (s t:Sg):Option Sg:=
 if cross s.dir t.dir=0 then
  if orient s.a s.b t.a≠0 then none else if 0<cmpP (greater s.a t.a) (lesser s.b t.b) then none else some ⟨greater s.a t.a,lesser s.b t.b⟩
 else if lexIn s (s.a.add (s.dir.smul (cross (t.a.sub s.a) t.dir/cross s.dir t.dir)))&&lexIn t (s.a.add (s.dir.smul (cross (t.a.sub s.a) t.dir/cross s.dir t.dir))) then
  some ⟨s.a.add (s.dir.smul (cross (t.a.sub s.a) t.dir/cross s.dir t.dir)),s.a.add (s.dir.smul (cross (t.a.sub s.a) t.dir/cross s.dir t.dir))⟩ else none
def rmeetM (s t:Sg):Option Sg:=if s.ok∧t.ok then rmeetS s.order t.order else none
theorem rSmeet_pc (s t:Sg) (h1:hs s≤2^20) (h2:hs t≤2^20):PC prog 238 [sgV s,sgV t] (.tup [sgV ((rmeetM s t).getD sg0),.prim (.bool (rmeetM s t).isSome),.prim (.int .i64 (if s.ok∧t.ok then 0 else 12))]):=by
 have k1:=rscheck_pc s (by omega)
 have k2:=rscheck_pc t (by omega)
 by_cases hs1:cmpP s.a s.b=0
 ·rw [if_pos hs1] at k1
  rw [rmeetM,if_neg (fun h=>h.1 hs1),if_neg (fun h=>h.1 hs1),Option.getD_none,sgV0,Option.isSome_none]
  refine PCi ?_
  conv in trip _ _=>cbv
  simp only [runT,RN,simprocAttr]
  simp (disch:=omega) only [↓RS,RZ,simprocAttr,sgV,s4V]
  refine cX k1 ?_
  simp (disch:=omega) only [↓RS,RZ,simprocAttr]
 by_cases hs2:cmpP t.a t.b=0
 ·rw [if_neg hs1] at k1
  rw [if_pos hs2] at k2
  rw [rmeetM,if_neg (fun h=>h.2 hs2),if_neg (fun h=>h.2 hs2),Option.getD_none,sgV0,Option.isSome_none]
  refine PCi ?_
  conv in trip _ _=>cbv
  simp only [runT,RN,simprocAttr]
  simp (disch:=omega) only [↓RS,RZ,simprocAttr,sgV,s4V]
  refine cX k1 ?_
  simp (disch:=omega) only [↓RS,RZ,simprocAttr]
  refine cX k2 ?_
  simp (disch:=omega) only [↓RS,RZ,simprocAttr]
 rw [if_neg hs1] at k1
 rw [if_neg hs2] at k2
 have hok:s.ok∧t.ok:=⟨hs1,hs2⟩
 rw [rmeetM,if_pos hok,if_pos hok]
 have o1:=rsorder_pc s (by omega)
 have o2:=rsorder_pc t (by omega)
 have b1:=hs_order s;have b2:=hs_order t
 rw [←b1] at h1
 rw [←b2] at h2
 clear b1 b2
 generalize s.order=u at*
 generalize t.order=v at*
 have a1:=hp_dir u;have a2:=hp_dir v;have a3:=hp_sub v.a u.a;have a4:=hs_a u;have a5:=hs_a v;have a6:=hs_b u;have a7:=hs_b v
 have a8:=ht_cross u.dir v.dir
 have a9:=ht_cross (v.a.sub u.a) v.dir
 have a12:=ht_div (cross (v.a.sub u.a) v.dir) (cross u.dir v.dir)
 have a13:=hp_smul u.dir (cross (v.a.sub u.a) v.dir/cross u.dir v.dir)
 have a14:=hp_add u.a (u.dir.smul (cross (v.a.sub u.a) v.dir/cross u.dir v.dir))
 have b7:=hp_greater u.a v.a;have b8:=hp_lesser u.b v.b
 have d1:=rvsub_pc u.b u.a (by omega) (by omega)
 have d2:=rvsub_pc v.b v.a (by omega) (by omega)
 have d3:=rvsub_pc v.a u.a (by omega) (by omega)
 have c1:=rvcross_pc u.dir v.dir (by omega) (by omega)
 have c2:=rvcross_pc (v.a.sub u.a) v.dir (by omega) (by omega)
 have g1:=rsignQ_pc (cross u.dir v.dir) (by omega)
 have r1:=rorient_pc u.a u.b v.a (by omega) (by omega) (by omega)
 have e1:=rgreater_pc u.a v.a (by omega) (by omega)
 have e2:=rlesser_pc u.b v.b (by omega) (by omega)
 have e3:=rvcmp_pc (greater u.a v.a) (lesser u.b v.b) (by omega) (by omega)
 have q1:=fun h=>rquoQ_pc (cross (v.a.sub u.a) v.dir) (cross u.dir v.dir) (by omega) (by omega) h
 have m1:=rvscale_pc u.dir (cross (v.a.sub u.a) v.dir/cross u.dir v.dir) (by omega) (by omega)
 have m2:=rvadd_pc u.a (u.dir.smul (cross (v.a.sub u.a) v.dir/cross u.dir v.dir)) (by omega) (by omega)
 have l1:=rlexIn_pc u (u.a.add (u.dir.smul (cross (v.a.sub u.a) v.dir/cross u.dir v.dir))) (by omega) (by omega)
 have l2:=rlexIn_pc v (u.a.add (u.dir.smul (cross (v.a.sub u.a) v.dir/cross u.dir v.dir))) (by omega) (by omega)
 have z1:cmpQ (cross u.dir v.dir) 0=0↔cross u.dir v.dir=0:=cmpQ_zero
 clear a1 a2 a3 a4 a5 a6 a7 a8 a9 a12 a13 a14 b7 b8 h1 h2 hok
 have d1:PC prog 138 [pV u.b,pV u.a] (pV u.dir):=d1
 have d2:PC prog 138 [pV v.b,pV v.a] (pV v.dir):=d2
 unfold rmeetS
 generalize u.dir=du at*
 generalize v.dir=dv at*
 refine PCi ?_
 conv in trip _ _=>cbv
 simp only [runT,RN,simprocAttr]
 simp (disch:=omega) only [↓RS,RZ,simprocAttr,sgV,s4V]
 refine cX k1 ?_
 simp (disch:=omega) only [↓RS,RZ,simprocAttr]
 refine cX k2 ?_
 simp (disch:=omega) only [↓RS,RZ,simprocAttr,sgV,s4V]
 refine cX o1 ?_
 simp (disch:=omega) only [↓RS,RZ,simprocAttr,sgV,s4V]
 refine cX o2 ?_
 simp (disch:=omega) only [↓RS,RZ,simprocAttr,sgV,s4V]
 refine cX d1 ?_
 simp (disch:=omega) only [↓RS,RZ,simprocAttr,pV,ptV]
 refine cX d2 ?_
 simp (disch:=omega) only [↓RS,RZ,simprocAttr,pV,ptV]
 refine cX c1 ?_
 simp (disch:=omega) only [↓RS,RZ,simprocAttr,qV,rV]
 refine cX g1 ?_
 by_cases hd:cross du dv=0
 ·have hz:=z1.2 hd
  rw [if_pos hd]
  simp (disch:=omega) only [↓RS,RZ,simprocAttr]
  refine cX r1 ?_
  by_cases ho:orient u.a u.b v.a=0
  ·rw [if_neg (fun h=>h ho)]
   simp (disch:=omega) only [↓RS,RZ,simprocAttr,sgV,s4V]
   refine cX e1 ?_
   simp (disch:=omega) only [↓RS,RZ,simprocAttr,pV,ptV]
   refine cX e2 ?_
   simp (disch:=omega) only [↓RS,RZ,simprocAttr,pV,ptV]
   refine cX e3 ?_
   by_cases hc:0<cmpP (greater u.a v.a) (lesser u.b v.b)
   ·rw [if_pos hc]
    simp (disch:=omega) only [↓RS,RZ,simprocAttr,Option.getD_none,Option.isSome_none,sg0,pt0,can_zero]
    try rfl
   ·rw [if_neg hc]
    simp (disch:=omega) only [↓RS,RZ,simprocAttr,pV,ptV,Option.getD_some,Option.isSome_some]
    try rfl
  ·rw [if_pos ho]
   simp (disch:=omega) only [↓RS,RZ,simprocAttr,Option.getD_none,Option.isSome_none,sg0,pt0,can_zero]
   try rfl
 ·have hz:cmpQ (cross du dv) 0≠0:=fun h=>hd (z1.1 h)
  rw [if_neg hd]
  have q1:=q1 hd
  generalize cross (v.a.sub u.a) dv/cross du dv=k at*
  generalize hP:u.a.add (du.smul k)=P at*
  simp (disch:=omega) only [↓RS,RZ,simprocAttr]
  refine cX d3 ?_
  simp (disch:=omega) only [↓RS,RZ,simprocAttr,pV,ptV]
  refine cX c2 ?_
  simp (disch:=omega) only [↓RS,RZ,simprocAttr,qV,rV]
  refine cX q1 ?_
  simp (disch:=omega) only [↓RS,RZ,simprocAttr,qV,rV]
  refine cX m1 ?_
  simp (disch:=omega) only [↓RS,RZ,simprocAttr,pV,ptV]
  refine cX m2 ?_
  simp (disch:=omega) only [↓RS,RZ,simprocAttr,pV,ptV]
  refine cX l1 ?_
  cases hl1:lexIn u P with
  |false=>
   rw [if_neg (by simp)]
   simp (disch:=omega) only [↓RS,RZ,simprocAttr,Option.getD_none,Option.isSome_none,sg0,pt0,can_zero]
   try rfl
  |true=>
   simp (disch:=omega) only [↓RS,RZ,simprocAttr]
   refine cX l2 ?_
   cases hl2:lexIn v P with
   |false=>
    rw [if_neg (by simp)]
    simp (disch:=omega) only [↓RS,RZ,simprocAttr,Option.getD_none,Option.isSome_none,sg0,pt0,can_zero]
    try rfl
   |true=>
    rw [if_pos (by simp)]
    simp (disch:=omega) only [↓RS,RZ,simprocAttr,pV,ptV,Option.getD_some,Option.isSome_some]
    try rfl
def rcross (s t:Sg):Bool:=decide (orient s.a s.b t.a*orient s.a s.b t.b<0)&&decide (orient t.a t.b s.a*orient t.a t.b s.b<0)
theorem sign_prod {x y:Int} (h1: -1≤x∧x≤1) (h2: -1≤y∧y≤1):x*y= -1∨x*y=0∨x*y=1:=by
 have hx:x= -1∨x=0∨x=1:=by omega
 have hy:y= -1∨y=0∨y=1:=by omega
 rcases hx with rfl|rfl|rfl<;>rcases hy with rfl|rfl|rfl<;>simp
theorem orient_abs (a b c:Pt): -1≤orient a b c∧orient a b c≤1:=cmpQ_abs _ _
end Go.Av
