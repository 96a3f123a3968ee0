/- Helping texts: Cv, Cw, Cy, Cz. -/
import Derived.Test.YtkmlhdfpcjkekaaGreatKCs
set_option linter.unusedSimpArgs false
set_option linter.unusedVariables false
set_option maxRecDepth 100000
set_option maxHeartbeats 16000000
namespace Go.Av
open Go.RowKit
open Go.Proofs.Tryz (prog)
def orient (a b c:Pt):Int:=cmpQ (cross (b.sub a) (c.sub a)) 0
theorem cmpQ_abs (p q:Rat): -1≤cmpQ p q∧cmpQ p q≤1:=by unfold cmpQ;(repeat' split)<;>omega
theorem cmpP_abs (p q:Pt): -1≤cmpP p q∧cmpP p q≤1:=by unfold cmpP;split<;>exact cmpQ_abs _ _
theorem orient_pc (a b c:Pt) (h1:hp a≤2^26) (h2:hp b≤2^26) (h3:hp c≤2^26):PC prog 78 [pV a,pV b,pV c] (.prim (.int .i64 (orient a b c))):=by
 have a1:=hp_sub b a;have a2:=hp_sub c a;have a3:=ht_cross (b.sub a) (c.sub a)
 refine PCi ?_
 conv in trip _ _=>cbv
 simp only [runT,RN,simprocAttr]
 have s1:=vsub_pc b a (by omega) (by omega)
 have s2:=vsub_pc c a (by omega) (by omega)
 have s3:=vcross_pc (b.sub a) (c.sub a) (by omega) (by omega)
 have s4:=signQ_pc (cross (b.sub a) (c.sub a)) (by omega)
 simp (disch:=omega) only [↓RS,RZ,simprocAttr,pV,ptV]
 refine cX s1 ?_
 simp (disch:=omega) only [↓RS,RZ,simprocAttr,pV,ptV]
 refine cX s2 ?_
 simp (disch:=omega) only [↓RS,RZ,simprocAttr,pV,ptV]
 refine cX s3 ?_
 simp (disch:=omega) only [↓RS,RZ,simprocAttr,qV,rV]
 refine cX s4 ?_
 simp (disch:=omega) only [↓RS,RZ,simprocAttr]
 try rfl
def between (a b p:Pt):Bool:=decide (orient a b p=0)&&(decide (0≤cmpP a p*cmpP p b)&&(decide (cmpP a b≠0)||decide (cmpP a p=0)))
theorem between_pc (a b p:Pt) (h1:hp a≤2^26) (h2:hp b≤2^26) (h3:hp p≤2^26):PC prog 140 [pV a,pV b,pV p] (.prim (.bool (between a b p))):=by
 refine PCi ?_
 conv in trip _ _=>cbv
 simp only [runT,RN,simprocAttr]
 have s1:=orient_pc a b p h1 h2 h3
 have c1:=vcmp_pc a p (by omega) (by omega)
 have c2:=vcmp_pc p b (by omega) (by omega)
 have c3:=vcmp_pc a b (by omega) (by omega)
 have b1:=cmpP_abs a p
 have b2:=cmpP_abs p b
 unfold between
 generalize orient a b p=o at*
 generalize cmpP a p=x at*
 generalize cmpP p b=y at*
 generalize cmpP a b=z at*
 have hxy:x*y= -1∨x*y=0∨x*y=1:=by
  have hx:x= -1∨x=0∨x=1:=by omega
  have hy:y= -1∨y=0∨y=1:=by omega
  rcases hx with rfl|rfl|rfl<;>rcases hy with rfl|rfl|rfl<;>simp
 by_cases ho:o=0
 ·subst ho
  by_cases hx:0≤x*y
  ·by_cases hz:z=0
   ·simp (disch:=omega) only [↓RS,RZ,simprocAttr,pV,ptV]
    refine cX s1 ?_
    simp (disch:=omega) only [↓RS,RZ,simprocAttr,pV,ptV]
    refine cX c1 ?_
    simp (disch:=omega) only [↓RS,RZ,simprocAttr,pV,ptV]
    refine cX c2 ?_
    simp (disch:=omega) only [↓RS,RZ,simprocAttr,pV,ptV]
    refine cX c3 ?_
    simp (disch:=omega) only [↓RS,RZ,simprocAttr,pV,ptV]
    refine cX c1 ?_
    by_cases hx0:x=0
    ·simp (disch:=omega) only [↓RS,RZ,simprocAttr]
     try simp [hx0,hz,hx]
    ·simp (disch:=omega) only [↓RS,RZ,simprocAttr]
     try simp [hx0,hz,hx]
   ·simp (disch:=omega) only [↓RS,RZ,simprocAttr,pV,ptV]
    refine cX s1 ?_
    simp (disch:=omega) only [↓RS,RZ,simprocAttr,pV,ptV]
    refine cX c1 ?_
    simp (disch:=omega) only [↓RS,RZ,simprocAttr,pV,ptV]
    refine cX c2 ?_
    simp (disch:=omega) only [↓RS,RZ,simprocAttr,pV,ptV]
    refine cX c3 ?_
    simp (disch:=omega) only [↓RS,RZ,simprocAttr,pV,ptV]
    try simp [hz,hx]
  ·simp (disch:=omega) only [↓RS,RZ,simprocAttr,pV,ptV]
   refine cX s1 ?_
   simp (disch:=omega) only [↓RS,RZ,simprocAttr,pV,ptV]
   refine cX c1 ?_
   simp (disch:=omega) only [↓RS,RZ,simprocAttr,pV,ptV]
   refine cX c2 ?_
   simp (disch:=omega) only [↓RS,RZ,simprocAttr,pV,ptV]
   try simp [hx]
 ·simp (disch:=omega) only [↓RS,RZ,simprocAttr,pV,ptV]
  refine cX s1 ?_
  simp (disch:=omega) only [↓RS,RZ,simprocAttr]
  try simp [ho]
end Go.Av
namespace Go.Av
open Go.RowKit
open Go.Proofs.Tryz (prog)
structure Sg where
 a:Pt
 b:Pt
theorem Sg.ext {p q:Sg} (h1:p.a=q.a) (h2:p.b=q.b):p=q:=by cases p;cases q;simp at h1 h2;simp [h1,h2]
instance:DecidableEq Sg:=fun a b=>decidable_of_iff (a.a=b.a∧a.b=b.b) ⟨fun h=>Sg.ext h.1 h.2,fun h=>by subst h;exact ⟨rfl,rfl⟩⟩
def s4V (A B C D:Rt):V:= .agg [.prim (.bool A.neg),.prim (.string (bs (A.num))),.prim (.string (bs (A.den))),.prim (.bool B.neg),.prim (.string (bs (B.num))),.prim (.string (bs (B.den))),.prim (.bool C.neg),.prim (.string (bs (C.num))),.prim (.string (bs (C.den))),.prim (.bool D.neg),.prim (.string (bs (D.num))),.prim (.string (bs (D.den)))]
def sgV (s:Sg):V:=s4V (can s.a.x) (can s.a.y) (can s.b.x) (can s.b.y)
def hs (s:Sg):Nat:=max (hp s.a) (hp s.b)
theorem hs_a (s:Sg):hp s.a≤hs s:=Nat.le_max_left _ _
theorem hs_b (s:Sg):hp s.b≤hs s:=Nat.le_max_right _ _
theorem hs_mk {a b:Pt} {k:Nat} (h1:hp a≤k) (h2:hp b≤k):hs ⟨a,b⟩≤k:=Nat.max_le.2 ⟨h1,h2⟩
def pt0:Pt:=⟨0,0⟩
theorem add_pt0 (p:Pt):p.add pt0=p:=Pt.ext (Rat.add_zero _) (Rat.add_zero _)
theorem ht_zero:ht 0≤1:= @ht_int 0 (by omega)
theorem hp_pt0:hp pt0≤1:=hp_mk ht_zero ht_zero
theorem pV0:pV pt0= .agg [.prim (.bool false),.prim (.string (bs ([]))),.prim (.string (bs ([]))),.prim (.bool false),.prim (.string (bs ([]))),.prim (.string (bs ([])))]:=by simp only [pV,ptV,pt0,can_zero]
theorem scan_pc (p:Pt) (h:hp p≤2^30):PC prog 61 [pV p] (pV p):=by
 have h0:=hp_pt0
 refine PCi ?_
 conv in trip _ _=>cbv
 simp only [runT,RN,simprocAttr]
 have hh:=vadd_pc p pt0 (by omega) (by omega)
 rw [add_pt0,pV0] at hh
 simp (disch:=omega) only [↓RS,RZ,simprocAttr,pV,ptV]
 refine cX hh ?_
 simp (disch:=omega) only [↓RS,RZ,simprocAttr,pV,ptV]
 try rfl
theorem scheck_pc (s:Sg) (h:hs s≤2^30):PC prog 62 [sgV s] (.prim (.int .i64 (if cmpP s.a s.b=0 then 12 else 0))):=by
 have:=hs_a s;have:=hs_b s
 refine PCi ?_
 conv in trip _ _=>cbv
 simp only [runT,RN,simprocAttr]
 have c:=vcmp_pc s.a s.b (by omega) (by omega)
 by_cases hc:cmpP s.a s.b=0
 ·rw [if_pos hc]
  rw [hc] at c
  simp (disch:=omega) only [↓RS,RZ,simprocAttr,sgV,s4V]
  refine cX c ?_
  simp (disch:=omega) only [↓RS,RZ,simprocAttr]
 ·rw [if_neg hc]
  simp (disch:=omega) only [↓RS,RZ,simprocAttr,sgV,s4V]
  refine cX c ?_
  simp (disch:=omega) only [↓RS,RZ,simprocAttr]
def Sg.order (s:Sg):Sg:=if 0<cmpP s.a s.b then ⟨s.b,s.a⟩ else s
theorem hs_order (s:Sg):hs s.order=hs s:=by unfold Sg.order;split<;>simp [hs,Nat.max_comm]
theorem sorder_pc (s:Sg) (h:hs s≤2^30):PC prog 16 [sgV s] (sgV s.order):=by
 have:=hs_a s;have:=hs_b s
 refine PCi ?_
 conv in trip _ _=>cbv
 simp only [runT,RN,simprocAttr]
 have c1:=scan_pc s.a (by omega)
 have c2:=scan_pc s.b (by omega)
 have c:=vcmp_pc s.a s.b (by omega) (by omega)
 by_cases hc:0<cmpP s.a s.b
 ·rw [Sg.order,if_pos hc]
  simp (disch:=omega) only [↓RS,RZ,simprocAttr,sgV,s4V]
  refine cX c1 ?_
  simp (disch:=omega) only [↓RS,RZ,simprocAttr,pV,ptV]
  refine cX c2 ?_
  simp (disch:=omega) only [↓RS,RZ,simprocAttr,pV,ptV]
  refine cX c ?_
  simp (disch:=omega) only [↓RS,RZ,simprocAttr,sgV,s4V]
  try rfl
 ·rw [Sg.order,if_neg hc]
  simp (disch:=omega) only [↓RS,RZ,simprocAttr,sgV,s4V]
  refine cX c1 ?_
  simp (disch:=omega) only [↓RS,RZ,simprocAttr,pV,ptV]
  refine cX c2 ?_
  simp (disch:=omega) only [↓RS,RZ,simprocAttr,pV,ptV]
  refine cX c ?_
  simp (disch:=omega) only [↓RS,RZ,simprocAttr,sgV,s4V]
  try rfl
def Sg.dir (s:Sg):Pt:=s.b.sub s.a
theorem hp_dir (s:Sg):hp s.dir≤2*hs s+1:=by have:=hp_sub s.b s.a;have:=hs_a s;have:=hs_b s;unfold Sg.dir;omega
theorem sdir_pc (s:Sg) (h:hs s≤2^30):PC prog 122 [sgV s] (pV s.dir):=by
 have:=hs_a s;have:=hs_b s
 refine PCi ?_
 conv in trip _ _=>cbv
 simp only [runT,RN,simprocAttr]
 have c:=vsub_pc s.b s.a (by omega) (by omega)
 simp (disch:=omega) only [↓RS,RZ,simprocAttr,sgV,s4V]
 refine cX c ?_
 simp (disch:=omega) only [↓RS,RZ,simprocAttr,pV,ptV]
 try rfl
def unit (t:Rat):Bool:=decide (0≤cmpQ t 0)&&decide (cmpQ t 1≤0)
theorem unit_pc (t:Rat) (h:ht t≤2^30):PC prog 125 [qV t] (.prim (.bool (unit t))):=by
 refine PCi ?_
 conv in trip _ _=>cbv
 simp only [runT,RN,simprocAttr]
 have h1:= @ht_int 1 (by omega)
 have s:=signQ_pc t (by omega)
 have o:=ofQ_pc 1 (by omega) (by omega)
 have c:=cmpQ_pc t ((1:Int):Rat) (by omega) (by omega)
 have e:((1:Int):Rat)=1:=rfl
 rw [e] at c
 unfold unit
 by_cases h0:0≤cmpQ t 0
 ·simp (disch:=omega) only [↓RS,RZ,simprocAttr,qV,rV]
  refine cX s ?_
  simp (disch:=omega) only [↓RS,RZ,simprocAttr,qV,rV]
  refine cX o ?_
  simp (disch:=omega) only [↓RS,RZ,simprocAttr,qV,rV]
  refine cX c ?_
  simp (disch:=omega) only [↓RS,RZ,simprocAttr]
  try rfl
 ·simp (disch:=omega) only [↓RS,RZ,simprocAttr,qV,rV]
  refine cX s ?_
  simp (disch:=omega) only [↓RS,RZ,simprocAttr]
  try simp [h0]
def greater (p q:Pt):Pt:=if cmpP p q<0 then q else p
def lesser (p q:Pt):Pt:=if cmpP p q<0 then p else q
theorem greater_pc (p q:Pt) (h1:hp p≤2^30) (h2:hp q≤2^30):PC prog 126 [pV p,pV q] (pV (greater p q)):=by
 refine PCi ?_
 conv in trip _ _=>cbv
 simp only [runT,RN,simprocAttr]
 have c:=vcmp_pc p q (by omega) (by omega)
 by_cases h0:cmpP p q<0
 ·rw [greater,if_pos h0]
  simp (disch:=omega) only [↓RS,RZ,simprocAttr,pV,ptV]
  refine cX c ?_
  simp (disch:=omega) only [↓RS,RZ,simprocAttr,pV,ptV]
 ·rw [greater,if_neg h0]
  simp (disch:=omega) only [↓RS,RZ,simprocAttr,pV,ptV]
  refine cX c ?_
  simp (disch:=omega) only [↓RS,RZ,simprocAttr,pV,ptV]
theorem lesser_pc (p q:Pt) (h1:hp p≤2^30) (h2:hp q≤2^30):PC prog 127 [pV p,pV q] (pV (lesser p q)):=by
 refine PCi ?_
 conv in trip _ _=>cbv
 simp only [runT,RN,simprocAttr]
 have c:=vcmp_pc p q (by omega) (by omega)
 by_cases h0:cmpP p q<0
 ·rw [lesser,if_pos h0]
  simp (disch:=omega) only [↓RS,RZ,simprocAttr,pV,ptV]
  refine cX c ?_
  simp (disch:=omega) only [↓RS,RZ,simprocAttr,pV,ptV]
 ·rw [lesser,if_neg h0]
  simp (disch:=omega) only [↓RS,RZ,simprocAttr,pV,ptV]
  refine cX c ?_
  simp (disch:=omega) only [↓RS,RZ,simprocAttr,pV,ptV]
end Go.Av
namespace Go.Av
open Go.RowKit
open Go.Proofs.Tryz (prog)
theorem cmpQ_zero {p q:Rat}:cmpQ p q=0↔p=q:=by
 unfold cmpQ
 constructor
 ·intro h
  split at h
  ·omega
  ·split at h
   ·omega
   ·rename_i h1 h2
    exact Rat.le_antisymm (Rat.not_lt.1 h2) (Rat.not_lt.1 h1)
 ·rintro rfl
  rw [if_neg (Rat.lt_irrefl),if_neg (Rat.lt_irrefl)]
def sg0:Sg:=⟨pt0,pt0⟩
theorem sgV0:sgV sg0= .agg [.prim (.bool false),.prim (.string (bs ([]))),.prim (.string (bs ([]))),.prim (.bool false),.prim (.string (bs ([]))),.prim (.string (bs ([]))),.prim (.bool false),.prim (.string (bs ([]))),.prim (.string (bs ([]))),.prim (.bool false),.prim (.string (bs ([]))),.prim (.string (bs ([])))]:=by simp only [sgV,s4V,sg0,pt0,can_zero]
def meetS (s t:Sg):Option Sg:=
 if cross s.dir t.dir≠0 then
  if unit (cross (t.a.sub s.a) t.dir/cross s.dir t.dir)&&unit (cross (t.a.sub s.a) s.dir/cross s.dir t.dir) then
   some ⟨s.a.at s.b (cross (t.a.sub s.a) t.dir/cross s.dir t.dir),s.a.at s.b (cross (t.a.sub s.a) t.dir/cross s.dir t.dir)⟩
  else none
 else if cross s.dir (t.a.sub s.a)≠0 then none
 else if 0<cmpP (greater s.order.a t.order.a) (lesser s.order.b t.order.b) then none
 else some ⟨greater s.order.a t.order.a,lesser s.order.b t.order.b⟩
def optV (o:Option Sg):V:= .tup [sgV (o.getD sg0),.prim (.bool o.isSome)]
theorem hp_greater (p q:Pt):hp (greater p q)≤max (hp p) (hp q):=by unfold greater;split<;>omega
theorem hp_lesser (p q:Pt):hp (lesser p q)≤max (hp p) (hp q):=by unfold lesser;split<;>omega
theorem smeet_pc (s t:Sg) (h1:hs s≤2^20) (h2:hs t≤2^20):PC prog 58 [sgV s,sgV t] (optV (meetS s t)):=by
 have a1:=hp_dir s;have a2:=hp_dir t;have a3:=hp_sub t.a s.a;have a4:=hs_a s;have a5:=hs_a t;have a6:=hs_b s;have a7:=hs_b t
 have a8:=ht_cross s.dir t.dir
 have a9:=ht_cross (t.a.sub s.a) t.dir
 have a10:=ht_cross (t.a.sub s.a) s.dir
 have a11:=ht_cross s.dir (t.a.sub s.a)
 have a12:=ht_div (cross (t.a.sub s.a) t.dir) (cross s.dir t.dir)
 have a13:=ht_div (cross (t.a.sub s.a) s.dir) (cross s.dir t.dir)
 refine PCi ?_
 conv in trip _ _=>cbv
 simp only [runT,RN,simprocAttr]
 have d1:=sdir_pc s (by omega)
 have d2:=sdir_pc t (by omega)
 have d3:=vsub_pc t.a s.a (by omega) (by omega)
 have c1:=vcross_pc s.dir t.dir (by omega) (by omega)
 have c2:=vcross_pc (t.a.sub s.a) t.dir (by omega) (by omega)
 have c3:=vcross_pc (t.a.sub s.a) s.dir (by omega) (by omega)
 have c4:=vcross_pc s.dir (t.a.sub s.a) (by omega) (by omega)
 have g1:=signQ_pc (cross s.dir t.dir) (by omega)
 have g2:=signQ_pc (cross s.dir (t.a.sub s.a)) (by omega)
 have o1:=sorder_pc s (by omega)
 have o2:=sorder_pc t (by omega)
 have b1:=hs_order s;have b2:=hs_order t
 have b3:=hs_a s.order;have b4:=hs_b s.order;have b5:=hs_a t.order;have b6:=hs_b t.order
 have k1:=greater_pc s.order.a t.order.a (by omega) (by omega)
 have k2:=lesser_pc s.order.b t.order.b (by omega) (by omega)
 have b7:=hp_greater s.order.a t.order.a;have b8:=hp_lesser s.order.b t.order.b
 have k3:=vcmp_pc (greater s.order.a t.order.a) (lesser s.order.b t.order.b) (by omega) (by omega)
 have q1:=fun h=>quoQ_pc (cross (t.a.sub s.a) t.dir) (cross s.dir t.dir) (by omega) (by omega) h
 have q2:=fun h=>quoQ_pc (cross (t.a.sub s.a) s.dir) (cross s.dir t.dir) (by omega) (by omega) h
 have u1:=unit_pc (cross (t.a.sub s.a) t.dir/cross s.dir t.dir) (by omega)
 have u2:=unit_pc (cross (t.a.sub s.a) s.dir/cross s.dir t.dir) (by omega)
 have p1:=vat_pc s.a s.b (cross (t.a.sub s.a) t.dir/cross s.dir t.dir) (by omega) (by omega) (by omega)
 have z1:cmpQ (cross s.dir t.dir) 0=0↔cross s.dir t.dir=0:=cmpQ_zero
 have z2:cmpQ (cross s.dir (t.a.sub s.a)) 0=0↔cross s.dir (t.a.sub s.a)=0:=cmpQ_zero
 have none_eq:optV none= .tup [.agg [.prim (.bool false),.prim (.string (bs ([]))),.prim (.string (bs ([]))),.prim (.bool false),.prim (.string (bs ([]))),.prim (.string (bs ([]))),.prim (.bool false),.prim (.string (bs ([]))),.prim (.string (bs ([]))),.prim (.bool false),.prim (.string (bs ([]))),.prim (.string (bs ([])))],.prim (.bool false)]:=by unfold optV;rw [Option.getD_none,sgV0];rfl
 clear a1 a2 a3 a4 a5 a6 a7 a8 a9 a10 a11 a12 a13 b1 b2 b3 b4 b5 b6 b7 b8
 simp (disch:=omega) only [↓RS,RZ,simprocAttr,sgV,s4V]
 refine cX d1 ?_
 simp (disch:=omega) only [↓RS,RZ,simprocAttr,pV,ptV]
 refine cX d2 ?_
 simp (disch:=omega) only [↓RS,RZ,simprocAttr,pV,ptV]
 refine cX d3 ?_
 simp (disch:=omega) only [↓RS,RZ,simprocAttr,pV,ptV]
 refine cX c1 ?_
 simp (disch:=omega) only [↓RS,RZ,simprocAttr,qV,rV]
 refine cX g1 ?_
 by_cases hd:cross s.dir t.dir=0
 ·have hz:=z1.2 hd
  simp (disch:=omega) only [↓RS,RZ,simprocAttr,pV,ptV]
  refine cX c4 ?_
  simp (disch:=omega) only [↓RS,RZ,simprocAttr,qV,rV]
  refine cX g2 ?_
  by_cases hw:cross s.dir (t.a.sub s.a)=0
  ·have hz2:=z2.2 hw
   simp (disch:=omega) only [↓RS,RZ,simprocAttr,sgV,s4V]
   refine cX o1 ?_
   simp (disch:=omega) only [↓RS,RZ,simprocAttr,sgV,s4V]
   refine cX o2 ?_
   simp (disch:=omega) only [↓RS,RZ,simprocAttr,sgV,s4V]
   refine cX k1 ?_
   simp (disch:=omega) only [↓RS,RZ,simprocAttr,pV,ptV]
   refine cX k2 ?_
   simp (disch:=omega) only [↓RS,RZ,simprocAttr,pV,ptV]
   refine cX k3 ?_
   by_cases hc:0<cmpP (greater s.order.a t.order.a) (lesser s.order.b t.order.b)
   ·rw [meetS,if_neg (fun h=>h hd),if_neg (fun h=>h hw),if_pos hc,none_eq]
    simp (disch:=omega) only [↓RS,RZ,simprocAttr]
    try rfl
   ·rw [meetS,if_neg (fun h=>h hd),if_neg (fun h=>h hw),if_neg hc]
    simp (disch:=omega) only [↓RS,RZ,simprocAttr,pV,ptV]
    try rfl
  ·have hz2:cmpQ (cross s.dir (t.a.sub s.a)) 0≠0:=fun h=>hw (z2.1 h)
   rw [meetS,if_neg (fun h=>h hd),if_pos hw,none_eq]
   simp (disch:=omega) only [↓RS,RZ,simprocAttr]
   try rfl
 ·have hz:cmpQ (cross s.dir t.dir) 0≠0:=fun h=>hd (z1.1 h)
  have q1:=q1 hd
  have q2:=q2 hd
  simp (disch:=omega) only [↓RS,RZ,simprocAttr,pV,ptV]
  refine cX c2 ?_
  simp (disch:=omega) only [↓RS,RZ,simprocAttr,qV,rV]
  refine cX q1 ?_
  simp (disch:=omega) only [↓RS,RZ,simprocAttr,pV,ptV,qV,rV]
  refine cX c3 ?_
  simp (disch:=omega) only [↓RS,RZ,simprocAttr,qV,rV]
  refine cX q2 ?_
  simp (disch:=omega) only [↓RS,RZ,simprocAttr,qV,rV]
  refine cX u1 ?_
  cases hu1:unit (cross (t.a.sub s.a) t.dir/cross s.dir t.dir) with
  |false=>
   rw [meetS,if_pos hd,hu1,Bool.false_and,if_neg (by simp),none_eq]
   simp (disch:=omega) only [↓RS,RZ,simprocAttr,qV,rV]
   try rfl
  |true=>
   simp (disch:=omega) only [↓RS,RZ,simprocAttr,qV,rV]
   refine cX u2 ?_
   cases hu2:unit (cross (t.a.sub s.a) s.dir/cross s.dir t.dir) with
   |false=>
    rw [meetS,if_pos hd,hu1,hu2,if_neg (by simp),none_eq]
    simp (disch:=omega) only [↓RS,RZ,simprocAttr,qV,rV]
    try rfl
   |true=>
    rw [meetS,if_pos hd,hu1,hu2,if_pos (by simp)]
    simp (disch:=omega) only [↓RS,RZ,simprocAttr,qV,rV,pV,ptV]
    refine cX p1 ?_
    simp (disch:=omega) only [↓RS,RZ,simprocAttr,qV,rV,pV,ptV]
    try rfl
end Go.Av
namespace Go.Av
open Go.RowKit
open Go.Proofs.Tryz (prog)
def Sg.ok (s:Sg):Prop:=cmpP s.a s.b≠0
instance (s:Sg):Decidable s.ok:=inferInstanceAs (Decidable (_≠_))
theorem swrong_pc (s t:Sg) (h1:hs s≤2^20) (h2:hs t≤2^20):PC prog 57 [sgV s,sgV t] (.prim (.bool (!(decide s.ok&&decide t.ok)))):=by
 refine PCi ?_
 conv in trip _ _=>cbv
 simp only [runT,RN,simprocAttr]
 have c1:=scheck_pc s (by omega)
 have c2:=scheck_pc t (by omega)
 by_cases hs1:cmpP s.a s.b=0
 ·have e:decide s.ok=false:=decide_eq_false (fun h=>h hs1)
  rw [if_pos hs1] at c1
  rw [e]
  simp (disch:=omega) only [↓RS,RZ,simprocAttr,sgV,s4V]
  refine cX c1 ?_
  simp (disch:=omega) only [↓RS,RZ,simprocAttr]
  try rfl
 ·have e:decide s.ok=true:=decide_eq_true hs1
  rw [if_neg hs1] at c1
  rw [e]
  by_cases hs2:cmpP t.a t.b=0
  ·have e:decide t.ok=false:=decide_eq_false (fun h=>h hs2)
   rw [if_pos hs2] at c2
   rw [e]
   simp (disch:=omega) only [↓RS,RZ,simprocAttr,sgV,s4V]
   refine cX c1 ?_
   simp (disch:=omega) only [↓RS,RZ,simprocAttr]
   refine cX c2 ?_
   simp (disch:=omega) only [↓RS,RZ,simprocAttr]
   try rfl
  ·have e:decide t.ok=true:=decide_eq_true hs2
   rw [if_neg hs2] at c2
   rw [e]
   simp (disch:=omega) only [↓RS,RZ,simprocAttr,sgV,s4V]
   refine cX c1 ?_
   simp (disch:=omega) only [↓RS,RZ,simprocAttr]
   refine cX c2 ?_
   simp (disch:=omega) only [↓RS,RZ,simprocAttr]
   try rfl
def meetM (s t:Sg):Option Sg:=if s.ok∧t.ok then meetS s t else none
theorem Smeet_pc (s t:Sg) (h1:hs s≤2^20) (h2:hs t≤2^20):PC prog 66 [sgV s,sgV t] (.tup [sgV ((meetM s t).getD sg0),.prim (.bool (meetM s t).isSome),.prim (.int .i64 (if s.ok∧t.ok then 0 else 12))]):=by
 refine PCi ?_
 conv in trip _ _=>cbv
 simp only [runT,RN,simprocAttr]
 have w:=swrong_pc s t h1 h2
 have m:=smeet_pc s t h1 h2
 by_cases hok:s.ok∧t.ok
 ·have e:(!(decide s.ok&&decide t.ok))=false:=by simp [hok.1,hok.2]
  rw [e] at w
  rw [meetM,if_pos hok,if_pos hok]
  generalize meetS s t=o at*
  simp (disch:=omega) only [↓RS,RZ,simprocAttr,sgV,s4V]
  refine cX w ?_
  simp (disch:=omega) only [↓RS,RZ,simprocAttr]
  refine cX m ?_
  simp (disch:=omega) only [↓RS,RZ,simprocAttr,optV,sgV,s4V]
  try rfl
 ·have e:(!(decide s.ok&&decide t.ok))=true:=by
   rw [←Bool.decide_and,decide_eq_false hok];rfl
  rw [e] at w
  rw [meetM,if_neg hok,if_neg hok,Option.getD_none,sgV0,Option.isSome_none]
  simp (disch:=omega) only [↓RS,RZ,simprocAttr,sgV,s4V]
  refine cX w ?_
  simp (disch:=omega) only [↓RS,RZ,simprocAttr]
  try rfl
end Go.Av
