/- Helping texts: Cs, Cu, Cv, Cw, Cy, Cz. -/
import Derived.Test.YtkmlhdfpcjkekaaGreatKCp
set_option linter.unusedSimpArgs false
set_option linter.unusedVariables false
set_option maxRecDepth 100000
set_option maxHeartbeats 16000000
namespace Go.Av
open Go.RowKit
open Go.Proofs.Tryz (prog)
theorem EQ (x y:Int) (hx:dl x.natAbs<2^36) (hy:dl y.natAbs<2^36):PC prog 92 [cI x,cI y] (if y=0 then .tup [rV ⟨false,[],[]⟩,.prim (.int .i64 (10))] else .tup [rV (can (qI x y)),.prim (.int .i64 (0))]):=by
 have h:=Su (decide (x<0)) (decide (y<0)) (bZ x.natAbs) (bZ y.natAbs) hx hy
 rwa [mE,mE] at h
theorem MF (r:Rt):r.val=0↔r.n=0:=by
 unfold Rt.val
 exact Rat.mkRat_eq_zero (Nat.ne_of_gt r.d_pos)
theorem Qd (a b:Rt):qI (a.n*b.d) (a.d*b.n)=a.val/b.val:=by
 have e1:a.val=Rat.divInt a.n a.d:=rfl
 have e2:b.val=Rat.divInt b.n b.d:=rfl
 rw [Rat.div_def,e1,e2,Rat.inv_divInt,Rat.divInt_mul_divInt];rfl
theorem Qe (a b:Rt) (ha:a.le (2^32)) (hb:b.le (2^32)):PC prog 124 [rV a,rV b] (if b.val=0 then .tup [rV ⟨false,[],[]⟩,.prim (.int .i64 (10))] else .tup [rV (can (a.val/b.val)),.prim (.int .i64 (0))]):=by
 refine PCi ?_
 conv in bL _ _=>cbv
 simp only [bM,RN,simprocAttr]
 have h3:=ha.1
 have h4:=hb.1
 have h5:=ha.2
 have h6:=hb.2
 have h1:=tX a h5 (by omega)
 have h2:=tX b h6 (by omega)
 have o1:=tu a (by omega) (by omega)
 have o2:=tu b (by omega) (by omega)
 have p1:=tw a.neg false a.num b.dd (by omega) (by omega)
 have p2:=tw false b.neg a.dd b.num (by omega) (by omega)
 have e1:=jq a.n b.d
 have e2:=jq a.d b.n
 have e3:dl a.n.natAbs≤a.num.length:=qG a.neg a.num
 have e4:dl b.n.natAbs≤b.num.length:=qG b.neg b.num
 have e5:=ll a.dd
 have e6:=ll b.dd
 rw [vn,mz] at p1 p2
 rw [mz] at e5 e6
 rw [Int.natAbs_natCast] at e1 e2
 have k:=EQ (a.n*b.d) (a.d*b.n) (by omega) (by omega)
 have hz:(a.d:Int)*b.n=0↔b.val=0:=by
  rw [MF,Int.mul_eq_zero]
  have:=a.d_pos
  constructor
  ·rintro (h|h)
   ·omega
   ·exact h
  ·exact Or.inr
 rw [Qd] at k
 have p1:PC prog 121 [iN a.neg a.num,iN false b.dd] (cI (a.n*b.d)):=p1
 have p2:PC prog 121 [iN false a.dd,iN b.neg b.num] (cI (a.d*b.n)):=p2
 generalize a.n*(b.d:Int)=x at*
 generalize (a.d:Int)*b.n=y at*
 clear e1 e2 e3 e4 e5 e6 h1 h2 h3 h4 h5 h6
 by_cases hb0:b.val=0
 ·rw [if_pos hb0]
  rw [if_pos (hz.2 hb0)] at k
  simp (disch:=omega) only [↓RS,RZ,simprocAttr,rV]
  refine cX o1 ?_
  simp (disch:=omega) only [↓RS,RZ,simprocAttr,fV]
  refine cX o2 ?_
  simp (disch:=omega) only [↓RS,RZ,simprocAttr,fV]
  refine cX p1 ?_
  simp (disch:=omega) only [↓RS,RZ,simprocAttr,cI,iN]
  refine cX p2 ?_
  simp (disch:=omega) only [↓RS,RZ,simprocAttr,cI,iN]
  refine cX k ?_
  simp (disch:=omega) only [↓RS,RZ,simprocAttr,rV]
  try rfl
 ·rw [if_neg hb0]
  rw [if_neg (fun h=>hb0 (hz.1 h))] at k
  simp (disch:=omega) only [↓RS,RZ,simprocAttr,rV]
  refine cX o1 ?_
  simp (disch:=omega) only [↓RS,RZ,simprocAttr,fV]
  refine cX o2 ?_
  simp (disch:=omega) only [↓RS,RZ,simprocAttr,fV]
  refine cX p1 ?_
  simp (disch:=omega) only [↓RS,RZ,simprocAttr,cI,iN]
  refine cX p2 ?_
  simp (disch:=omega) only [↓RS,RZ,simprocAttr,cI,iN]
  refine cX k ?_
  simp (disch:=omega) only [↓RS,RZ,simprocAttr,rV]
  try rfl
def ht (q:Rat):Nat:=max (dl q.num.natAbs) (dl q.den)
theorem nB {q:Rat} {k:Nat} (h:ht q≤k):(can q).le k:=by
 have h1:dl q.num.natAbs≤ht q:=Nat.le_max_left _ _
 have h2:dl q.den≤ht q:=Nat.le_max_right _ _
 unfold can Rt.le
 try simp only
 refine ⟨?_,?_⟩
 ·rw [tF];omega
 ·split
  ·simp
  ·rw [tF];omega
theorem OO (n:Int) (d:Nat) (hd:0<d):ht (mkRat n d)≤max (dl n.natAbs) (dl d):=by
 obtain ⟨h1,h2⟩:=Im n d hd
 unfold ht
 rw [h1,h2,CY]
 have a1:=sC (Nat.div_le_self n.natAbs (Nat.gcd n.natAbs d))
 have a2:=sC (Nat.div_le_self d (Nat.gcd n.natAbs d))
 omega
theorem wy (q:Rat):dl q.num.natAbs≤ht q∧dl q.den≤ht q:=⟨Nat.le_max_left _ _,Nat.le_max_right _ _⟩
theorem EY (p q:Rat):ht (p+q)≤ht p+ht q+1:=by
 have e:p+q=mkRat (p.num*q.den+q.num*p.den) (p.den*q.den):=by
  conv=>lhs;rw [←Rat.mkRat_self p,←Rat.mkRat_self q]
  rw [Rat.mkRat_add_mkRat _ _ p.den_nz q.den_nz]
 rw [e]
 have h1:=OO (p.num*q.den+q.num*p.den) (p.den*q.den) (Nat.mul_pos p.den_pos q.den_pos)
 have h2:=u5 (p.num*q.den) (q.num*p.den)
 have h3:=jq p.num q.den
 have h4:=jq q.num p.den
 have h5:=xO p.den q.den
 rw [Int.natAbs_natCast] at h3 h4
 have a:=wy p
 have b:=wy q
 omega
theorem vo (p q:Rat):ht (p*q)≤ht p+ht q:=by
 have e:p*q=mkRat (p.num*q.num) (p.den*q.den):=by
  conv=>lhs;rw [←Rat.mkRat_self p,←Rat.mkRat_self q]
  rw [Rat.mkRat_mul_mkRat]
 rw [e]
 have h1:=OO (p.num*q.num) (p.den*q.den) (Nat.mul_pos p.den_pos q.den_pos)
 have h3:=jq p.num q.num
 have h5:=xO p.den q.den
 have a:=wy p
 have b:=wy q
 omega
theorem SD (p:Rat):ht (-p)=ht p:=by unfold ht;rw [Rat.neg_num,Rat.neg_den,Int.natAbs_neg]
theorem IC (p q:Rat):ht (p-q)≤ht p+ht q+1:=by
 rw [Rat.sub_eq_add_neg]
 have:=EY p (-q)
 rwa [SD] at this
theorem SE (q:Rat):ht q⁻¹≤ht q+1:=by
 have e:q⁻¹=qI q.den q.num:=by
  have e0:Rat.divInt q.num q.den=q:=Rat.mkRat_self q
  conv=>lhs;rw [←e0,Rat.inv_divInt]
  rfl
 have a:=wy q
 by_cases h:q.num=0
 ·have:q=0:=Rat.num_eq_zero.1 h
  subst this
  have:(0:Rat)⁻¹=0:=by rw [Rat.inv_zero]
  rw [this];omega
 ·have h2:q⁻¹=mkRat (if q.num<0 then-(q.den:Int) else q.den) q.num.natAbs:=by
   rw [e]
   split
   ·rename_i h1
    rw [←NM,←EI (by omega),Int.natAbs_neg]
   ·rw [←EI (by omega)]
  rw [h2]
  have h1:=OO (if q.num<0 then-(q.den:Int) else q.den) q.num.natAbs (by omega)
  have h3:(if q.num<0 then-(q.den:Int) else q.den).natAbs=q.den:=by split<;>simp
  rw [h3] at h1
  omega
theorem xF (p q:Rat):ht (p/q)≤ht p+ht q+1:=by
 rw [Rat.div_def]
 have:=vo p q⁻¹
 have:=SE q
 omega
def qV (q:Rat):V:=rV (can q)
theorem FD (p q:Rat) (hp:ht p≤2^32) (hq:ht q≤2^32):PC prog 91 [qV p,qV q] (qV (p+q)):=by
 have h:=KB (can p) (can q) (nB hp) (nB hq)
 rwa [ln,ln] at h
theorem Ey (p q:Rat) (hp:ht p≤2^32) (hq:ht q≤2^32):PC prog 171 [qV p,qV q] (qV (p-q)):=by
 have h:=P4 (can p) (can q) (nB hp) (nB hq)
 rwa [ln,ln] at h
theorem zy (p q:Rat) (hp:ht p≤2^32) (hq:ht q≤2^32):PC prog 94 [qV p,qV q] (qV (p*q)):=by
 have h:=Qu (can p) (can q) (nB hp) (nB hq)
 rwa [ln,ln] at h
theorem EH (p q:Rat) (hp:ht p≤2^32) (hq:ht q≤2^32) (h0:q≠0):PC prog 124 [qV p,qV q] (.tup [qV (p/q),.prim (.int .i64 (0))]):=by
 have h:=Qe (can p) (can q) (nB hp) (nB hq)
 rw [ln,ln,if_neg h0] at h
 exact h
theorem zH (p q:Rat) (hp:ht p≤2^32) (hq:ht q≤2^32):PC prog 55 [qV p,qV q] (.prim (.int .i64 (jV p q))):=by
 have h:=QW (can p) (can q) (nB hp) (nB hq)
 rwa [ln,ln] at h
theorem sZ (p:Rat) (hp:ht p≤2^32):PC prog 123 [qV p] (.prim (.int .i64 (jV p 0))):=by
 have h:=M8 (can p) (nB hp)
 rwa [ln] at h
theorem EP (n:Int) (h1: -9223372036854775808≤n) (h2:n<9223372036854775808):PC prog 112 [.prim (.int .i64 (n))] (qV (n:Rat)):=Ss n h1 h2
theorem tI {n:Int} (h:n.natAbs<256):ht (n:Rat)≤1:=by
 unfold ht
 rw [Rat.num_intCast,Rat.den_intCast]
 have h1:= @u6 n.natAbs 1 (by omega)
 have h2:= @u6 1 1 (by omega)
 omega
theorem BC (r:Rt) (h:r.le (2^32)):PC prog 86 [rV r] (.prim (.int .i64 (if r=can r.val then 0 else 1))):=Mj r (by have:=h.1;omega) (by have:=h.2;omega)
end Go.Av
namespace Go.Av
open Go.RowKit
open Go.Proofs.Tryz (prog)
structure Pt where
 x:Rat
 y:Rat
theorem Pt.ext {p q:Pt} (h1:p.x=q.x) (h2:p.y=q.y):p=q:=by cases p;cases q;simp at h1 h2;simp [h1,h2]
instance:DecidableEq Pt:=fun a b=>decidable_of_iff (a.x=b.x∧a.y=b.y) ⟨fun h=>Pt.ext h.1 h.2,fun h=>by subst h;exact ⟨rfl,rfl⟩⟩
def ptV (X Y:Rt):V:= .agg [.prim (.bool X.neg),.prim (.string (bs (X.num))),.prim (.string (bs (X.den))),.prim (.bool Y.neg),.prim (.string (bs (Y.num))),.prim (.string (bs (Y.den)))]
def pV (p:Pt):V:=ptV (can p.x) (can p.y)
def hp (p:Pt):Nat:=max (ht p.x) (ht p.y)
theorem sP (p:Pt):ht p.x≤hp p:=Nat.le_max_left _ _
theorem rG (p:Pt):ht p.y≤hp p:=Nat.le_max_right _ _
theorem DL {a b:Rat} {k:Nat} (h1:ht a≤k) (h2:ht b≤k):hp ⟨a,b⟩≤k:=Nat.max_le.2 ⟨h1,h2⟩
theorem zG (p q:Pt) (f:FuncId) (a b:Rat) (h1:PC prog f [qV p.x,qV q.x] (qV a)) (h2:PC prog f [qV p.y,qV q.y] (qV b)):PC prog 90 [pV p,pV q,.clo f [] []] (pV ⟨a,b⟩):=by
 refine PCi ?_
 conv in bL _ _=>cbv
 simp only [bM,RN,simprocAttr]
 simp (disch:=omega) only [↓RS,RZ,simprocAttr,pV,ptV]
 refine cX h1 ?_
 simp (disch:=omega) only [↓RS,RZ,simprocAttr,qV,rV]
 refine cX h2 ?_
 simp (disch:=omega) only [↓RS,RZ,simprocAttr,qV,rV]
 try rfl
def Pt.add (p q:Pt):Pt:=⟨p.x+q.x,p.y+q.y⟩
def Pt.sub (p q:Pt):Pt:=⟨p.x-q.x,p.y-q.y⟩
def Pt.smul (p:Pt) (r:Rat):Pt:=⟨p.x*r,p.y*r⟩
def cross (p q:Pt):Rat:=p.x*q.y-p.y*q.x
theorem AN (p q:Pt):hp (p.add q)≤hp p+hp q+1:=by
 have:=EY p.x q.x;have:=EY p.y q.y;have:=sP p;have:=rG p;have:=sP q;have:=rG q
 exact DL (by omega) (by omega)
theorem vr (p q:Pt):hp (p.sub q)≤hp p+hp q+1:=by
 have:=IC p.x q.x;have:=IC p.y q.y;have:=sP p;have:=rG p;have:=sP q;have:=rG q
 exact DL (by omega) (by omega)
theorem E3 (p:Pt) (r:Rat):hp (p.smul r)≤hp p+ht r:=by
 have:=vo p.x r;have:=vo p.y r;have:=sP p;have:=rG p
 exact DL (by omega) (by omega)
theorem ob (p q:Pt):ht (cross p q)≤2*(hp p+hp q)+1:=by
 have:=IC (p.x*q.y) (p.y*q.x);have:=vo p.x q.y;have:=vo p.y q.x;have:=sP p;have:=rG p;have:=sP q;have:=rG q
 unfold cross;omega
theorem zq (p q:Pt) (h1:hp p≤2^32) (h2:hp q≤2^32):PC prog 34 [pV p,pV q] (pV (p.add q)):=by
 have:=sP p;have:=rG p;have:=sP q;have:=rG q
 refine PCi ?_
 conv in bL _ _=>cbv
 simp only [bM,RN,simprocAttr]
 have h:=zG p q 91 (p.x+q.x) (p.y+q.y) (FD _ _ (by omega) (by omega)) (FD _ _ (by omega) (by omega))
 simp (disch:=omega) only [↓RS,RZ,simprocAttr,pV,ptV]
 refine cX h ?_
 simp (disch:=omega) only [↓RS,RZ,simprocAttr,pV,ptV]
 try rfl
theorem vO (p q:Pt) (h1:hp p≤2^32) (h2:hp q≤2^32):PC prog 103 [pV p,pV q] (pV (p.sub q)):=by
 have:=sP p;have:=rG p;have:=sP q;have:=rG q
 refine PCi ?_
 conv in bL _ _=>cbv
 simp only [bM,RN,simprocAttr]
 have h:=zG p q 171 (p.x-q.x) (p.y-q.y) (Ey _ _ (by omega) (by omega)) (Ey _ _ (by omega) (by omega))
 simp (disch:=omega) only [↓RS,RZ,simprocAttr,pV,ptV]
 refine cX h ?_
 simp (disch:=omega) only [↓RS,RZ,simprocAttr,pV,ptV]
 try rfl
theorem CL (p:Pt) (r:Rat) (h1:hp p≤2^32) (h2:ht r≤2^32):PC prog 36 [pV p,qV r] (pV (p.smul r)):=by
 have:=sP p;have:=rG p
 refine PCi ?_
 conv in bL _ _=>cbv
 simp only [bM,RN,simprocAttr]
 have h:=zG p ⟨r,r⟩ 94 (p.x*r) (p.y*r) (zy _ _ (by omega) (by omega)) (zy _ _ (by omega) (by omega))
 simp (disch:=omega) only [↓RS,RZ,simprocAttr,pV,ptV,qV,rV]
 refine cX h ?_
 simp (disch:=omega) only [↓RS,RZ,simprocAttr,pV,ptV]
 try rfl
theorem pR (p q:Pt) (h1:hp p≤2^30) (h2:hp q≤2^30):PC prog 102 [pV p,pV q] (qV (cross p q)):=by
 have:=sP p;have:=rG p;have:=sP q;have:=rG q
 have:=vo p.x q.y;have:=vo p.y q.x
 refine PCi ?_
 conv in bL _ _=>cbv
 simp only [bM,RN,simprocAttr]
 have h:=zG p ⟨q.y,q.x⟩ 94 (p.x*q.y) (p.y*q.x) (zy p.x q.y (by omega) (by omega)) (zy p.y q.x (by omega) (by omega))
 have hs:=Ey (p.x*q.y) (p.y*q.x) (by omega) (by omega)
 simp (disch:=omega) only [↓RS,RZ,simprocAttr,pV,ptV]
 refine cX h ?_
 simp (disch:=omega) only [↓RS,RZ,simprocAttr,pV,ptV]
 refine cX hs ?_
 simp (disch:=omega) only [↓RS,RZ,simprocAttr,qV,rV]
 try rfl
def bO (p q:Pt):Int:=if jV p.x q.x=0 then jV p.y q.y else jV p.x q.x
theorem kT (p q:Pt) (h1:hp p≤2^32) (h2:hp q≤2^32):PC prog 13 [pV p,pV q] (.prim (.int .i64 (bO p q))):=by
 have:=sP p;have:=rG p;have:=sP q;have:=rG q
 refine PCi ?_
 conv in bL _ _=>cbv
 simp only [bM,RN,simprocAttr]
 have c1:=zH p.x q.x (by omega) (by omega)
 have c2:=zH p.y q.y (by omega) (by omega)
 by_cases hc:jV p.x q.x=0
 ·rw [bO,if_pos hc]
  rw [hc] at c1
  simp (disch:=omega) only [↓RS,RZ,simprocAttr,pV,ptV]
  refine cX c1 ?_
  simp (disch:=omega) only [↓RS,RZ,simprocAttr]
  refine cX c2 ?_
  simp (disch:=omega) only [↓RS,RZ,simprocAttr]
 ·rw [bO,if_neg hc]
  simp (disch:=omega) only [↓RS,RZ,simprocAttr,pV,ptV]
  refine cX c1 ?_
  simp (disch:=omega) only [↓RS,RZ,simprocAttr]
theorem Es (x y:Int) (hx:x.natAbs<256) (hy:y.natAbs<256):PC prog 50 [.prim (.int .i64 (x)),.prim (.int .i64 (y))] (pV ⟨x,y⟩):=by
 refine PCi ?_
 conv in bL _ _=>cbv
 simp only [bM,RN,simprocAttr]
 simp (disch:=omega) only [↓RS,RZ,simprocAttr]
 refine cX (EP x (by omega) (by omega)) ?_
 simp (disch:=omega) only [↓RS,RZ,simprocAttr,qV,rV]
 refine cX (EP y (by omega) (by omega)) ?_
 simp (disch:=omega) only [↓RS,RZ,simprocAttr,qV,rV,pV,ptV]
 try rfl
def Pt.at (p q:Pt) (t:Rat):Pt:=p.add ((q.sub p).smul t)
theorem RV (p q:Pt) (t:Rat):hp (p.at q t)≤2*hp p+hp q+ht t+2:=by
 have:=AN p ((q.sub p).smul t);have:=E3 (q.sub p) t;have:=vr q p
 unfold Pt.at;omega
theorem ME (p q:Pt) (t:Rat) (h1:hp p≤2^28) (h2:hp q≤2^28) (h3:ht t≤2^28):PC prog 68 [pV p,pV q,qV t] (pV (p.at q t)):=by
 have a1:=E3 (q.sub p) t;have a2:=vr q p
 refine PCi ?_
 conv in bL _ _=>cbv
 simp only [bM,RN,simprocAttr]
 have s1:=vO q p (by omega) (by omega)
 have s2:=CL (q.sub p) t (by omega) (by omega)
 have s3:=zq p ((q.sub p).smul t) (by omega) (by omega)
 simp (disch:=omega) only [↓RS,RZ,simprocAttr,pV,ptV,qV,rV]
 refine cX s1 ?_
 simp (disch:=omega) only [↓RS,RZ,simprocAttr,pV,ptV,qV,rV]
 refine cX s2 ?_
 simp (disch:=omega) only [↓RS,RZ,simprocAttr,pV,ptV,qV,rV]
 refine cX s3 ?_
 simp (disch:=omega) only [↓RS,RZ,simprocAttr,pV,ptV]
 try rfl
def itQ (P:Program) (c:LC) (Q:kF) (k:Nat):kF:=fun x T H=>match x with
 | .normal=>wx (wpL P c) Q k T H
 |x=>Q x T H
theorem pD {P:Program} {c:LC} {T:List V} {H:Hp} {Q:kF} (k:Nat) (h:wx (wpL P c) Q k T H):wpL P (.loop c) T H Q:=by
 unfold wpL;exact ⟨k,h⟩
theorem mJ {P:Program} {c:LC} {T:List V} {H:Hp} {Q:kF} {k:Nat}:wx (wpL P c) Q (k+1) T H=wpL P c T H (itQ P c Q k):=rfl
theorem j5 {P:Program} {c:LC} {T:List V} {H:Hp} {Q:kF} {k:Nat}:itQ P c Q k .normal T H=wx (wpL P c) Q k T H:=rfl
theorem lK {P:Program} {c:LC} {T:List V} {H:Hp} {Q:kF} {k i:Nat}:itQ P c Q k (.exit i) T H=Q (.exit i) T H:=rfl
theorem mK {P:Program} {c:LC} {T:List V} {H:Hp} {Q:kF} {k:Nat}:itQ P c Q k .ret T H=Q .ret T H:=rfl
theorem CN (X Y:Rt) (h1:X.le (2^32)) (h2:Y.le (2^32)):PC prog 30 [ptV X Y] (.prim (.int .i64 (if X=can X.val∧Y=can Y.val then 0 else 1))):=by
 refine PCi ?_
 conv in bL _ _=>cbv
 simp only [bM,RN,simprocAttr]
 have c1:=BC X h1
 have c2:=BC Y h2
 simp (disch:=omega) only [↓RS,RZ,simprocAttr,ptV]
 refine pD 3 ?_
 simp (disch:=omega) only [↓RS,RZ,simprocAttr,mJ,j5,lK,mK,Int.reduceAdd]
 refine cX c1 ?_
 by_cases hx:X=can X.val
 ·rw [if_pos hx]
  simp (disch:=omega) only [↓RS,RZ,simprocAttr,mJ,j5,lK,mK,Int.reduceAdd]
  refine cX c2 ?_
  by_cases hy:Y=can Y.val
  ·rw [if_pos hy,if_pos ⟨hx,hy⟩]
   simp (disch:=omega) only [↓RS,RZ,simprocAttr,mJ,j5,lK,mK,Int.reduceAdd]
  ·rw [if_neg hy,if_neg (fun h=>hy h.2)]
   simp (disch:=omega) only [↓RS,RZ,simprocAttr,mJ,j5,lK,mK,Int.reduceAdd]
 ·rw [if_neg hx,if_neg (fun h=>hx h.1)]
  simp (disch:=omega) only [↓RS,RZ,simprocAttr,mJ,j5,lK,mK,Int.reduceAdd]
end Go.Av
namespace Go.Av
open Go.RowKit
open Go.Proofs.Tryz (prog)
def fB (a b c:Pt):Int:=jV (cross (b.sub a) (c.sub a)) 0
theorem Hk (p q:Rat): -1≤jV p q∧jV p q≤1:=by unfold jV;(repeat' split)<;>omega
theorem ox (p q:Pt): -1≤bO p q∧bO p q≤1:=by unfold bO;split<;>exact Hk _ _
theorem l6 (a b c:Pt) (h1:hp a≤2^26) (h2:hp b≤2^26) (h3:hp c≤2^26):PC prog 78 [pV a,pV b,pV c] (.prim (.int .i64 (fB a b c))):=by
 have a1:=vr b a;have a2:=vr c a;have a3:=ob (b.sub a) (c.sub a)
 refine PCi ?_
 conv in bL _ _=>cbv
 simp only [bM,RN,simprocAttr]
 have s1:=vO b a (by omega) (by omega)
 have s2:=vO c a (by omega) (by omega)
 have s3:=pR (b.sub a) (c.sub a) (by omega) (by omega)
 have s4:=sZ (cross (b.sub a) (c.sub a)) (by omega)
 simp (disch:=omega) only [↓RS,RZ,simprocAttr,pV,ptV]
 refine cX s1 ?_
 simp (disch:=omega) only [↓RS,RZ,simprocAttr,pV,ptV]
 refine cX s2 ?_
 simp (disch:=omega) only [↓RS,RZ,simprocAttr,pV,ptV]
 refine cX s3 ?_
 simp (disch:=omega) only [↓RS,RZ,simprocAttr,qV,rV]
 refine cX s4 ?_
 simp (disch:=omega) only [↓RS,RZ,simprocAttr]
 try rfl
def gY (a b p:Pt):Bool:=decide (fB a b p=0)&&(decide (0≤bO a p*bO p b)&&(decide (bO a b≠0)||decide (bO a p=0)))
theorem sH (a b p:Pt) (h1:hp a≤2^26) (h2:hp b≤2^26) (h3:hp p≤2^26):PC prog 140 [pV a,pV b,pV p] (.prim (.bool (gY a b p))):=by
 refine PCi ?_
 conv in bL _ _=>cbv
 simp only [bM,RN,simprocAttr]
 have s1:=l6 a b p h1 h2 h3
 have c1:=kT a p (by omega) (by omega)
 have c2:=kT p b (by omega) (by omega)
 have c3:=kT a b (by omega) (by omega)
 have b1:=ox a p
 have b2:=ox p b
 unfold gY
 generalize fB a b p=o at*
 generalize bO a p=x at*
 generalize bO p b=y at*
 generalize bO a b=z at*
 have hxy:x*y= -1∨x*y=0∨x*y=1:=by
  have hx:x= -1∨x=0∨x=1:=by omega
  have hy:y= -1∨y=0∨y=1:=by omega
  rcases hx with rfl|rfl|rfl<;>rcases hy with rfl|rfl|rfl<;>simp
 by_cases ho:o=0
 ·subst ho
  by_cases hx:0≤x*y
  ·by_cases hz:z=0
   ·simp (disch:=omega) only [↓RS,RZ,simprocAttr,pV,ptV]
    refine cX s1 ?_
    simp (disch:=omega) only [↓RS,RZ,simprocAttr,pV,ptV]
    refine cX c1 ?_
    simp (disch:=omega) only [↓RS,RZ,simprocAttr,pV,ptV]
    refine cX c2 ?_
    simp (disch:=omega) only [↓RS,RZ,simprocAttr,pV,ptV]
    refine cX c3 ?_
    simp (disch:=omega) only [↓RS,RZ,simprocAttr,pV,ptV]
    refine cX c1 ?_
    by_cases hx0:x=0
    ·simp (disch:=omega) only [↓RS,RZ,simprocAttr]
     try simp [hx0,hz,hx]
    ·simp (disch:=omega) only [↓RS,RZ,simprocAttr]
     try simp [hx0,hz,hx]
   ·simp (disch:=omega) only [↓RS,RZ,simprocAttr,pV,ptV]
    refine cX s1 ?_
    simp (disch:=omega) only [↓RS,RZ,simprocAttr,pV,ptV]
    refine cX c1 ?_
    simp (disch:=omega) only [↓RS,RZ,simprocAttr,pV,ptV]
    refine cX c2 ?_
    simp (disch:=omega) only [↓RS,RZ,simprocAttr,pV,ptV]
    refine cX c3 ?_
    simp (disch:=omega) only [↓RS,RZ,simprocAttr,pV,ptV]
    try simp [hz,hx]
  ·simp (disch:=omega) only [↓RS,RZ,simprocAttr,pV,ptV]
   refine cX s1 ?_
   simp (disch:=omega) only [↓RS,RZ,simprocAttr,pV,ptV]
   refine cX c1 ?_
   simp (disch:=omega) only [↓RS,RZ,simprocAttr,pV,ptV]
   refine cX c2 ?_
   simp (disch:=omega) only [↓RS,RZ,simprocAttr,pV,ptV]
   try simp [hx]
 ·simp (disch:=omega) only [↓RS,RZ,simprocAttr,pV,ptV]
  refine cX s1 ?_
  simp (disch:=omega) only [↓RS,RZ,simprocAttr]
  try simp [ho]
end Go.Av
namespace Go.Av
open Go.RowKit
open Go.Proofs.Tryz (prog)
structure Sg where
 a:Pt
 b:Pt
theorem Sg.ext {p q:Sg} (h1:p.a=q.a) (h2:p.b=q.b):p=q:=by cases p;cases q;simp at h1 h2;simp [h1,h2]
instance:DecidableEq Sg:=fun a b=>decidable_of_iff (a.a=b.a∧a.b=b.b) ⟨fun h=>Sg.ext h.1 h.2,fun h=>by subst h;exact ⟨rfl,rfl⟩⟩
def s4V (A B C D:Rt):V:= .agg [.prim (.bool A.neg),.prim (.string (bs (A.num))),.prim (.string (bs (A.den))),.prim (.bool B.neg),.prim (.string (bs (B.num))),.prim (.string (bs (B.den))),.prim (.bool C.neg),.prim (.string (bs (C.num))),.prim (.string (bs (C.den))),.prim (.bool D.neg),.prim (.string (bs (D.num))),.prim (.string (bs (D.den)))]
def sgV (s:Sg):V:=s4V (can s.a.x) (can s.a.y) (can s.b.x) (can s.b.y)
def hs (s:Sg):Nat:=max (hp s.a) (hp s.b)
theorem sO (s:Sg):hp s.a≤hs s:=Nat.le_max_left _ _
theorem tK (s:Sg):hp s.b≤hs s:=Nat.le_max_right _ _
theorem wz {a b:Pt} {k:Nat} (h1:hp a≤k) (h2:hp b≤k):hs ⟨a,b⟩≤k:=Nat.max_le.2 ⟨h1,h2⟩
def pt0:Pt:=⟨0,0⟩
theorem Q6 (p:Pt):p.add pt0=p:=Pt.ext (Rat.add_zero _) (Rat.add_zero _)
theorem EX:ht 0≤1:= @tI 0 (by omega)
theorem SF:hp pt0≤1:=DL EX EX
theorem pV0:pV pt0= .agg [.prim (.bool false),.prim (.string (bs ([]))),.prim (.string (bs ([]))),.prim (.bool false),.prim (.string (bs ([]))),.prim (.string (bs ([])))]:=by simp only [pV,ptV,pt0,rP]
theorem JD (p:Pt) (h:hp p≤2^30):PC prog 61 [pV p] (pV p):=by
 have h0:=SF
 refine PCi ?_
 conv in bL _ _=>cbv
 simp only [bM,RN,simprocAttr]
 have hh:=zq p pt0 (by omega) (by omega)
 rw [Q6,pV0] at hh
 simp (disch:=omega) only [↓RS,RZ,simprocAttr,pV,ptV]
 refine cX hh ?_
 simp (disch:=omega) only [↓RS,RZ,simprocAttr,pV,ptV]
 try rfl
theorem xe (s:Sg) (h:hs s≤2^30):PC prog 62 [sgV s] (.prim (.int .i64 (if bO s.a s.b=0 then 12 else 0))):=by
 have:=sO s;have:=tK s
 refine PCi ?_
 conv in bL _ _=>cbv
 simp only [bM,RN,simprocAttr]
 have c:=kT s.a s.b (by omega) (by omega)
 by_cases hc:bO s.a s.b=0
 ·rw [if_pos hc]
  rw [hc] at c
  simp (disch:=omega) only [↓RS,RZ,simprocAttr,sgV,s4V]
  refine cX c ?_
  simp (disch:=omega) only [↓RS,RZ,simprocAttr]
 ·rw [if_neg hc]
  simp (disch:=omega) only [↓RS,RZ,simprocAttr,sgV,s4V]
  refine cX c ?_
  simp (disch:=omega) only [↓RS,RZ,simprocAttr]
def Sg.order (s:Sg):Sg:=if 0<bO s.a s.b then ⟨s.b,s.a⟩ else s
theorem tJ (s:Sg):hs s.order=hs s:=by unfold Sg.order;split<;>simp [hs,Nat.max_comm]
theorem un (s:Sg) (h:hs s≤2^30):PC prog 16 [sgV s] (sgV s.order):=by
 have:=sO s;have:=tK s
 refine PCi ?_
 conv in bL _ _=>cbv
 simp only [bM,RN,simprocAttr]
 have c1:=JD s.a (by omega)
 have c2:=JD s.b (by omega)
 have c:=kT s.a s.b (by omega) (by omega)
 by_cases hc:0<bO s.a s.b
 ·rw [Sg.order,if_pos hc]
  simp (disch:=omega) only [↓RS,RZ,simprocAttr,sgV,s4V]
  refine cX c1 ?_
  simp (disch:=omega) only [↓RS,RZ,simprocAttr,pV,ptV]
  refine cX c2 ?_
  simp (disch:=omega) only [↓RS,RZ,simprocAttr,pV,ptV]
  refine cX c ?_
  simp (disch:=omega) only [↓RS,RZ,simprocAttr,sgV,s4V]
  try rfl
 ·rw [Sg.order,if_neg hc]
  simp (disch:=omega) only [↓RS,RZ,simprocAttr,sgV,s4V]
  refine cX c1 ?_
  simp (disch:=omega) only [↓RS,RZ,simprocAttr,pV,ptV]
  refine cX c2 ?_
  simp (disch:=omega) only [↓RS,RZ,simprocAttr,pV,ptV]
  refine cX c ?_
  simp (disch:=omega) only [↓RS,RZ,simprocAttr,sgV,s4V]
  try rfl
def Sg.dir (s:Sg):Pt:=s.b.sub s.a
theorem E4 (s:Sg):hp s.dir≤2*hs s+1:=by have:=vr s.b s.a;have:=sO s;have:=tK s;unfold Sg.dir;omega
theorem JC (s:Sg) (h:hs s≤2^30):PC prog 122 [sgV s] (pV s.dir):=by
 have:=sO s;have:=tK s
 refine PCi ?_
 conv in bL _ _=>cbv
 simp only [bM,RN,simprocAttr]
 have c:=vO s.b s.a (by omega) (by omega)
 simp (disch:=omega) only [↓RS,RZ,simprocAttr,sgV,s4V]
 refine cX c ?_
 simp (disch:=omega) only [↓RS,RZ,simprocAttr,pV,ptV]
 try rfl
def unit (t:Rat):Bool:=decide (0≤jV t 0)&&decide (jV t 1≤0)
theorem Jl (t:Rat) (h:ht t≤2^30):PC prog 125 [qV t] (.prim (.bool (unit t))):=by
 refine PCi ?_
 conv in bL _ _=>cbv
 simp only [bM,RN,simprocAttr]
 have h1:= @tI 1 (by omega)
 have s:=sZ t (by omega)
 have o:=EP 1 (by omega) (by omega)
 have c:=zH t ((1:Int):Rat) (by omega) (by omega)
 have e:((1:Int):Rat)=1:=rfl
 rw [e] at c
 unfold unit
 by_cases h0:0≤jV t 0
 ·simp (disch:=omega) only [↓RS,RZ,simprocAttr,qV,rV]
  refine cX s ?_
  simp (disch:=omega) only [↓RS,RZ,simprocAttr,qV,rV]
  refine cX o ?_
  simp (disch:=omega) only [↓RS,RZ,simprocAttr,qV,rV]
  refine cX c ?_
  simp (disch:=omega) only [↓RS,RZ,simprocAttr]
  try rfl
 ·simp (disch:=omega) only [↓RS,RZ,simprocAttr,qV,rV]
  refine cX s ?_
  simp (disch:=omega) only [↓RS,RZ,simprocAttr]
  try simp [h0]
def greater (p q:Pt):Pt:=if bO p q<0 then q else p
def lesser (p q:Pt):Pt:=if bO p q<0 then p else q
theorem IE (p q:Pt) (h1:hp p≤2^30) (h2:hp q≤2^30):PC prog 126 [pV p,pV q] (pV (greater p q)):=by
 refine PCi ?_
 conv in bL _ _=>cbv
 simp only [bM,RN,simprocAttr]
 have c:=kT p q (by omega) (by omega)
 by_cases h0:bO p q<0
 ·rw [greater,if_pos h0]
  simp (disch:=omega) only [↓RS,RZ,simprocAttr,pV,ptV]
  refine cX c ?_
  simp (disch:=omega) only [↓RS,RZ,simprocAttr,pV,ptV]
 ·rw [greater,if_neg h0]
  simp (disch:=omega) only [↓RS,RZ,simprocAttr,pV,ptV]
  refine cX c ?_
  simp (disch:=omega) only [↓RS,RZ,simprocAttr,pV,ptV]
theorem LH (p q:Pt) (h1:hp p≤2^30) (h2:hp q≤2^30):PC prog 127 [pV p,pV q] (pV (lesser p q)):=by
 refine PCi ?_
 conv in bL _ _=>cbv
 simp only [bM,RN,simprocAttr]
 have c:=kT p q (by omega) (by omega)
 by_cases h0:bO p q<0
 ·rw [lesser,if_pos h0]
  simp (disch:=omega) only [↓RS,RZ,simprocAttr,pV,ptV]
  refine cX c ?_
  simp (disch:=omega) only [↓RS,RZ,simprocAttr,pV,ptV]
 ·rw [lesser,if_neg h0]
  simp (disch:=omega) only [↓RS,RZ,simprocAttr,pV,ptV]
  refine cX c ?_
  simp (disch:=omega) only [↓RS,RZ,simprocAttr,pV,ptV]
end Go.Av
namespace Go.Av
open Go.RowKit
open Go.Proofs.Tryz (prog)
theorem lL {p q:Rat}:jV p q=0↔p=q:=by
 unfold jV
 constructor
 ·intro h
  split at h
  ·omega
  ·split at h
   ·omega
   ·rename_i h1 h2
    exact Rat.le_antisymm (Rat.not_lt.1 h2) (Rat.not_lt.1 h1)
 ·rintro rfl
  rw [if_neg (aL),if_neg (aL)]
def sg0:Sg:=⟨pt0,pt0⟩
theorem Sk:sgV sg0= .agg [.prim (.bool false),.prim (.string (bs ([]))),.prim (.string (bs ([]))),.prim (.bool false),.prim (.string (bs ([]))),.prim (.string (bs ([]))),.prim (.bool false),.prim (.string (bs ([]))),.prim (.string (bs ([]))),.prim (.bool false),.prim (.string (bs ([]))),.prim (.string (bs ([])))]:=by simp only [sgV,s4V,sg0,pt0,rP]
def qB (s t:Sg):Option Sg:=
 if cross s.dir t.dir≠0 then
  if unit (cross (t.a.sub s.a) t.dir/cross s.dir t.dir)&&unit (cross (t.a.sub s.a) s.dir/cross s.dir t.dir) then
   some ⟨s.a.at s.b (cross (t.a.sub s.a) t.dir/cross s.dir t.dir),s.a.at s.b (cross (t.a.sub s.a) t.dir/cross s.dir t.dir)⟩
  else none
 else if cross s.dir (t.a.sub s.a)≠0 then none
 else if 0<bO (greater s.order.a t.order.a) (lesser s.order.b t.order.b) then none
 else some ⟨greater s.order.a t.order.a,lesser s.order.b t.order.b⟩
def Ii (o:Option Sg):V:= .tup [sgV (o.getD sg0),.prim (.bool o.isSome)]
theorem AM (p q:Pt):hp (greater p q)≤max (hp p) (hp q):=by unfold greater;split<;>omega
theorem DM (p q:Pt):hp (lesser p q)≤max (hp p) (hp q):=by unfold lesser;split<;>omega
theorem F8 (s t:Sg) (h1:hs s≤2^20) (h2:hs t≤2^20):PC prog 58 [sgV s,sgV t] (Ii (qB s t)):=by
 have a1:=E4 s;have a2:=E4 t;have a3:=vr t.a s.a;have a4:=sO s;have a5:=sO t;have a6:=tK s;have a7:=tK t
 have a8:=ob s.dir t.dir
 have a9:=ob (t.a.sub s.a) t.dir
 have a10:=ob (t.a.sub s.a) s.dir
 have a11:=ob s.dir (t.a.sub s.a)
 have a12:=xF (cross (t.a.sub s.a) t.dir) (cross s.dir t.dir)
 have a13:=xF (cross (t.a.sub s.a) s.dir) (cross s.dir t.dir)
 refine PCi ?_
 conv in bL _ _=>cbv
 simp only [bM,RN,simprocAttr]
 have d1:=JC s (by omega)
 have d2:=JC t (by omega)
 have d3:=vO t.a s.a (by omega) (by omega)
 have c1:=pR s.dir t.dir (by omega) (by omega)
 have c2:=pR (t.a.sub s.a) t.dir (by omega) (by omega)
 have c3:=pR (t.a.sub s.a) s.dir (by omega) (by omega)
 have c4:=pR s.dir (t.a.sub s.a) (by omega) (by omega)
 have g1:=sZ (cross s.dir t.dir) (by omega)
 have g2:=sZ (cross s.dir (t.a.sub s.a)) (by omega)
 have o1:=un s (by omega)
 have o2:=un t (by omega)
 have b1:=tJ s;have b2:=tJ t
 have b3:=sO s.order;have b4:=tK s.order;have b5:=sO t.order;have b6:=tK t.order
 have k1:=IE s.order.a t.order.a (by omega) (by omega)
 have k2:=LH s.order.b t.order.b (by omega) (by omega)
 have b7:=AM s.order.a t.order.a;have b8:=DM s.order.b t.order.b
 have k3:=kT (greater s.order.a t.order.a) (lesser s.order.b t.order.b) (by omega) (by omega)
 have q1:=fun h=>EH (cross (t.a.sub s.a) t.dir) (cross s.dir t.dir) (by omega) (by omega) h
 have q2:=fun h=>EH (cross (t.a.sub s.a) s.dir) (cross s.dir t.dir) (by omega) (by omega) h
 have u1:=Jl (cross (t.a.sub s.a) t.dir/cross s.dir t.dir) (by omega)
 have u2:=Jl (cross (t.a.sub s.a) s.dir/cross s.dir t.dir) (by omega)
 have p1:=ME s.a s.b (cross (t.a.sub s.a) t.dir/cross s.dir t.dir) (by omega) (by omega) (by omega)
 have z1:jV (cross s.dir t.dir) 0=0↔cross s.dir t.dir=0:=lL
 have z2:jV (cross s.dir (t.a.sub s.a)) 0=0↔cross s.dir (t.a.sub s.a)=0:=lL
 have none_eq:Ii none= .tup [.agg [.prim (.bool false),.prim (.string (bs ([]))),.prim (.string (bs ([]))),.prim (.bool false),.prim (.string (bs ([]))),.prim (.string (bs ([]))),.prim (.bool false),.prim (.string (bs ([]))),.prim (.string (bs ([]))),.prim (.bool false),.prim (.string (bs ([]))),.prim (.string (bs ([])))],.prim (.bool false)]:=by unfold Ii;rw [Option.getD_none,Sk];rfl
 clear a1 a2 a3 a4 a5 a6 a7 a8 a9 a10 a11 a12 a13 b1 b2 b3 b4 b5 b6 b7 b8
 simp (disch:=omega) only [↓RS,RZ,simprocAttr,sgV,s4V]
 refine cX d1 ?_
 simp (disch:=omega) only [↓RS,RZ,simprocAttr,pV,ptV]
 refine cX d2 ?_
 simp (disch:=omega) only [↓RS,RZ,simprocAttr,pV,ptV]
 refine cX d3 ?_
 simp (disch:=omega) only [↓RS,RZ,simprocAttr,pV,ptV]
 refine cX c1 ?_
 simp (disch:=omega) only [↓RS,RZ,simprocAttr,qV,rV]
 refine cX g1 ?_
 by_cases hd:cross s.dir t.dir=0
 ·have hz:=z1.2 hd
  simp (disch:=omega) only [↓RS,RZ,simprocAttr,pV,ptV]
  refine cX c4 ?_
  simp (disch:=omega) only [↓RS,RZ,simprocAttr,qV,rV]
  refine cX g2 ?_
  by_cases hw:cross s.dir (t.a.sub s.a)=0
  ·have hz2:=z2.2 hw
   simp (disch:=omega) only [↓RS,RZ,simprocAttr,sgV,s4V]
   refine cX o1 ?_
   simp (disch:=omega) only [↓RS,RZ,simprocAttr,sgV,s4V]
   refine cX o2 ?_
   simp (disch:=omega) only [↓RS,RZ,simprocAttr,sgV,s4V]
   refine cX k1 ?_
   simp (disch:=omega) only [↓RS,RZ,simprocAttr,pV,ptV]
   refine cX k2 ?_
   simp (disch:=omega) only [↓RS,RZ,simprocAttr,pV,ptV]
   refine cX k3 ?_
   by_cases hc:0<bO (greater s.order.a t.order.a) (lesser s.order.b t.order.b)
   ·rw [qB,if_neg (fun h=>h hd),if_neg (fun h=>h hw),if_pos hc,none_eq]
    simp (disch:=omega) only [↓RS,RZ,simprocAttr]
    try rfl
   ·rw [qB,if_neg (fun h=>h hd),if_neg (fun h=>h hw),if_neg hc]
    simp (disch:=omega) only [↓RS,RZ,simprocAttr,pV,ptV]
    try rfl
  ·have hz2:jV (cross s.dir (t.a.sub s.a)) 0≠0:=fun h=>hw (z2.1 h)
   rw [qB,if_neg (fun h=>h hd),if_pos hw,none_eq]
   simp (disch:=omega) only [↓RS,RZ,simprocAttr]
   try rfl
 ·have hz:jV (cross s.dir t.dir) 0≠0:=fun h=>hd (z1.1 h)
  have q1:=q1 hd
  have q2:=q2 hd
  simp (disch:=omega) only [↓RS,RZ,simprocAttr,pV,ptV]
  refine cX c2 ?_
  simp (disch:=omega) only [↓RS,RZ,simprocAttr,qV,rV]
  refine cX q1 ?_
  simp (disch:=omega) only [↓RS,RZ,simprocAttr,pV,ptV,qV,rV]
  refine cX c3 ?_
  simp (disch:=omega) only [↓RS,RZ,simprocAttr,qV,rV]
  refine cX q2 ?_
  simp (disch:=omega) only [↓RS,RZ,simprocAttr,qV,rV]
  refine cX u1 ?_
  cases hu1:unit (cross (t.a.sub s.a) t.dir/cross s.dir t.dir) with
  |false=>
   rw [qB,if_pos hd,hu1,Bool.false_and,if_neg (by simp),none_eq]
   simp (disch:=omega) only [↓RS,RZ,simprocAttr,qV,rV]
   try rfl
  |true=>
   simp (disch:=omega) only [↓RS,RZ,simprocAttr,qV,rV]
   refine cX u2 ?_
   cases hu2:unit (cross (t.a.sub s.a) s.dir/cross s.dir t.dir) with
   |false=>
    rw [qB,if_pos hd,hu1,hu2,if_neg (by simp),none_eq]
    simp (disch:=omega) only [↓RS,RZ,simprocAttr,qV,rV]
    try rfl
   |true=>
    rw [qB,if_pos hd,hu1,hu2,if_pos (by simp)]
    simp (disch:=omega) only [↓RS,RZ,simprocAttr,qV,rV,pV,ptV]
    refine cX p1 ?_
    simp (disch:=omega) only [↓RS,RZ,simprocAttr,qV,rV,pV,ptV]
    try rfl
end Go.Av
namespace Go.Av
open Go.RowKit
open Go.Proofs.Tryz (prog)
def Sg.ok (s:Sg):Prop:=bO s.a s.b≠0
instance (s:Sg):Decidable s.ok:=inferInstanceAs (Decidable (_≠_))
theorem CR (s t:Sg) (h1:hs s≤2^20) (h2:hs t≤2^20):PC prog 57 [sgV s,sgV t] (.prim (.bool (!(decide s.ok&&decide t.ok)))):=by
 refine PCi ?_
 conv in bL _ _=>cbv
 simp only [bM,RN,simprocAttr]
 have c1:=xe s (by omega)
 have c2:=xe t (by omega)
 by_cases hs1:bO s.a s.b=0
 ·have e:decide s.ok=false:=ak (fun h=>h hs1)
  rw [if_pos hs1] at c1
  rw [e]
  simp (disch:=omega) only [↓RS,RZ,simprocAttr,sgV,s4V]
  refine cX c1 ?_
  simp (disch:=omega) only [↓RS,RZ,simprocAttr]
  try rfl
 ·have e:decide s.ok=true:=an hs1
  rw [if_neg hs1] at c1
  rw [e]
  by_cases hs2:bO t.a t.b=0
  ·have e:decide t.ok=false:=ak (fun h=>h hs2)
   rw [if_pos hs2] at c2
   rw [e]
   simp (disch:=omega) only [↓RS,RZ,simprocAttr,sgV,s4V]
   refine cX c1 ?_
   simp (disch:=omega) only [↓RS,RZ,simprocAttr]
   refine cX c2 ?_
   simp (disch:=omega) only [↓RS,RZ,simprocAttr]
   try rfl
  ·have e:decide t.ok=true:=an hs2
   rw [if_neg hs2] at c2
   rw [e]
   simp (disch:=omega) only [↓RS,RZ,simprocAttr,sgV,s4V]
   refine cX c1 ?_
   simp (disch:=omega) only [↓RS,RZ,simprocAttr]
   refine cX c2 ?_
   simp (disch:=omega) only [↓RS,RZ,simprocAttr]
   try rfl
def iI (s t:Sg):Option Sg:=if s.ok∧t.ok then qB s t else none
theorem BP (s t:Sg) (h1:hs s≤2^20) (h2:hs t≤2^20):PC prog 66 [sgV s,sgV t] (.tup [sgV ((iI s t).getD sg0),.prim (.bool (iI s t).isSome),.prim (.int .i64 (if s.ok∧t.ok then 0 else 12))]):=by
 refine PCi ?_
 conv in bL _ _=>cbv
 simp only [bM,RN,simprocAttr]
 have w:=CR s t h1 h2
 have m:=F8 s t h1 h2
 by_cases hok:s.ok∧t.ok
 ·have e:(!(decide s.ok&&decide t.ok))=false:=by simp [hok.1,hok.2]
  rw [e] at w
  rw [iI,if_pos hok,if_pos hok]
  generalize qB s t=o at*
  simp (disch:=omega) only [↓RS,RZ,simprocAttr,sgV,s4V]
  refine cX w ?_
  simp (disch:=omega) only [↓RS,RZ,simprocAttr]
  refine cX m ?_
  simp (disch:=omega) only [↓RS,RZ,simprocAttr,Ii,sgV,s4V]
  try rfl
 ·have e:(!(decide s.ok&&decide t.ok))=true:=by
   rw [←Bool.decide_and,ak hok];rfl
  rw [e] at w
  rw [iI,if_neg hok,if_neg hok,Option.getD_none,Sk,Option.isSome_none]
  simp (disch:=omega) only [↓RS,RZ,simprocAttr,sgV,s4V]
  refine cX w ?_
  simp (disch:=omega) only [↓RS,RZ,simprocAttr]
  try rfl
end Go.Av
