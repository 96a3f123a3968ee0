/- Helping texts: Cs, Cu. -/
import Derived.Test.YtkmlhdfpcjkekaaGreatKCp
set_option linter.unusedSimpArgs false
set_option linter.unusedVariables false
set_option maxRecDepth 100000
set_option maxHeartbeats 16000000
namespace Go.Av
open Go.RowKit
open Go.Proofs.Tryz (prog)
theorem newC_pc (x y:Int) (hx:dl x.natAbs<2^36) (hy:dl y.natAbs<2^36):PC prog 92 [cI x,cI y] (if y=0 then .tup [rV ⟨false,[],[]⟩,.prim (.int .i64 (10))] else .tup [rV (can (qI x y)),.prim (.int .i64 (0))]):=by
 have h:=new_pc (decide (x<0)) (decide (y<0)) (digitsOf x.natAbs) (digitsOf y.natAbs) hx hy
 rwa [ival_can,ival_can] at h
theorem val_zero (r:Rt):r.val=0↔r.n=0:=by
 unfold Rt.val
 exact Rat.mkRat_eq_zero (Nat.ne_of_gt r.d_pos)
theorem quo_val (a b:Rt):qI (a.n*b.d) (a.d*b.n)=a.val/b.val:=by
 have e1:a.val=Rat.divInt a.n a.d:=rfl
 have e2:b.val=Rat.divInt b.n b.d:=rfl
 rw [Rat.div_def,e1,e2,Rat.inv_divInt,Rat.divInt_mul_divInt];rfl
theorem quoR_pc (a b:Rt) (ha:a.le (2^32)) (hb:b.le (2^32)):PC prog 124 [rV a,rV b] (if b.val=0 then .tup [rV ⟨false,[],[]⟩,.prim (.int .i64 (10))] else .tup [rV (can (a.val/b.val)),.prim (.int .i64 (0))]):=by
 refine PCi ?_
 conv in trip _ _=>cbv
 simp only [runT,RN,simprocAttr]
 have h3:=ha.1
 have h4:=hb.1
 have h5:=ha.2
 have h6:=hb.2
 have h1:=dd_len a h5 (by omega)
 have h2:=dd_len b h6 (by omega)
 have o1:=ofR_pc a (by omega) (by omega)
 have o2:=ofR_pc b (by omega) (by omega)
 have p1:=mul_pc a.neg false a.num b.dd (by omega) (by omega)
 have p2:=mul_pc false b.neg a.dd b.num (by omega) (by omega)
 have e1:=dl_natAbs_mul a.n b.d
 have e2:=dl_natAbs_mul a.d b.n
 have e3:dl a.n.natAbs≤a.num.length:=dl_ival a.neg a.num
 have e4:dl b.n.natAbs≤b.num.length:=dl_ival b.neg b.num
 have e5:=dl_bval a.dd
 have e6:=dl_bval b.dd
 rw [ival_false,bval_dd] at p1 p2
 rw [bval_dd] at e5 e6
 rw [Int.natAbs_natCast] at e1 e2
 have k:=newC_pc (a.n*b.d) (a.d*b.n) (by omega) (by omega)
 have hz:(a.d:Int)*b.n=0↔b.val=0:=by
  rw [val_zero,Int.mul_eq_zero]
  have:=a.d_pos
  constructor
  ·rintro (h|h)
   ·omega
   ·exact h
  ·exact Or.inr
 rw [quo_val] at k
 have p1:PC prog 121 [iN a.neg a.num,iN false b.dd] (cI (a.n*b.d)):=p1
 have p2:PC prog 121 [iN false a.dd,iN b.neg b.num] (cI (a.d*b.n)):=p2
 generalize a.n*(b.d:Int)=x at*
 generalize (a.d:Int)*b.n=y at*
 clear e1 e2 e3 e4 e5 e6 h1 h2 h3 h4 h5 h6
 by_cases hb0:b.val=0
 ·rw [if_pos hb0]
  rw [if_pos (hz.2 hb0)] at k
  simp (disch:=omega) only [↓RS,RZ,simprocAttr,rV]
  refine cX o1 ?_
  simp (disch:=omega) only [↓RS,RZ,simprocAttr,fV]
  refine cX o2 ?_
  simp (disch:=omega) only [↓RS,RZ,simprocAttr,fV]
  refine cX p1 ?_
  simp (disch:=omega) only [↓RS,RZ,simprocAttr,cI,iN]
  refine cX p2 ?_
  simp (disch:=omega) only [↓RS,RZ,simprocAttr,cI,iN]
  refine cX k ?_
  simp (disch:=omega) only [↓RS,RZ,simprocAttr,rV]
  try rfl
 ·rw [if_neg hb0]
  rw [if_neg (fun h=>hb0 (hz.1 h))] at k
  simp (disch:=omega) only [↓RS,RZ,simprocAttr,rV]
  refine cX o1 ?_
  simp (disch:=omega) only [↓RS,RZ,simprocAttr,fV]
  refine cX o2 ?_
  simp (disch:=omega) only [↓RS,RZ,simprocAttr,fV]
  refine cX p1 ?_
  simp (disch:=omega) only [↓RS,RZ,simprocAttr,cI,iN]
  refine cX p2 ?_
  simp (disch:=omega) only [↓RS,RZ,simprocAttr,cI,iN]
  refine cX k ?_
  simp (disch:=omega) only [↓RS,RZ,simprocAttr,rV]
  try rfl
def ht (q:Rat):Nat:=max (dl q.num.natAbs) (dl q.den)
theorem can_le {q:Rat} {k:Nat} (h:ht q≤k):(can q).le k:=by
 have h1:dl q.num.natAbs≤ht q:=Nat.le_max_left _ _
 have h2:dl q.den≤ht q:=Nat.le_max_right _ _
 unfold can Rt.le
 try simp only
 refine ⟨?_,?_⟩
 ·rw [len_dl];omega
 ·split
  ·simp
  ·rw [len_dl];omega
theorem ht_mk (n:Int) (d:Nat) (hd:0<d):ht (mkRat n d)≤max (dl n.natAbs) (dl d):=by
 obtain ⟨h1,h2⟩:=mk_num n d hd
 unfold ht
 rw [h1,h2,sg_natAbs]
 have a1:=dl_mono (Nat.div_le_self n.natAbs (Nat.gcd n.natAbs d))
 have a2:=dl_mono (Nat.div_le_self d (Nat.gcd n.natAbs d))
 omega
theorem ht_self (q:Rat):dl q.num.natAbs≤ht q∧dl q.den≤ht q:=⟨Nat.le_max_left _ _,Nat.le_max_right _ _⟩
theorem ht_add (p q:Rat):ht (p+q)≤ht p+ht q+1:=by
 have e:p+q=mkRat (p.num*q.den+q.num*p.den) (p.den*q.den):=by
  conv=>lhs;rw [←Rat.mkRat_self p,←Rat.mkRat_self q]
  rw [Rat.mkRat_add_mkRat _ _ p.den_nz q.den_nz]
 rw [e]
 have h1:=ht_mk (p.num*q.den+q.num*p.den) (p.den*q.den) (Nat.mul_pos p.den_pos q.den_pos)
 have h2:=dl_natAbs_add (p.num*q.den) (q.num*p.den)
 have h3:=dl_natAbs_mul p.num q.den
 have h4:=dl_natAbs_mul q.num p.den
 have h5:=dl_mul p.den q.den
 rw [Int.natAbs_natCast] at h3 h4
 have a:=ht_self p
 have b:=ht_self q
 omega
theorem ht_mul (p q:Rat):ht (p*q)≤ht p+ht q:=by
 have e:p*q=mkRat (p.num*q.num) (p.den*q.den):=by
  conv=>lhs;rw [←Rat.mkRat_self p,←Rat.mkRat_self q]
  rw [Rat.mkRat_mul_mkRat]
 rw [e]
 have h1:=ht_mk (p.num*q.num) (p.den*q.den) (Nat.mul_pos p.den_pos q.den_pos)
 have h3:=dl_natAbs_mul p.num q.num
 have h5:=dl_mul p.den q.den
 have a:=ht_self p
 have b:=ht_self q
 omega
theorem ht_neg (p:Rat):ht (-p)=ht p:=by unfold ht;rw [Rat.neg_num,Rat.neg_den,Int.natAbs_neg]
theorem ht_sub (p q:Rat):ht (p-q)≤ht p+ht q+1:=by
 rw [Rat.sub_eq_add_neg]
 have:=ht_add p (-q)
 rwa [ht_neg] at this
theorem ht_inv (q:Rat):ht q⁻¹≤ht q+1:=by
 have e:q⁻¹=qI q.den q.num:=by
  have e0:Rat.divInt q.num q.den=q:=Rat.mkRat_self q
  conv=>lhs;rw [←e0,Rat.inv_divInt]
  rfl
 have a:=ht_self q
 by_cases h:q.num=0
 ·have:q=0:=Rat.num_eq_zero.1 h
  subst this
  have:(0:Rat)⁻¹=0:=by rw [Rat.inv_zero]
  rw [this];omega
 ·have h2:q⁻¹=mkRat (if q.num<0 then-(q.den:Int) else q.den) q.num.natAbs:=by
   rw [e]
   split
   ·rename_i h1
    rw [←qI_neg,←qI_pos (by omega),Int.natAbs_neg]
   ·rw [←qI_pos (by omega)]
  rw [h2]
  have h1:=ht_mk (if q.num<0 then-(q.den:Int) else q.den) q.num.natAbs (by omega)
  have h3:(if q.num<0 then-(q.den:Int) else q.den).natAbs=q.den:=by split<;>simp
  rw [h3] at h1
  omega
theorem ht_div (p q:Rat):ht (p/q)≤ht p+ht q+1:=by
 rw [Rat.div_def]
 have:=ht_mul p q⁻¹
 have:=ht_inv q
 omega
def qV (q:Rat):V:=rV (can q)
theorem addQ_pc (p q:Rat) (hp:ht p≤2^32) (hq:ht q≤2^32):PC prog 91 [qV p,qV q] (qV (p+q)):=by
 have h:=addR_pc (can p) (can q) (can_le hp) (can_le hq)
 rwa [can_val,can_val] at h
theorem subQ_pc (p q:Rat) (hp:ht p≤2^32) (hq:ht q≤2^32):PC prog 171 [qV p,qV q] (qV (p-q)):=by
 have h:=subR_pc (can p) (can q) (can_le hp) (can_le hq)
 rwa [can_val,can_val] at h
theorem mulQ_pc (p q:Rat) (hp:ht p≤2^32) (hq:ht q≤2^32):PC prog 94 [qV p,qV q] (qV (p*q)):=by
 have h:=mulR_pc (can p) (can q) (can_le hp) (can_le hq)
 rwa [can_val,can_val] at h
theorem quoQ_pc (p q:Rat) (hp:ht p≤2^32) (hq:ht q≤2^32) (h0:q≠0):PC prog 124 [qV p,qV q] (.tup [qV (p/q),.prim (.int .i64 (0))]):=by
 have h:=quoR_pc (can p) (can q) (can_le hp) (can_le hq)
 rw [can_val,can_val,if_neg h0] at h
 exact h
theorem cmpQ_pc (p q:Rat) (hp:ht p≤2^32) (hq:ht q≤2^32):PC prog 55 [qV p,qV q] (.prim (.int .i64 (cmpQ p q))):=by
 have h:=cmpR_pc (can p) (can q) (can_le hp) (can_le hq)
 rwa [can_val,can_val] at h
theorem signQ_pc (p:Rat) (hp:ht p≤2^32):PC prog 123 [qV p] (.prim (.int .i64 (cmpQ p 0))):=by
 have h:=signR_pc (can p) (can_le hp)
 rwa [can_val] at h
theorem ofQ_pc (n:Int) (h1: -9223372036854775808≤n) (h2:n<9223372036854775808):PC prog 112 [.prim (.int .i64 (n))] (qV (n:Rat)):=ofI_pc n h1 h2
theorem ht_int {n:Int} (h:n.natAbs<256):ht (n:Rat)≤1:=by
 unfold ht
 rw [Rat.num_intCast,Rat.den_intCast]
 have h1:= @dl_le n.natAbs 1 (by omega)
 have h2:= @dl_le 1 1 (by omega)
 omega
theorem checkR2_pc (r:Rt) (h:r.le (2^32)):PC prog 86 [rV r] (.prim (.int .i64 (if r=can r.val then 0 else 1))):=checkR_pc r (by have:=h.1;omega) (by have:=h.2;omega)
end Go.Av
namespace Go.Av
open Go.RowKit
open Go.Proofs.Tryz (prog)
structure Pt where
 x:Rat
 y:Rat
theorem Pt.ext {p q:Pt} (h1:p.x=q.x) (h2:p.y=q.y):p=q:=by cases p;cases q;simp at h1 h2;simp [h1,h2]
instance:DecidableEq Pt:=fun a b=>decidable_of_iff (a.x=b.x∧a.y=b.y) ⟨fun h=>Pt.ext h.1 h.2,fun h=>by subst h;exact ⟨rfl,rfl⟩⟩
def ptV (X Y:Rt):V:= .agg [.prim (.bool X.neg),.prim (.string (bs (X.num))),.prim (.string (bs (X.den))),.prim (.bool Y.neg),.prim (.string (bs (Y.num))),.prim (.string (bs (Y.den)))]
def pV (p:Pt):V:=ptV (can p.x) (can p.y)
def hp (p:Pt):Nat:=max (ht p.x) (ht p.y)
theorem hp_x (p:Pt):ht p.x≤hp p:=Nat.le_max_left _ _
theorem hp_y (p:Pt):ht p.y≤hp p:=Nat.le_max_right _ _
theorem hp_mk {a b:Rat} {k:Nat} (h1:ht a≤k) (h2:ht b≤k):hp ⟨a,b⟩≤k:=Nat.max_le.2 ⟨h1,h2⟩
theorem each_pc (p q:Pt) (f:FuncId) (a b:Rat) (h1:PC prog f [qV p.x,qV q.x] (qV a)) (h2:PC prog f [qV p.y,qV q.y] (qV b)):PC prog 90 [pV p,pV q,.clo f [] []] (pV ⟨a,b⟩):=by
 refine PCi ?_
 conv in trip _ _=>cbv
 simp only [runT,RN,simprocAttr]
 simp (disch:=omega) only [↓RS,RZ,simprocAttr,pV,ptV]
 refine cX h1 ?_
 simp (disch:=omega) only [↓RS,RZ,simprocAttr,qV,rV]
 refine cX h2 ?_
 simp (disch:=omega) only [↓RS,RZ,simprocAttr,qV,rV]
 try rfl
def Pt.add (p q:Pt):Pt:=⟨p.x+q.x,p.y+q.y⟩
def Pt.sub (p q:Pt):Pt:=⟨p.x-q.x,p.y-q.y⟩
def Pt.smul (p:Pt) (r:Rat):Pt:=⟨p.x*r,p.y*r⟩
def cross (p q:Pt):Rat:=p.x*q.y-p.y*q.x
theorem hp_add (p q:Pt):hp (p.add q)≤hp p+hp q+1:=by
 have:=ht_add p.x q.x;have:=ht_add p.y q.y;have:=hp_x p;have:=hp_y p;have:=hp_x q;have:=hp_y q
 exact hp_mk (by omega) (by omega)
theorem hp_sub (p q:Pt):hp (p.sub q)≤hp p+hp q+1:=by
 have:=ht_sub p.x q.x;have:=ht_sub p.y q.y;have:=hp_x p;have:=hp_y p;have:=hp_x q;have:=hp_y q
 exact hp_mk (by omega) (by omega)
theorem hp_smul (p:Pt) (r:Rat):hp (p.smul r)≤hp p+ht r:=by
 have:=ht_mul p.x r;have:=ht_mul p.y r;have:=hp_x p;have:=hp_y p
 exact hp_mk (by omega) (by omega)
theorem ht_cross (p q:Pt):ht (cross p q)≤2*(hp p+hp q)+1:=by
 have:=ht_sub (p.x*q.y) (p.y*q.x);have:=ht_mul p.x q.y;have:=ht_mul p.y q.x;have:=hp_x p;have:=hp_y p;have:=hp_x q;have:=hp_y q
 unfold cross;omega
theorem vadd_pc (p q:Pt) (h1:hp p≤2^32) (h2:hp q≤2^32):PC prog 34 [pV p,pV q] (pV (p.add q)):=by
 have:=hp_x p;have:=hp_y p;have:=hp_x q;have:=hp_y q
 refine PCi ?_
 conv in trip _ _=>cbv
 simp only [runT,RN,simprocAttr]
 have h:=each_pc p q 91 (p.x+q.x) (p.y+q.y) (addQ_pc _ _ (by omega) (by omega)) (addQ_pc _ _ (by omega) (by omega))
 simp (disch:=omega) only [↓RS,RZ,simprocAttr,pV,ptV]
 refine cX h ?_
 simp (disch:=omega) only [↓RS,RZ,simprocAttr,pV,ptV]
 try rfl
theorem vsub_pc (p q:Pt) (h1:hp p≤2^32) (h2:hp q≤2^32):PC prog 103 [pV p,pV q] (pV (p.sub q)):=by
 have:=hp_x p;have:=hp_y p;have:=hp_x q;have:=hp_y q
 refine PCi ?_
 conv in trip _ _=>cbv
 simp only [runT,RN,simprocAttr]
 have h:=each_pc p q 171 (p.x-q.x) (p.y-q.y) (subQ_pc _ _ (by omega) (by omega)) (subQ_pc _ _ (by omega) (by omega))
 simp (disch:=omega) only [↓RS,RZ,simprocAttr,pV,ptV]
 refine cX h ?_
 simp (disch:=omega) only [↓RS,RZ,simprocAttr,pV,ptV]
 try rfl
theorem vscale_pc (p:Pt) (r:Rat) (h1:hp p≤2^32) (h2:ht r≤2^32):PC prog 36 [pV p,qV r] (pV (p.smul r)):=by
 have:=hp_x p;have:=hp_y p
 refine PCi ?_
 conv in trip _ _=>cbv
 simp only [runT,RN,simprocAttr]
 have h:=each_pc p ⟨r,r⟩ 94 (p.x*r) (p.y*r) (mulQ_pc _ _ (by omega) (by omega)) (mulQ_pc _ _ (by omega) (by omega))
 simp (disch:=omega) only [↓RS,RZ,simprocAttr,pV,ptV,qV,rV]
 refine cX h ?_
 simp (disch:=omega) only [↓RS,RZ,simprocAttr,pV,ptV]
 try rfl
theorem vcross_pc (p q:Pt) (h1:hp p≤2^30) (h2:hp q≤2^30):PC prog 102 [pV p,pV q] (qV (cross p q)):=by
 have:=hp_x p;have:=hp_y p;have:=hp_x q;have:=hp_y q
 have:=ht_mul p.x q.y;have:=ht_mul p.y q.x
 refine PCi ?_
 conv in trip _ _=>cbv
 simp only [runT,RN,simprocAttr]
 have h:=each_pc p ⟨q.y,q.x⟩ 94 (p.x*q.y) (p.y*q.x) (mulQ_pc p.x q.y (by omega) (by omega)) (mulQ_pc p.y q.x (by omega) (by omega))
 have hs:=subQ_pc (p.x*q.y) (p.y*q.x) (by omega) (by omega)
 simp (disch:=omega) only [↓RS,RZ,simprocAttr,pV,ptV]
 refine cX h ?_
 simp (disch:=omega) only [↓RS,RZ,simprocAttr,pV,ptV]
 refine cX hs ?_
 simp (disch:=omega) only [↓RS,RZ,simprocAttr,qV,rV]
 try rfl
def cmpP (p q:Pt):Int:=if cmpQ p.x q.x=0 then cmpQ p.y q.y else cmpQ p.x q.x
theorem vcmp_pc (p q:Pt) (h1:hp p≤2^32) (h2:hp q≤2^32):PC prog 13 [pV p,pV q] (.prim (.int .i64 (cmpP p q))):=by
 have:=hp_x p;have:=hp_y p;have:=hp_x q;have:=hp_y q
 refine PCi ?_
 conv in trip _ _=>cbv
 simp only [runT,RN,simprocAttr]
 have c1:=cmpQ_pc p.x q.x (by omega) (by omega)
 have c2:=cmpQ_pc p.y q.y (by omega) (by omega)
 by_cases hc:cmpQ p.x q.x=0
 ·rw [cmpP,if_pos hc]
  rw [hc] at c1
  simp (disch:=omega) only [↓RS,RZ,simprocAttr,pV,ptV]
  refine cX c1 ?_
  simp (disch:=omega) only [↓RS,RZ,simprocAttr]
  refine cX c2 ?_
  simp (disch:=omega) only [↓RS,RZ,simprocAttr]
 ·rw [cmpP,if_neg hc]
  simp (disch:=omega) only [↓RS,RZ,simprocAttr,pV,ptV]
  refine cX c1 ?_
  simp (disch:=omega) only [↓RS,RZ,simprocAttr]
theorem vof_pc (x y:Int) (hx:x.natAbs<256) (hy:y.natAbs<256):PC prog 50 [.prim (.int .i64 (x)),.prim (.int .i64 (y))] (pV ⟨x,y⟩):=by
 refine PCi ?_
 conv in trip _ _=>cbv
 simp only [runT,RN,simprocAttr]
 simp (disch:=omega) only [↓RS,RZ,simprocAttr]
 refine cX (ofQ_pc x (by omega) (by omega)) ?_
 simp (disch:=omega) only [↓RS,RZ,simprocAttr,qV,rV]
 refine cX (ofQ_pc y (by omega) (by omega)) ?_
 simp (disch:=omega) only [↓RS,RZ,simprocAttr,qV,rV,pV,ptV]
 try rfl
def Pt.at (p q:Pt) (t:Rat):Pt:=p.add ((q.sub p).smul t)
theorem hp_at (p q:Pt) (t:Rat):hp (p.at q t)≤2*hp p+hp q+ht t+2:=by
 have:=hp_add p ((q.sub p).smul t);have:=hp_smul (q.sub p) t;have:=hp_sub q p
 unfold Pt.at;omega
theorem vat_pc (p q:Pt) (t:Rat) (h1:hp p≤2^28) (h2:hp q≤2^28) (h3:ht t≤2^28):PC prog 68 [pV p,pV q,qV t] (pV (p.at q t)):=by
 have a1:=hp_smul (q.sub p) t;have a2:=hp_sub q p
 refine PCi ?_
 conv in trip _ _=>cbv
 simp only [runT,RN,simprocAttr]
 have s1:=vsub_pc q p (by omega) (by omega)
 have s2:=vscale_pc (q.sub p) t (by omega) (by omega)
 have s3:=vadd_pc p ((q.sub p).smul t) (by omega) (by omega)
 simp (disch:=omega) only [↓RS,RZ,simprocAttr,pV,ptV,qV,rV]
 refine cX s1 ?_
 simp (disch:=omega) only [↓RS,RZ,simprocAttr,pV,ptV,qV,rV]
 refine cX s2 ?_
 simp (disch:=omega) only [↓RS,RZ,simprocAttr,pV,ptV,qV,rV]
 refine cX s3 ?_
 simp (disch:=omega) only [↓RS,RZ,simprocAttr,pV,ptV]
 try rfl
def itQ (P:Program) (c:LC) (Q:Post) (k:Nat):Post:=fun x T H=>match x with
 | .normal=>iterL (wpL P c) Q k T H
 |x=>Q x T H
theorem wp_iter {P:Program} {c:LC} {T:List V} {H:Hp} {Q:Post} (k:Nat) (h:iterL (wpL P c) Q k T H):wpL P (.loop c) T H Q:=by
 unfold wpL;exact ⟨k,h⟩
theorem iterL_s {P:Program} {c:LC} {T:List V} {H:Hp} {Q:Post} {k:Nat}:iterL (wpL P c) Q (k+1) T H=wpL P c T H (itQ P c Q k):=rfl
theorem itQ_normal {P:Program} {c:LC} {T:List V} {H:Hp} {Q:Post} {k:Nat}:itQ P c Q k .normal T H=iterL (wpL P c) Q k T H:=rfl
theorem itQ_exit {P:Program} {c:LC} {T:List V} {H:Hp} {Q:Post} {k i:Nat}:itQ P c Q k (.exit i) T H=Q (.exit i) T H:=rfl
theorem itQ_ret {P:Program} {c:LC} {T:List V} {H:Hp} {Q:Post} {k:Nat}:itQ P c Q k .ret T H=Q .ret T H:=rfl
theorem vcheck_pc (X Y:Rt) (h1:X.le (2^32)) (h2:Y.le (2^32)):PC prog 30 [ptV X Y] (.prim (.int .i64 (if X=can X.val∧Y=can Y.val then 0 else 1))):=by
 refine PCi ?_
 conv in trip _ _=>cbv
 simp only [runT,RN,simprocAttr]
 have c1:=checkR2_pc X h1
 have c2:=checkR2_pc Y h2
 simp (disch:=omega) only [↓RS,RZ,simprocAttr,ptV]
 refine wp_iter 3 ?_
 simp (disch:=omega) only [↓RS,RZ,simprocAttr,iterL_s,itQ_normal,itQ_exit,itQ_ret,Int.reduceAdd]
 refine cX c1 ?_
 by_cases hx:X=can X.val
 ·rw [if_pos hx]
  simp (disch:=omega) only [↓RS,RZ,simprocAttr,iterL_s,itQ_normal,itQ_exit,itQ_ret,Int.reduceAdd]
  refine cX c2 ?_
  by_cases hy:Y=can Y.val
  ·rw [if_pos hy,if_pos ⟨hx,hy⟩]
   simp (disch:=omega) only [↓RS,RZ,simprocAttr,iterL_s,itQ_normal,itQ_exit,itQ_ret,Int.reduceAdd]
  ·rw [if_neg hy,if_neg (fun h=>hy h.2)]
   simp (disch:=omega) only [↓RS,RZ,simprocAttr,iterL_s,itQ_normal,itQ_exit,itQ_ret,Int.reduceAdd]
 ·rw [if_neg hx,if_neg (fun h=>hx h.1)]
  simp (disch:=omega) only [↓RS,RZ,simprocAttr,iterL_s,itQ_normal,itQ_exit,itQ_ret,Int.reduceAdd]
end Go.Av
