/- Helping texts: Sm, Sn, So, Sb. -/
import Derived.Test.YtbidkolaahnbiaaGreatKRq
import Derived.Test.YtbidkolaahnbiaaGreatKMm
import Derived.Test.YtbidkolaahnbiaaGreatKFa
set_option linter.unusedSimpArgs false
set_option linter.unusedVariables false
set_option maxRecDepth 100000
set_option maxHeartbeats 16000000
namespace Go.Av
theorem order_seg {s:Sg} {p:Pt}:onSeg s.order.a s.order.b p↔onSeg s.a s.b p:=by
 unfold Sg.order
 split
 ·exact ⟨onSeg_rev,onSeg_rev⟩
 ·exact Iff.rfl
theorem order_ne {s:Sg} (h:s.ok):s.order.a≠s.order.b:=by
 have h:s.a≠s.b:=fun e=>h (cmpP_zero.2 e)
 unfold Sg.order
 split
 ·exact fun e=>h e.symm
 ·exact h
theorem rmeetS_iff {u v:Sg} (hu:u.a≠u.b) (hv:v.a≠v.b) (ou:cmpP u.a u.b≤0) (ov:cmpP v.a v.b≤0):(rmeetS u v).isSome=true↔Common u.a u.b v.a v.b:=by
 have hsd:u.b.x-u.a.x≠0∨u.b.y-u.a.y≠0:=by
  by_cases hx:u.b.x-u.a.x=0
  ·right;intro hy;exact hu (Pt.ext (by grind) (by grind))
  ·exact .inl hx
 have g1:cmpP u.a (greater u.a v.a)≤0∧cmpP v.a (greater u.a v.a)≤0:=by
  unfold greater
  split
  ·rename_i k;exact ⟨by omega,Int.le_of_eq (cmpP_self _)⟩
  ·rename_i k
   refine ⟨Int.le_of_eq (cmpP_self _),?_⟩
   rcases cmpP_le_total v.a u.a with h|h
   ·exact h
   ·have:cmpP u.a v.a=0:=by omega
    rw [cmpP_zero.1 this];exact Int.le_of_eq (cmpP_self _)
 have g2:cmpP (lesser u.b v.b) u.b≤0∧cmpP (lesser u.b v.b) v.b≤0:=by
  unfold lesser
  split
  ·rename_i k;exact ⟨Int.le_of_eq (cmpP_self _),by omega⟩
  ·rename_i k
   refine ⟨?_,Int.le_of_eq (cmpP_self _)⟩
   rcases cmpP_le_total v.b u.b with h|h
   ·exact h
   ·have:cmpP u.b v.b=0:=by omega
    rw [cmpP_zero.1 this];exact Int.le_of_eq (cmpP_self _)
 unfold rmeetS
 by_cases hd:cross u.dir v.dir=0
 ·rw [if_pos hd]
  simp only [Sg.dir,cross,Pt.sub] at hd
  by_cases ho:orient u.a u.b v.a=0
  ·rw [if_neg (fun h=>h ho)]
   have hw:ar u.a u.b v.a=0:=orient_ar.1 ho
   have a1:ar v.a v.b u.a=0:=by unfold ar at*;rcases hsd with h|h<;>grind
   by_cases hc:0<cmpP (greater u.a v.a) (lesser u.b v.b)
   ·rw [if_pos hc]
    refine ⟨fun h=>(by cases h),fun ⟨p,h1,h2⟩=> ?_⟩
    obtain ⟨o1,o2⟩:=lex_between h1 ou
    obtain ⟨o3,o4⟩:=lex_between h2 ov
    have k1:cmpP (greater u.a v.a) p≤0:=by unfold greater;split<;>assumption
    have k2:cmpP p (lesser u.b v.b)≤0:=by unfold lesser;split<;>assumption
    have:=cmpP_le_trans k1 k2
    omega
   ·rw [if_neg hc]
    have hc:cmpP (greater u.a v.a) (lesser u.b v.b)≤0:=by omega
    refine ⟨fun _=>⟨greater u.a v.a,onSeg_lex ?_ g1.1 (cmpP_le_trans hc g2.1),onSeg_lex ?_ g1.2 (cmpP_le_trans hc g2.2)⟩,fun _=>rfl⟩
    ·rcases greater_or u.a v.a with e|e<;>rw [e]
     ·exact ar_l _ _
     ·exact hw
    ·rcases greater_or u.a v.a with e|e<;>rw [e]
     ·exact a1
     ·exact ar_l _ _
  ·rw [if_pos ho]
   refine ⟨fun h=>(by cases h),fun ⟨p,⟨l,_,_,e1⟩,m,_,_,e2⟩=>(ho (orient_ar.2 ?_)).elim⟩
   have ex:u.a.x+l*(u.b.x-u.a.x)=v.a.x+m*(v.b.x-v.a.x):=congrArg Pt.x (e1.symm.trans e2)
   have ey:u.a.y+l*(u.b.y-u.a.y)=v.a.y+m*(v.b.y-v.a.y):=congrArg Pt.y (e1.symm.trans e2)
   unfold ar;grind
 ·rw [if_neg hd]
  have hP:u.a.add (u.dir.smul (cross (v.a.sub u.a) v.dir/cross u.dir v.dir))=pt u.a u.b (cross (v.a.sub u.a) v.dir/cross u.dir v.dir):=by
   refine Pt.ext ?_ ?_<;>(unfold Pt.add Pt.smul Sg.dir Pt.sub pt;simp only;grind)
  rw [hP]
  have hk:cross (v.a.sub u.a) v.dir/cross u.dir v.dir*cross u.dir v.dir=cross (v.a.sub u.a) v.dir:=Rat.div_mul_cancel hd
  have key:∀ l m,pt u.a u.b l=pt v.a v.b m→l=cross (v.a.sub u.a) v.dir/cross u.dir v.dir:=by
   intro l m e
   have ex:u.a.x+l*(u.b.x-u.a.x)=v.a.x+m*(v.b.x-v.a.x):=congrArg Pt.x e
   have ey:u.a.y+l*(u.b.y-u.a.y)=v.a.y+m*(v.b.y-v.a.y):=congrArg Pt.y e
   have q1:cross (v.a.sub u.a) v.dir=l*cross u.dir v.dir:=by simp only [Sg.dir,cross,Pt.sub];grind
   rw [q1,mul_div' hd]
  generalize cross (v.a.sub u.a) v.dir/cross u.dir v.dir=k at*
  have aP:ar v.a v.b (pt u.a u.b k)=0:=by
   simp only [Sg.dir,cross,Pt.sub] at hk
   unfold ar pt;simp only;grind
  constructor
  ·intro h
   split at h
   ·rename_i hh
    simp only [Bool.and_eq_true,lexIn,decide_eq_true_eq] at hh
    exact ⟨_,onSeg_lex (by rw [ar_pt,ar_l,ar_r];grind) hh.1.1 hh.1.2,onSeg_lex aP hh.2.1 hh.2.2⟩
   ·cases h
  ·rintro ⟨p,h1,h2⟩
   obtain ⟨l,l0,l1,e1⟩:=id h1
   obtain ⟨m,m0,m1,e2⟩:=id h2
   have e:=key l m (e1.symm.trans e2)
   rw [←e,←e1]
   obtain ⟨o1,o2⟩:=lex_between h1 ou
   obtain ⟨o3,o4⟩:=lex_between h2 ov
   have:(lexIn u p&&lexIn v p)=true:=by
    simp only [Bool.and_eq_true,lexIn,decide_eq_true_eq];exact ⟨⟨o1,o2⟩,o3,o4⟩
   rw [if_pos this];rfl
theorem rmeet_eq (s t:Sg):(rmeetM s t).isSome=(meetM s t).isSome:=by
 by_cases hok:s.ok∧t.ok
 ·have e:rmeetM s t=rmeetS s.order t.order:=by unfold rmeetM;rw [if_pos hok]
  rw [Bool.eq_iff_iff,e,rmeetS_iff (order_ne hok.1) (order_ne hok.2) (order_le s) (order_le t)]
  constructor
  ·rintro ⟨p,h1,h2⟩;exact meet_some hok.1 hok.2 ⟨p,order_seg.1 h1,order_seg.1 h2⟩
  ·intro h
   obtain ⟨p,h1,h2⟩:=some_common h
   exact ⟨p,order_seg.2 h1,order_seg.2 h2⟩
 ·unfold rmeetM meetM;rw [if_neg hok,if_neg hok]
def rmeet10 (a b c d:Pt):Bool:=(rbetween a b c||(rbetween a b d||(rbetween c d a||rbetween c d b)))||rcross ⟨a,b⟩ ⟨c,d⟩
theorem orient_cmp (a b c:Pt):orient a b c=cmpQ (ar a b c) 0:=rfl
theorem opp_iff {a b c d:Pt}:orient a b c*orient a b d<0↔(ar a b c<0∧0<ar a b d)∨(0<ar a b c∧ar a b d<0):=by
 rw [orient_cmp,orient_cmp]
 generalize ar a b c=x
 generalize ar a b d=y
 unfold cmpQ
 by_cases h1:x<0<;>by_cases h2:y<0<;>by_cases h3:0<x<;>by_cases h4:0<y<;>simp only [h1,h2,h3,h4,if_true,if_false]<;>first|grind|simp
theorem pt_inj {c d:Pt} (h:c≠d) {l m:Rat} (e:pt c d l=pt c d m):l=m:=by
 have ex:c.x+l*(d.x-c.x)=c.x+m*(d.x-c.x):=congrArg Pt.x e
 have ey:c.y+l*(d.y-c.y)=c.y+m*(d.y-c.y):=congrArg Pt.y e
 by_cases hx:d.x-c.x=0
 ·have hy:d.y-c.y≠0:=fun hy=>h (Pt.ext (by grind) (by grind))
  grind
 ·grind
theorem mid_unit {x y l:Rat} (h:(x<0∧0<y)∨(0<x∧y<0)) (e:x+l*(y-x)=0):0≤l∧l≤1:=by
 rcases h with ⟨h1,h2⟩|⟨h1,h2⟩
 ·constructor
  ·by_cases h:0≤l
   ·exact h
   ·have:=Rat.mul_pos (show 0< -l by grind) (show 0<y-x by grind);grind
  ·by_cases h:l≤1
   ·exact h
   ·have:=Rat.mul_pos (show 0<l-1 by grind) (show 0<y-x by grind);grind
 ·constructor
  ·by_cases h:0≤l
   ·exact h
   ·have:=Rat.mul_pos (show 0< -l by grind) (show 0<x-y by grind);grind
  ·by_cases h:l≤1
   ·exact h
   ·have:=Rat.mul_pos (show 0<l-1 by grind) (show 0<x-y by grind);grind
theorem opp_of {x y l:Rat} (l0:0<l) (l1:l<1) (hx:x≠0) (e:x+l*(y-x)=0):(x<0∧0<y)∨(0<x∧y<0):=by
 by_cases h:x<0
 ·left
  refine ⟨h,?_⟩
  by_cases hy:0<y
  ·exact hy
  ·have:=Rat.mul_pos (show 0<1-l by grind) (show 0< -x by grind)
   have:=Rat.mul_nonneg (Rat.le_of_lt l0) (show 0≤ -y by grind)
   grind
 ·right
  have h:0<x:=by grind
  refine ⟨h,?_⟩
  by_cases hy:y<0
  ·exact hy
  ·have:=Rat.mul_pos (show 0<1-l by grind) h
   have:=Rat.mul_nonneg (Rat.le_of_lt l0) (show 0≤y by grind)
   grind
theorem pt_0 (a b:Pt):pt a b 0=a:=by refine Pt.ext ?_ ?_<;>(unfold pt;simp only;grind)
theorem pt_1 (a b:Pt):pt a b 1=b:=by refine Pt.ext ?_ ?_<;>(unfold pt;simp only;grind)
theorem inner {a b p:Pt} {l:Rat} (l0:0≤l) (l1:l≤1) (e:p=pt a b l) (ha:p≠a) (hb:p≠b):0<l∧l<1:=by
 refine ⟨(lt_or_eq' l0).resolve_right fun h=>ha ?_,(lt_or_eq' l1).resolve_right fun h=>hb ?_⟩
 ·rw [e,←h,pt_0]
 ·rw [e,h,pt_1]
theorem rmeet10_iff {a b c d:Pt} (hab:a≠b) (hcd:c≠d):rmeet10 a b c d=true↔Common a b c d:=by
 unfold rmeet10 rcross
 simp only [Bool.or_eq_true,Bool.and_eq_true,decide_eq_true_eq,rbetween_onSeg hab,rbetween_onSeg hcd,opp_iff]
 constructor
 ·rintro ((h|h|h|h)|⟨h1,h2⟩)
  ·exact ⟨c,h,onSeg_l _ _⟩
  ·exact ⟨d,h,onSeg_r _ _⟩
  ·exact ⟨a,onSeg_l _ _,h⟩
  ·exact ⟨b,onSeg_r _ _,h⟩
  ·obtain ⟨m,m0,m1,hm⟩:=root (f:=ar a b c) (g:=ar a b d) (by
    rcases h1 with ⟨h,k⟩|⟨h,k⟩
    ·exact .inl ⟨Rat.le_of_lt h,Rat.le_of_lt k⟩
    ·exact .inr ⟨Rat.le_of_lt h,Rat.le_of_lt k⟩) (by rcases h1 with ⟨h,k⟩|⟨h,k⟩<;>grind)
   obtain ⟨l,hl⟩:=on_line (p:=pt c d m) hab (by rw [ar_pt];exact hm)
   have e:ar c d a+l*(ar c d b-ar c d a)=0:=by
    rw [←ar_pt,←hl,ar_pt,ar_l,ar_r];grind
   obtain ⟨l0,l1⟩:=mid_unit h2 e
   exact ⟨pt c d m,⟨l,l0,l1,hl⟩,⟨m,m0,m1,rfl⟩⟩
 ·rintro ⟨p,⟨l,l0,l1,e1⟩,m,m0,m1,e2⟩
  by_cases k1:onSeg a b c
  ·exact .inl (.inl k1)
  by_cases k2:onSeg a b d
  ·exact .inl (.inr (.inl k2))
  by_cases k3:onSeg c d a
  ·exact .inl (.inr (.inr (.inl k3)))
  by_cases k4:onSeg c d b
  ·exact .inl (.inr (.inr (.inr k4)))
  right
  have s1:onSeg a b p:=⟨l,l0,l1,e1⟩
  have s2:onSeg c d p:=⟨m,m0,m1,e2⟩
  obtain ⟨l0,l1⟩:=inner l0 l1 e1 (fun e=>k3 (e▸s2)) (fun e=>k4 (e▸s2))
  obtain ⟨m0,m1⟩:=inner m0 m1 e2 (fun e=>k1 (e▸s1)) (fun e=>k2 (e▸s1))
  have q1:ar c d a+l*(ar c d b-ar c d a)=0:=by rw [←ar_pt,←e1,e2,ar_pt,ar_l,ar_r];grind
  have q2:ar a b c+m*(ar a b d-ar a b c)=0:=by rw [←ar_pt,←e2,e1,ar_pt,ar_l,ar_r];grind
  have hA:ar c d a≠0:=by
   intro hA
   have hB:ar c d b=0:=by
    rw [hA] at q1
    have:l*ar c d b=0:=by grind
    rcases Rat.mul_eq_zero.1 this with h|h
    ·grind
    ·exact h
   obtain ⟨x,hx⟩:=on_line hcd hA
   obtain ⟨y,hy⟩:=on_line hcd hB
   have hm:x+l*(y-x)=m:=pt_inj hcd (by rw [←pt_pt,←hx,←hy,←e1,e2])
   have nx:¬(0≤x∧x≤1):=fun h=>k3 ⟨x,h.1,h.2,hx⟩
   have ny:¬(0≤y∧y≤1):=fun h=>k4 ⟨y,h.1,h.2,hy⟩
   have hxy:x≤0∧0≤y∨0≤x∧y≤0:=by
    by_cases h0:x<0
    ·left
     refine ⟨Rat.le_of_lt h0,?_⟩
     by_cases hy0:0≤y
     ·exact hy0
     ·have:=Rat.mul_pos (show 0<1-l by grind) (show 0< -x by grind)
      have:=Rat.mul_pos l0 (show 0< -y by grind)
      grind
    ·right
     have h1:1<x:=by grind
     refine ⟨by grind,?_⟩
     by_cases hy0:y≤0
     ·exact hy0
     ·have h2:1<y:=by grind
      have:=Rat.mul_pos (show 0<1-l by grind) (show 0<x-1 by grind)
      have:=Rat.mul_pos l0 (show 0<y-1 by grind)
      grind
   obtain ⟨u,u0,u1,hu⟩:=root hxy (by rintro rfl;grind)
   refine k1 ⟨u,u0,u1,?_⟩
   rw [hx,hy,pt_pt,hu,pt_0]
  have hC:ar a b c≠0:=by
   intro hC
   have hD:ar a b d=0:=by
    rw [hC] at q2
    have:m*ar a b d=0:=by grind
    rcases Rat.mul_eq_zero.1 this with h|h
    ·grind
    ·exact h
   obtain ⟨x,hx⟩:=on_line hab hC
   obtain ⟨y,hy⟩:=on_line hab hD
   apply hA
   rw [hx,hy]
   unfold ar pt;simp only;grind
  exact ⟨opp_of m0 m1 hC q2,opp_of l0 l1 hA q1⟩
def straightAt (L:List Pt) (i:Nat):Bool:=decide (orient (L.getD i default) (nx L i) (nx L ((i+1)%L.length))=0)
def straightB (L:List Pt):Bool:=anyTo L.length (straightAt L)
def rcrossAt (L:List Pt) (i k:Nat):Bool:=decide (i+2≤k)&&(decide ((k+1)%L.length≠i)&&rmeet10 (L.getD i default) (nx L i) (L.getD k default) (nx L k))
def rcrossB (L:List Pt):Bool:=anyTo L.length fun i=>anyTo L.length (rcrossAt L i)
def rchkC (L:List Pt):Int:=if straightB L=true then 12 else if rcrossB L=true then 13 else if cmpQ (areaL L) 0<0∨leastTo L L.length≠0 then 8 else 0
theorem anyTo_iff {n:Nat} {p:Nat→Bool}:anyTo n p=true↔∃ i,i<n∧p i=true:=by
 unfold anyTo
 rw [List.any_eq_true]
 constructor
 ·rintro ⟨i,h1,h2⟩;exact ⟨i,by simpa using h1,h2⟩
 ·rintro ⟨i,h1,h2⟩;exact ⟨i,by simpa using h1,h2⟩
theorem anyTo_congr {n:Nat} {p q:Nat→Bool} (h:∀ i,i<n→p i=q i):anyTo n p=anyTo n q:=by
 rw [Bool.eq_iff_iff,anyTo_iff,anyTo_iff]
 exact ⟨fun ⟨i,h1,h2⟩=>⟨i,h1,by rw [←h i h1];exact h2⟩,fun ⟨i,h1,h2⟩=>⟨i,h1,by rw [h i h1];exact h2⟩⟩
theorem sc_back {n i:Nat} (h:i<n):((i+1)%n+n-1)%n=i:=by
 rcases Nat.lt_or_ge (i+1) n with hlt|hge
 ·rw [Nat.mod_eq_of_lt hlt,show i+1+n-1=i+n by omega,Nat.add_mod_right,Nat.mod_eq_of_lt h]
 ·rw [show i+1=n by omega,Nat.mod_self,Nat.zero_add,Nat.mod_eq_of_lt (by omega)];omega
theorem sc_fwd {n i:Nat} (h:i<n):((i+n-1)%n+1)%n=i:=by
 rcases Nat.eq_zero_or_pos i with h0|h0
 ·rw [h0,Nat.zero_add,Nat.mod_eq_of_lt (show n-1<n by omega),show n-1+1=n by omega,Nat.mod_self]
 ·rw [show i+n-1=i-1+n by omega,Nat.add_mod_right,Nat.mod_eq_of_lt (show i-1<n by omega),show i-1+1=i by omega,Nat.mod_eq_of_lt h]
theorem straight_at {L:List Pt} {i:Nat} (h:i<L.length):straightAt L i=flatAt L ((i+1)%L.length):=by
 unfold straightAt flatAt nx
 rw [sc_back h]
theorem straight_flat {L:List Pt}:straightB L=decide (0≤idxP L.length (flatAt L)):=by
 rw [idxP_nonneg,Bool.eq_iff_iff,straightB,anyTo_iff,List.any_eq_true]
 constructor
 ·rintro ⟨i,h1,h2⟩
  rw [straight_at h1] at h2
  exact ⟨_,by simpa using Nat.mod_lt _ (show 0<L.length by omega),h2⟩
 ·rintro ⟨j,h1,h2⟩
  have h1:j<L.length:=by simpa using h1
  refine ⟨(j+L.length-1)%L.length,Nat.mod_lt _ (by omega),?_⟩
  rw [straight_at (Nat.mod_lt _ (by omega)),sc_fwd h1]
  exact h2
theorem rcross_eq {L:List Pt} (hne:∀ i,i<L.length→L.getD i default≠nx L i):rcrossB L=crossB L:=by
 refine anyTo_congr fun i hi=>anyTo_congr fun k hk=> ?_
 unfold rcrossAt crossAt
 by_cases h2:i+2≤k
 ·rw [decide_eq_true h2,Bool.true_and,Bool.true_and]
  have e1:decide ((k+1)%L.length≠i)= !(decide (i=0)&&decide (k=L.length-1)):=by
   rw [←Bool.decide_and,←decide_not,decide_eq_decide]
   rcases Nat.lt_or_ge (k+1) L.length with h|h
   ·rw [Nat.mod_eq_of_lt h];omega
   ·rw [show k+1=L.length by omega,Nat.mod_self];omega
  have e2:rmeet10 (L.getD i default) (nx L i) (L.getD k default) (nx L k)=(meetM (segOf L i) (segOf L k)).isSome:=by
   have o1:(segOf L i).ok:=fun e=>hne i hi (cmpP_zero.1 e)
   have o2:(segOf L k).ok:=fun e=>hne k hk (cmpP_zero.1 e)
   rw [Bool.eq_iff_iff,rmeet10_iff (hne i hi) (hne k hk)]
   exact ⟨fun h=>meet_some o1 o2 h,fun h=>some_common h⟩
  rw [e1,e2]
 ·rw [decide_eq_false h2,Bool.false_and,Bool.false_and]
theorem rchkC_eq {L:List Pt} (h3:3≤L.length):rchkC L=chkC L:=by
 unfold rchkC chkC
 rw [straight_flat]
 by_cases hf:0≤idxP L.length (flatAt L)
 ·rw [decide_eq_true hf,if_pos rfl,if_pos hf]
 ·rw [decide_eq_false hf,if_neg (by simp),if_neg hf]
  have hfl:=idxP_neg hf
  rw [rcross_eq fun i hi=>flat_next_ne h3 hfl hi]
  by_cases hx:crossB L=true
  ·rw [if_pos hx,if_pos hx]
  ·rw [if_neg hx,if_neg hx]
   have hg:Good L:=Good.of h3 hfl (by simpa using hx)
   have ha:=hg.areaNe
   have:cmpQ (areaL L) 0<0↔cmpQ (areaL L) 0≤0:=by
    have:cmpQ (areaL L) 0≠0:=fun e=>ha (cmpQ_zero.1 e)
    omega
   simp only [this]
end Go.Av
namespace Go.Av
end Go.Av
namespace Go.Av
end Go.Av
namespace Go.Av
open Go.RowKit
open Go.Proofs.Tryz (prog)
theorem allOk_false {l:List Rp} {i:Nat} (hi:i<l.length) (h:(l.getD i default).ok=false):allOk l=false:=by
 unfold allOk
 rw [List.all_eq_false]
 exact ⟨i,by simpa using hi,fun k=>by rw [h] at k;cases k⟩
theorem allOk_true {l:List Rp} (h:∀ i,i<l.length→(l.getD i default).ok=true):allOk l=true:=by
 unfold allOk
 rw [List.all_eq_true]
 intro i hi
 exact h i (by simpa using hi)
theorem rcanonical_pc (l:List Rp) (hl:l.length<2^40) (h:∀ p∈l,p.le (2^32)):PC prog 227 [rpsV l] (.prim (.bool (allOk l))):=by
 refine PCi ?_
 conv in trip _ _=>cbv
 simp only [runT,RN,simprocAttr]
 simp (disch:=omega) only [↓RS,RZ,simprocAttr,rpsV,rpc_length]
 refine wp_lp (fun (i:Nat) J=>ov [(0,rpsV l),(3,.prim (.int .i64 ((i:Nat):Int)))] J 0 16) (fun i H=>(i≤l.length∧∀ j,j<i→(l.getD j default).ok=true)∧H=[]) (fun i=>l.length-i) 0 rfl ⟨⟨Nat.zero_le _,fun j hj=>absurd hj (Nat.not_lt_zero j)⟩,rfl⟩ ?_
 rintro i J _ ⟨⟨hi,hp⟩,rfl⟩
 try conv in ov _ _ _ _=>simp only [ov,List.lookup,RO,simprocAttr]
 rcases Nat.lt_or_ge i l.length with hlt|hge
 ·have g:=rpc_getD hlt
  have hm:l.getD i default∈l:=by rw [List.getD_eq_getElem?_getD,List.getElem?_eq_getElem hlt];exact List.getElem_mem hlt
  have c:=rvcheck_pc (l.getD i default).x (l.getD i default).y (h _ hm).1 (h _ hm).2
  by_cases ho:(l.getD i default).x=can (l.getD i default).x.val∧(l.getD i default).y=can (l.getD i default).y.val
  ·have e:(l.getD i default).ok=true:=decide_eq_true ho
   rw [if_pos ho] at c
   simp (disch:=omega) only [↓RS,RZ,simprocAttr,rpsV,rpc_length,g,rpc]
   refine cX c ?_
   simp (disch:=omega) only [↓RS,RZ,simprocAttr]
   exact lp_next (i+1) rfl ⟨⟨hlt,fun j hj=>by
    rcases Nat.lt_or_ge j i with h|h
    ·exact hp j h
    ·rw [show j=i by omega];exact e⟩,rfl⟩ (by omega)
  ·have e:(l.getD i default).ok=false:=decide_eq_false ho
   rw [if_neg ho] at c
   rw [allOk_false hlt e]
   simp (disch:=omega) only [↓RS,RZ,simprocAttr,rpsV,rpc_length,g,rpc]
   refine cX c ?_
   simp (disch:=omega) only [↓RS,RZ,simprocAttr]
 ·have hia:i=l.length:=by omega
  subst hia
  rw [allOk_true hp]
  simp (disch:=omega) only [↓RS,RZ,simprocAttr,rpsV,rpc_length]
theorem rnext_pc (L:List Pt) (i:Nat) (h0:0<L.length) (hn:L.length<2^40) (hi:i<2^40):PC prog 213 [psV L,.prim (.int .i64 ((i:Nat):Int))] (pV (nx L i)):=by
 have m:=Nat.mod_lt (i+1) h0
 have g:=pc_getD m
 unfold nx
 refine PCi ?_
 conv in trip _ _=>cbv
 simp only [runT,RN,simprocAttr]
 simp (disch:=omega) only [↓RS,RZ,simprocAttr,psV,pc_length,tmodN,g,pc]
 try rfl
theorem rmeet10_pc (a b c d:Pt) (h1:hp a≤2^26) (h2:hp b≤2^26) (h3:hp c≤2^26) (h4:hp d≤2^26):PC prog 282 [pV a,pV b,pV c,pV d] (.prim (.bool (rmeet10 a b c d))):=by
 have b1:=rbetween_pc a b c h1 h2 h3
 have b2:=rbetween_pc a b d h1 h2 h4
 have b3:=rbetween_pc c d a h3 h4 h1
 have b4:=rbetween_pc c d b h3 h4 h2
 have o1:=rorient_pc a b c h1 h2 h3
 have o2:=rorient_pc a b d h1 h2 h4
 have o3:=rorient_pc c d a h3 h4 h1
 have o4:=rorient_pc c d b h3 h4 h2
 have p1:=sign_prod (orient_abs a b c) (orient_abs a b d)
 have p2:=sign_prod (orient_abs c d a) (orient_abs c d b)
 unfold rmeet10 rcross
 generalize orient a b c=x1 at*
 generalize orient a b d=x2 at*
 generalize orient c d a=x3 at*
 generalize orient c d b=x4 at*
 cases e1:rbetween a b c with
 |true=>
  rw [e1] at b1
  rw [Bool.true_or,Bool.true_or]
  refine PCi ?_
  conv in trip _ _=>cbv
  simp only [runT,RN,simprocAttr]
  simp (disch:=omega) only [↓RS,RZ,simprocAttr,pV,ptV]
  refine cX b1 ?_
  simp (disch:=omega) only [↓RS,RZ,simprocAttr]
 |false=>
 rw [e1] at b1
 cases e2:rbetween a b d with
 |true=>
  rw [e2] at b2
  rw [Bool.false_or,Bool.true_or,Bool.true_or]
  refine PCi ?_
  conv in trip _ _=>cbv
  simp only [runT,RN,simprocAttr]
  simp (disch:=omega) only [↓RS,RZ,simprocAttr,pV,ptV]
  refine cX b1 ?_
  simp (disch:=omega) only [↓RS,RZ,simprocAttr,pV,ptV]
  refine cX b2 ?_
  simp (disch:=omega) only [↓RS,RZ,simprocAttr]
 |false=>
 rw [e2] at b2
 cases e3:rbetween c d a with
 |true=>
  rw [e3] at b3
  rw [Bool.false_or,Bool.false_or,Bool.true_or,Bool.true_or]
  refine PCi ?_
  conv in trip _ _=>cbv
  simp only [runT,RN,simprocAttr]
  simp (disch:=omega) only [↓RS,RZ,simprocAttr,pV,ptV]
  refine cX b1 ?_
  simp (disch:=omega) only [↓RS,RZ,simprocAttr,pV,ptV]
  refine cX b2 ?_
  simp (disch:=omega) only [↓RS,RZ,simprocAttr,pV,ptV]
  refine cX b3 ?_
  simp (disch:=omega) only [↓RS,RZ,simprocAttr]
 |false=>
 rw [e3] at b3
 cases e4:rbetween c d b with
 |true=>
  rw [e4] at b4
  rw [Bool.false_or,Bool.false_or,Bool.false_or,Bool.true_or]
  refine PCi ?_
  conv in trip _ _=>cbv
  simp only [runT,RN,simprocAttr]
  simp (disch:=omega) only [↓RS,RZ,simprocAttr,pV,ptV]
  refine cX b1 ?_
  simp (disch:=omega) only [↓RS,RZ,simprocAttr,pV,ptV]
  refine cX b2 ?_
  simp (disch:=omega) only [↓RS,RZ,simprocAttr,pV,ptV]
  refine cX b3 ?_
  simp (disch:=omega) only [↓RS,RZ,simprocAttr,pV,ptV]
  refine cX b4 ?_
  simp (disch:=omega) only [↓RS,RZ,simprocAttr]
 |false=>
 rw [e4] at b4
 rw [Bool.false_or,Bool.false_or,Bool.false_or,Bool.false_or]
 refine PCi ?_
 conv in trip _ _=>cbv
 simp only [runT,RN,simprocAttr]
 simp (disch:=omega) only [↓RS,RZ,simprocAttr,pV,ptV]
 refine cX b1 ?_
 simp (disch:=omega) only [↓RS,RZ,simprocAttr,pV,ptV]
 refine cX b2 ?_
 simp (disch:=omega) only [↓RS,RZ,simprocAttr,pV,ptV]
 refine cX b3 ?_
 simp (disch:=omega) only [↓RS,RZ,simprocAttr,pV,ptV]
 refine cX b4 ?_
 simp (disch:=omega) only [↓RS,RZ,simprocAttr,pV,ptV]
 refine cX o1 ?_
 simp (disch:=omega) only [↓RS,RZ,simprocAttr,pV,ptV]
 refine cX o2 ?_
 by_cases c1:x1*x2<0
 ·by_cases c2:x3*x4<0
  ·rw [decide_eq_true c1,decide_eq_true c2]
   simp (disch:=omega) only [↓RS,RZ,simprocAttr,pV,ptV]
   refine cX o3 ?_
   simp (disch:=omega) only [↓RS,RZ,simprocAttr,pV,ptV]
   refine cX o4 ?_
   simp (disch:=omega) only [↓RS,RZ,simprocAttr]
  ·rw [decide_eq_true c1,decide_eq_false c2]
   simp (disch:=omega) only [↓RS,RZ,simprocAttr,pV,ptV]
   refine cX o3 ?_
   simp (disch:=omega) only [↓RS,RZ,simprocAttr,pV,ptV]
   refine cX o4 ?_
   simp (disch:=omega) only [↓RS,RZ,simprocAttr]
 ·rw [decide_eq_false c1]
  simp (disch:=omega) only [↓RS,RZ,simprocAttr]
theorem nx_le {L:List Pt} {k i:Nat} (h:hl L k) (h0:0<L.length):hp (nx L i)≤k:=hl_get h (Nat.mod_lt _ h0)
theorem rstraight_pc (L:List Pt) (hn:L.length<2^20) (hL:hl L (2^26)):PC prog 237 [psV L] (.prim (.bool (straightB L))):=by
 refine PCi ?_
 conv in trip _ _=>cbv
 simp only [runT,RN,simprocAttr]
 simp (disch:=omega) only [↓RS,RZ,simprocAttr,psV,pc_length]
 refine wp_lp (fun (i:Nat) J=>ov [(0,psV L),(3,.prim (.int .i64 ((L.length:Nat):Int))),(4,.prim (.int .i64 ((i:Nat):Int)))] J 0 27) (fun i _=>i≤L.length∧∀ j,j<i→straightAt L j=false) (fun i=>L.length-i) 0 rfl ⟨Nat.zero_le _,fun j hj=>absurd hj (Nat.not_lt_zero j)⟩ ?_
 rintro i J H ⟨hi,hp⟩
 try conv in ov _ _ _ _=>simp only [ov,List.lookup,RO,simprocAttr]
 rcases Nat.lt_or_ge i L.length with hlt|hge
 ·have m1:=Nat.mod_lt (i+1) (show 0<L.length by omega)
  have g1:=pc_getD hlt
  have n1:=rnext_pc L i (by omega) (by omega) (by omega)
  have n2:=rnext_pc L ((i+1)%L.length) (by omega) (by omega) (by omega)
  have o:=rorient_pc (L.getD i default) (nx L i) (nx L ((i+1)%L.length)) (hl_get hL hlt) (nx_le hL (by omega)) (nx_le hL (by omega))
  have e:straightAt L i=decide (orient (L.getD i default) (nx L i) (nx L ((i+1)%L.length))=0):=rfl
  simp (disch:=omega) only [↓RS,RZ,simprocAttr,psV,pc_length,g1,pc,tmodN,set_app_len]
  refine cX n1 ?_
  simp (disch:=omega) only [↓RS,RZ,simprocAttr,psV,pc_length,g1,pc,tmodN,pV,ptV]
  refine cX n2 ?_
  simp (disch:=omega) only [↓RS,RZ,simprocAttr,pV,ptV]
  refine cX o ?_
  by_cases hz:orient (L.getD i default) (nx L i) (nx L ((i+1)%L.length))=0
  ·rw [decide_eq_true hz] at e
   have hs:straightB L=true:=anyTo_true hlt e
   rw [hs]
   simp (disch:=omega) only [↓RS,RZ,simprocAttr,hz]
  ·rw [decide_eq_false hz] at e
   simp (disch:=omega) only [↓RS,RZ,simprocAttr]
   exact lp_next (i+1) rfl ⟨hlt,fun j hj=>by
    rcases Nat.lt_or_ge j i with h|h
    ·exact hp j h
    ·rw [show j=i by omega];exact e⟩ (by omega)
 ·have hia:i=L.length:=by omega
  subst hia
  have hs:straightB L=false:=anyTo_false hp
  rw [hs]
  simp (disch:=omega) only [↓RS,RZ,simprocAttr,psV,pc_length]
theorem rcrossing_pc (L:List Pt) (hn:L.length≤2^20) (hL:hl L (2^26)):PC prog 229 [psV L] (.prim (.bool (rcrossB L))):=by
 refine PCi ?_
 conv in trip _ _=>cbv
 simp only [runT,RN,simprocAttr]
 simp (disch:=omega) only [↓RS,RZ,simprocAttr,psV,pc_length]
 refine wp_lp (fun (i:Nat) J=>ov [(0,psV L),(3,.prim (.int .i64 ((L.length:Nat):Int))),(4,.prim (.int .i64 ((i:Nat):Int)))] J 0 43) (fun i _=>i≤L.length∧∀ j,j<i→anyTo L.length (rcrossAt L j)=false) (fun i=>L.length-i) 0 rfl ⟨Nat.zero_le _,fun j hj=>absurd hj (Nat.not_lt_zero j)⟩ ?_
 rintro i J H ⟨hi,hp⟩
 try conv in ov _ _ _ _=>simp only [ov,List.lookup,RO,simprocAttr]
 rcases Nat.lt_or_ge i L.length with hlt|hge
 ·simp (disch:=omega) only [↓RS,RZ,simprocAttr,psV,pc_length]
  refine wp_lp (fun (k:Nat) J=>ov [(0,psV L),(3,.prim (.int .i64 ((L.length:Nat):Int))),(4,.prim (.int .i64 ((i:Nat):Int))),(5,.prim (.int .i64 ((k:Nat):Int)))] J 0 43) (fun k _=>i+2≤k∧∀ j,j<k→j<L.length→rcrossAt L i j=false) (fun k=>L.length-k) (i+2) rfl ⟨Nat.le_refl _,fun j hj _=>by
   unfold rcrossAt;rw [decide_eq_false (by omega)];rfl⟩ ?_
  rintro k J H ⟨hk,hq⟩
  try conv in ov _ _ _ _=>simp only [ov,List.lookup,RO,simprocAttr]
  rcases Nat.lt_or_ge k L.length with hkl|hkg
  ·have mk:=Nat.mod_lt (k+1) (show 0<L.length by omega)
   have g1:=pc_getD hlt
   have g2:=pc_getD hkl
   have n1:=rnext_pc L i (by omega) (by omega) (by omega)
   have n2:=rnext_pc L k (by omega) (by omega) (by omega)
   have m:=rmeet10_pc (L.getD i default) (nx L i) (L.getD k default) (nx L k) (hl_get hL hlt) (nx_le hL (by omega)) (hl_get hL hkl) (nx_le hL (by omega))
   have e:rcrossAt L i k=(decide ((k+1)%L.length≠i)&&rmeet10 (L.getD i default) (nx L i) (L.getD k default) (nx L k)):=by unfold rcrossAt;rw [decide_eq_true hk,Bool.true_and]
   by_cases hz:(k+1)%L.length=i
   ·rw [decide_eq_false (fun h=>h hz),Bool.false_and] at e
    simp (disch:=omega) only [↓RS,RZ,simprocAttr,psV,pc_length,tmodN,hz]
    exact lp_next (k+1) rfl ⟨by omega,fun j hj hjl=>by
     rcases Nat.lt_or_ge j k with h|h
     ·exact hq j h hjl
     ·rw [show j=k by omega];exact e⟩ (by omega)
   ·rw [decide_eq_true (show (k+1)%L.length≠i from hz),Bool.true_and] at e
    have hz2:((((k+1)%L.length:Nat):Int) !=(i:Int))=true:=by rw [bne_iff_ne];omega
    generalize rmeet10 (L.getD i default) (nx L i) (L.getD k default) (nx L k)=r at*
    simp (disch:=omega) only [↓RS,RZ,simprocAttr,psV,pc_length,tmodN,g1,g2,pc,hz2]
    refine cX n1 ?_
    simp (disch:=omega) only [↓RS,RZ,simprocAttr,psV,pc_length,g1,g2,pc,pV,ptV]
    refine cX n2 ?_
    simp (disch:=omega) only [↓RS,RZ,simprocAttr,psV,pc_length,g1,g2,pc,pV,ptV]
    refine cX m ?_
    cases r with
    |true=>
     have hs:rcrossB L=true:=anyTo_true hlt (anyTo_true hkl e)
     rw [hs]
     simp (disch:=omega) only [↓RS,RZ,simprocAttr]
    |false=>
     simp (disch:=omega) only [↓RS,RZ,simprocAttr]
     exact lp_next (k+1) rfl ⟨by omega,fun j hj hjl=>by
      rcases Nat.lt_or_ge j k with h|h
      ·exact hq j h hjl
      ·rw [show j=k by omega];exact e⟩ (by omega)
  ·simp (disch:=omega) only [↓RS,RZ,simprocAttr]
   exact lp_next (i+1) rfl ⟨hlt,fun j hj=>by
    rcases Nat.lt_or_ge j i with h|h
    ·exact hp j h
    ·rw [show j=i by omega];exact anyTo_false fun k' hk'=>hq k' (by omega) hk'⟩ (by omega)
 ·have hia:i=L.length:=by omega
  subst hia
  have hs:rcrossB L=false:=anyTo_false hp
  rw [hs]
  simp (disch:=omega) only [↓RS,RZ,simprocAttr,psV,pc_length]
theorem rleast_pc (L:List Pt) (hn:L.length<2^40) (h0:0<L.length) (hL:hl L (2^26)):PC prog 231 [psV L] (.prim (.int .i64 ((leastTo L L.length:Nat):Int))):=by
 have h1:leastTo L 1=0:=by unfold leastTo;split<;>rfl
 refine PCi ?_
 conv in trip _ _=>cbv
 simp only [runT,RN,simprocAttr]
 simp (disch:=omega) only [↓RS,RZ,simprocAttr,psV,pc_length]
 refine wp_lp (fun (i:Nat) J=>ov [(0,psV L),(3,.prim (.int .i64 ((leastTo L i:Nat):Int))),(4,.prim (.int .i64 ((i:Nat):Int)))] J 0 23) (fun i _=>1≤i∧i≤L.length) (fun i=>L.length-i) 1 (by rw [h1];rfl) ⟨Nat.le_refl _,h0⟩ ?_
 rintro i J H ⟨hi1,hi⟩
 try conv in ov _ _ _ _=>simp only [ov,List.lookup,RO,simprocAttr]
 rcases Nat.lt_or_ge i L.length with hlt|hge
 ·have hk:leastTo L i<L.length:=Nat.lt_of_le_of_lt (leastTo_le i) hlt
  have e:leastTo L (i+1)=if cmpP (L.getD i default) (L.getD (leastTo L i) default)<0 then i else leastTo L i:=rfl
  generalize leastTo L i=k at*
  have g1:=pc_getD hlt
  have g2:=pc_getD hk
  have o:=rvcmp_pc (L.getD i default) (L.getD k default) (Nat.le_trans (hl_get hL hlt) (by omega)) (Nat.le_trans (hl_get hL hk) (by omega))
  simp (disch:=omega) only [↓RS,RZ,simprocAttr,psV,pc_length,g1,g2,pc]
  refine cX o ?_
  by_cases hz:cmpP (L.getD i default) (L.getD k default)<0
  ·rw [if_pos hz] at e
   simp (disch:=omega) only [↓RS,RZ,simprocAttr]
   exact lp_next (i+1) (by rw [e];rfl) ⟨by omega,hlt⟩ (by omega)
  ·rw [if_neg hz] at e
   simp (disch:=omega) only [↓RS,RZ,simprocAttr]
   exact lp_next (i+1) (by rw [e];rfl) ⟨by omega,hlt⟩ (by omega)
 ·have hia:i=L.length:=by omega
  subst hia
  simp (disch:=omega) only [↓RS,RZ,simprocAttr,psV,pc_length]
theorem rhalf_pc (q:Rat) (h:ht q≤2^32):PC prog 214 [qV q] (qV (q/2)):=by
 have e:(Rt.mk false [1] [2]).val=1/2:=by decide+kernel
 have k:=rmulR_pc (can q) ⟨false,[1],[2]⟩ (can_le h) ⟨by simp,by simp⟩
 rw [can_val,e,show q*(1/2)=q/2 by grind] at k
 refine PCi ?_
 conv in trip _ _=>cbv
 simp only [runT,RN,simprocAttr]
 simp (disch:=omega) only [↓RS,RZ,simprocAttr,qV,rV]
 refine cX k ?_
 simp (disch:=omega) only [↓RS,RZ,simprocAttr,qV,rV]
 try rfl
theorem rArea_pc (L:List Pt) (hn:L.length≤2^10) (hL:hl L (2^16)):PC prog 139 [psV L] (qV (areaL L)):=by
 have ha:∀ i,i≤L.length→ht (areaTo L i)≤2^29:=fun i hi=>by
  have:=ht_areaTo hL i hi
  have h2:i*(4*2^16+2)≤2^10*(4*2^16+2):=Nat.mul_le_mul_right _ (by omega)
  omega
 have hz:[[V.prim (.bool false),.prim (.string (bs ([]))),.prim (.string (bs ([])))]]=[qc (areaTo L 0)]:=by
  show _=[qc 0];simp only [qc,can_zero]
 refine PCi ?_
 conv in trip _ _=>cbv
 simp only [runT,RN,simprocAttr]
 simp (disch:=omega) only [↓RS,RZ,simprocAttr,psV,pc_length]
 refine wp_lp (fun (i:Nat) J=>ov [(0,psV L),(2,.ptr 0 0 0),(3,.ptr 1 0 0),(4,.prim (.int .i64 ((i:Nat):Int)))] J 0 24) (fun i H=>i≤L.length∧H=[some (.row 3 true [[.prim (.bool false),.prim (.string (bs ([]))),.prim (.string (bs ([])))]]),some (.row 3 true [qc (areaTo L i)])]) (fun i=>L.length-i) 0 rfl ⟨Nat.zero_le _,by rw [←hz]⟩ ?_
 rintro i J _ ⟨hi,rfl⟩
 try conv in ov _ _ _ _=>simp only [ov,List.lookup,RO,simprocAttr]
 rcases Nat.lt_or_ge i L.length with hlt|hge
 ·have b1:=hl_get hL hlt
  have b2:=nx_le (i:=i) hL (by omega)
  have b3:=ha i (by omega)
  have b4:=ht_cross (L.getD i default) (nx L i)
  have g1:=pc_getD hlt
  have n1:=rnext_pc L i (by omega) (by omega) (by omega)
  have c:=rvcross_pc (L.getD i default) (nx L i) (by omega) (by omega)
  have a:=raddQ_pc (areaTo L i) (cross (L.getD i default) (nx L i)) (by omega) (by omega)
  simp (disch:=omega) only [↓RS,RZ,simprocAttr,psV,pc_length,g1,pc,qc]
  refine cX n1 ?_
  simp (disch:=omega) only [↓RS,RZ,simprocAttr,pV,ptV,g1,pc]
  refine cX c ?_
  simp (disch:=omega) only [↓RS,RZ,simprocAttr,qV,rV]
  refine cX a ?_
  simp (disch:=omega) only [↓RS,RZ,simprocAttr,qV,rV]
  exact lp_next (i+1) rfl ⟨hlt,rfl⟩ (by omega)
 ·have hia:i=L.length:=by omega
  subst hia
  have b3:=ha L.length (Nat.le_refl _)
  have k:=rhalf_pc (areaTo L L.length) (by omega)
  simp (disch:=omega) only [↓RS,RZ,simprocAttr,psV,pc_length,qc]
  refine cX k ?_
  simp (disch:=omega) only [↓RS,RZ,simprocAttr,qV,rV]
  try rfl
theorem rcheck10_pc (l:List Rp) (hn:l.length<2^40) (hl0:∀ p∈l,p.le (2^16)):PC prog 163 [rpsV l] (.prim (.int .i64 (chkR l))):=by
 unfold chkR
 by_cases h1:l.length<3
 ·rw [if_pos (.inl h1)]
  refine PCi ?_
  conv in trip _ _=>cbv
  simp only [runT,RN,simprocAttr]
  simp (disch:=omega) only [↓RS,RZ,simprocAttr,rpsV,rpc_length]
 by_cases h2:64<l.length
 ·rw [if_pos (.inr h2)]
  refine PCi ?_
  conv in trip _ _=>cbv
  simp only [runT,RN,simprocAttr]
  simp (disch:=omega) only [↓RS,RZ,simprocAttr,rpsV,rpc_length]
 rw [if_neg (by omega)]
 have c:=rcanonical_pc l (by omega) (fun p hp=>⟨⟨Nat.le_trans (hl0 p hp).1.1 (by omega),Nat.le_trans (hl0 p hp).1.2 (by omega)⟩,⟨Nat.le_trans (hl0 p hp).2.1 (by omega),Nat.le_trans (hl0 p hp).2.2 (by omega)⟩⟩)
 cases ho:allOk l with
 |false=>
  rw [ho] at c
  rw [if_neg (by simp)]
  refine PCi ?_
  conv in trip _ _=>cbv
  simp only [runT,RN,simprocAttr]
  simp (disch:=omega) only [↓RS,RZ,simprocAttr,rpsV,rpc_length]
  refine cX c ?_
  simp (disch:=omega) only [↓RS,RZ,simprocAttr]
 |true=>
  rw [ho] at c
  rw [if_pos rfl]
  have hL:=hl_pts ho hl0 (by omega)
  have hlen:=pts_length l
  rw [raw_can ho] at c ⊢
  generalize pts l=L at*
  have hn:L.length≤64:=by omega
  have h3:3≤L.length:=by omega
  have f:=rstraight_pc L (by omega) (fun p hp=>Nat.le_trans (hL p hp) (by omega))
  have x:=rcrossing_pc L (by omega) (fun p hp=>Nat.le_trans (hL p hp) (by omega))
  have a:=rArea_pc L (by omega) hL
  have hta:ht (areaL L)≤2^30:=by
   have h1:=ht_areaTo hL L.length (Nat.le_refl _)
   have h2:=ht_div (areaTo L L.length) 2
   have h3:=ht_two
   have h4:L.length*(4*2^16+2)≤64*(4*2^16+2):=Nat.mul_le_mul_right _ hn
   unfold areaL
   omega
  have s:=rsignQ_pc (areaL L) (by omega)
  have i:=rleast_pc L (by omega) (by omega) (fun p hp=>Nat.le_trans (hL p hp) (by omega))
  rw [←rchkC_eq h3]
  unfold rchkC
  refine PCi ?_
  conv in trip _ _=>cbv
  simp only [runT,RN,simprocAttr]
  simp (disch:=omega) only [↓RS,RZ,simprocAttr,psV,pc_length]
  refine cX c ?_
  simp (disch:=omega) only [↓RS,RZ,simprocAttr,psV,pc_length]
  refine cX f ?_
  cases h3:straightB L with
  |true=>
   rw [if_pos rfl]
   simp (disch:=omega) only [↓RS,RZ,simprocAttr]
  |false=>
   rw [if_neg (by simp)]
   simp (disch:=omega) only [↓RS,RZ,simprocAttr,psV,pc_length]
   refine cX x ?_
   cases h4:rcrossB L with
   |true=>
    rw [if_pos rfl]
    simp (disch:=omega) only [↓RS,RZ,simprocAttr]
   |false=>
    rw [if_neg (by simp)]
    simp (disch:=omega) only [↓RS,RZ,simprocAttr,psV,pc_length]
    refine cX a ?_
    simp (disch:=omega) only [↓RS,RZ,simprocAttr,qV,rV]
    refine cX s ?_
    by_cases h5:cmpQ (areaL L) 0<0
    ·rw [if_pos (.inl h5)]
     simp (disch:=omega) only [↓RS,RZ,simprocAttr]
    ·by_cases h6:leastTo L L.length=0
     ·rw [if_neg (fun h=>h.elim h5 (fun h=>h h6))]
      simp (disch:=omega) only [↓RS,RZ,simprocAttr,psV,pc_length]
      refine cX i ?_
      simp (disch:=omega) only [↓RS,RZ,simprocAttr]
     ·rw [if_pos (.inr h6)]
      simp (disch:=omega) only [↓RS,RZ,simprocAttr,psV,pc_length]
      refine cX i ?_
      simp (disch:=omega) only [↓RS,RZ,simprocAttr]
end Go.Av
