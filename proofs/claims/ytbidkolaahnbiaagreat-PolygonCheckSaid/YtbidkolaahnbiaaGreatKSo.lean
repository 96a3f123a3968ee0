/- Helping texts: So, Sm, Sn. -/
import Derived.Test.YtbidkolaahnbiaaGreatKFh
import Derived.Test.YtbidkolaahnbiaaGreatKRq
set_option linter.unusedSimpArgs false
set_option linter.unusedVariables false
set_option maxRecDepth 100000
set_option maxHeartbeats 16000000
namespace Go.Av
def insK (S:List (List Pt)) (h:List Pt):Nat→Nat
 |0=>0
 |k+1=>if 0<cmpH (S.getD k []) h then insK S h k else k+1
def insH (S:List (List Pt)) (h:List Pt):List (List Pt):=S.take (insK S h S.length)++h::S.drop (insK S h S.length)
theorem cmpH_zero {a b:List Pt}:cmpH a b=0↔a.getD 0 default=b.getD 0 default:=cmpP_zero
theorem insH_perm (S:List (List Pt)) (h:List Pt):(insH S h).Perm (h::S):=by
 unfold insH
 have:=List.take_append_drop (insK S h S.length) S
 refine (List.perm_middle).trans ?_
 rw [this]
theorem insH_length (S:List (List Pt)) (h:List Pt):(insH S h).length=S.length+1:=(insH_perm S h).length_eq
end Go.Av
namespace Go.Av
theorem order_seg {s:Sg} {p:Pt}:onSeg s.order.a s.order.b p↔onSeg s.a s.b p:=by
 unfold Sg.order
 split
 ·exact ⟨onSeg_rev,onSeg_rev⟩
 ·exact Iff.rfl
theorem order_ne {s:Sg} (h:s.ok):s.order.a≠s.order.b:=by
 have h:s.a≠s.b:=fun e=>h (cmpP_zero.2 e)
 unfold Sg.order
 split
 ·exact fun e=>h e.symm
 ·exact h
theorem rmeetS_iff {u v:Sg} (hu:u.a≠u.b) (hv:v.a≠v.b) (ou:cmpP u.a u.b≤0) (ov:cmpP v.a v.b≤0):(rmeetS u v).isSome=true↔Common u.a u.b v.a v.b:=by
 have hsd:u.b.x-u.a.x≠0∨u.b.y-u.a.y≠0:=by
  by_cases hx:u.b.x-u.a.x=0
  ·right;intro hy;exact hu (Pt.ext (by grind) (by grind))
  ·exact .inl hx
 have g1:cmpP u.a (greater u.a v.a)≤0∧cmpP v.a (greater u.a v.a)≤0:=by
  unfold greater
  split
  ·rename_i k;exact ⟨by omega,Int.le_of_eq (cmpP_self _)⟩
  ·rename_i k
   refine ⟨Int.le_of_eq (cmpP_self _),?_⟩
   rcases cmpP_le_total v.a u.a with h|h
   ·exact h
   ·have:cmpP u.a v.a=0:=by omega
    rw [cmpP_zero.1 this];exact Int.le_of_eq (cmpP_self _)
 have g2:cmpP (lesser u.b v.b) u.b≤0∧cmpP (lesser u.b v.b) v.b≤0:=by
  unfold lesser
  split
  ·rename_i k;exact ⟨Int.le_of_eq (cmpP_self _),by omega⟩
  ·rename_i k
   refine ⟨?_,Int.le_of_eq (cmpP_self _)⟩
   rcases cmpP_le_total v.b u.b with h|h
   ·exact h
   ·have:cmpP u.b v.b=0:=by omega
    rw [cmpP_zero.1 this];exact Int.le_of_eq (cmpP_self _)
 unfold rmeetS
 by_cases hd:cross u.dir v.dir=0
 ·rw [if_pos hd]
  simp only [Sg.dir,cross,Pt.sub] at hd
  by_cases ho:orient u.a u.b v.a=0
  ·rw [if_neg (fun h=>h ho)]
   have hw:ar u.a u.b v.a=0:=orient_ar.1 ho
   have a1:ar v.a v.b u.a=0:=by unfold ar at*;rcases hsd with h|h<;>grind
   by_cases hc:0<cmpP (greater u.a v.a) (lesser u.b v.b)
   ·rw [if_pos hc]
    refine ⟨fun h=>(by cases h),fun ⟨p,h1,h2⟩=> ?_⟩
    obtain ⟨o1,o2⟩:=lex_between h1 ou
    obtain ⟨o3,o4⟩:=lex_between h2 ov
    have k1:cmpP (greater u.a v.a) p≤0:=by unfold greater;split<;>assumption
    have k2:cmpP p (lesser u.b v.b)≤0:=by unfold lesser;split<;>assumption
    have:=cmpP_le_trans k1 k2
    omega
   ·rw [if_neg hc]
    have hc:cmpP (greater u.a v.a) (lesser u.b v.b)≤0:=by omega
    refine ⟨fun _=>⟨greater u.a v.a,onSeg_lex ?_ g1.1 (cmpP_le_trans hc g2.1),onSeg_lex ?_ g1.2 (cmpP_le_trans hc g2.2)⟩,fun _=>rfl⟩
    ·rcases greater_or u.a v.a with e|e<;>rw [e]
     ·exact ar_l _ _
     ·exact hw
    ·rcases greater_or u.a v.a with e|e<;>rw [e]
     ·exact a1
     ·exact ar_l _ _
  ·rw [if_pos ho]
   refine ⟨fun h=>(by cases h),fun ⟨p,⟨l,_,_,e1⟩,m,_,_,e2⟩=>(ho (orient_ar.2 ?_)).elim⟩
   have ex:u.a.x+l*(u.b.x-u.a.x)=v.a.x+m*(v.b.x-v.a.x):=congrArg Pt.x (e1.symm.trans e2)
   have ey:u.a.y+l*(u.b.y-u.a.y)=v.a.y+m*(v.b.y-v.a.y):=congrArg Pt.y (e1.symm.trans e2)
   unfold ar;grind
 ·rw [if_neg hd]
  have hP:u.a.add (u.dir.smul (cross (v.a.sub u.a) v.dir/cross u.dir v.dir))=pt u.a u.b (cross (v.a.sub u.a) v.dir/cross u.dir v.dir):=by
   refine Pt.ext ?_ ?_<;>(unfold Pt.add Pt.smul Sg.dir Pt.sub pt;simp only;grind)
  rw [hP]
  have hk:cross (v.a.sub u.a) v.dir/cross u.dir v.dir*cross u.dir v.dir=cross (v.a.sub u.a) v.dir:=Rat.div_mul_cancel hd
  have key:∀ l m,pt u.a u.b l=pt v.a v.b m→l=cross (v.a.sub u.a) v.dir/cross u.dir v.dir:=by
   intro l m e
   have ex:u.a.x+l*(u.b.x-u.a.x)=v.a.x+m*(v.b.x-v.a.x):=congrArg Pt.x e
   have ey:u.a.y+l*(u.b.y-u.a.y)=v.a.y+m*(v.b.y-v.a.y):=congrArg Pt.y e
   have q1:cross (v.a.sub u.a) v.dir=l*cross u.dir v.dir:=by simp only [Sg.dir,cross,Pt.sub];grind
   rw [q1,mul_div' hd]
  generalize cross (v.a.sub u.a) v.dir/cross u.dir v.dir=k at*
  have aP:ar v.a v.b (pt u.a u.b k)=0:=by
   simp only [Sg.dir,cross,Pt.sub] at hk
   unfold ar pt;simp only;grind
  constructor
  ·intro h
   split at h
   ·rename_i hh
    simp only [Bool.and_eq_true,lexIn,decide_eq_true_eq] at hh
    exact ⟨_,onSeg_lex (by rw [ar_pt,ar_l,ar_r];grind) hh.1.1 hh.1.2,onSeg_lex aP hh.2.1 hh.2.2⟩
   ·cases h
  ·rintro ⟨p,h1,h2⟩
   obtain ⟨l,l0,l1,e1⟩:=id h1
   obtain ⟨m,m0,m1,e2⟩:=id h2
   have e:=key l m (e1.symm.trans e2)
   rw [←e,←e1]
   obtain ⟨o1,o2⟩:=lex_between h1 ou
   obtain ⟨o3,o4⟩:=lex_between h2 ov
   have:(lexIn u p&&lexIn v p)=true:=by
    simp only [Bool.and_eq_true,lexIn,decide_eq_true_eq];exact ⟨⟨o1,o2⟩,o3,o4⟩
   rw [if_pos this];rfl
theorem rmeet_eq (s t:Sg):(rmeetM s t).isSome=(meetM s t).isSome:=by
 by_cases hok:s.ok∧t.ok
 ·have e:rmeetM s t=rmeetS s.order t.order:=by unfold rmeetM;rw [if_pos hok]
  rw [Bool.eq_iff_iff,e,rmeetS_iff (order_ne hok.1) (order_ne hok.2) (order_le s) (order_le t)]
  constructor
  ·rintro ⟨p,h1,h2⟩;exact meet_some hok.1 hok.2 ⟨p,order_seg.1 h1,order_seg.1 h2⟩
  ·intro h
   obtain ⟨p,h1,h2⟩:=some_common h
   exact ⟨p,order_seg.2 h1,order_seg.2 h2⟩
 ·unfold rmeetM meetM;rw [if_neg hok,if_neg hok]
def rmeet10 (a b c d:Pt):Bool:=(rbetween a b c||(rbetween a b d||(rbetween c d a||rbetween c d b)))||rcross ⟨a,b⟩ ⟨c,d⟩
theorem orient_cmp (a b c:Pt):orient a b c=cmpQ (ar a b c) 0:=rfl
theorem opp_iff {a b c d:Pt}:orient a b c*orient a b d<0↔(ar a b c<0∧0<ar a b d)∨(0<ar a b c∧ar a b d<0):=by
 rw [orient_cmp,orient_cmp]
 generalize ar a b c=x
 generalize ar a b d=y
 unfold cmpQ
 by_cases h1:x<0<;>by_cases h2:y<0<;>by_cases h3:0<x<;>by_cases h4:0<y<;>simp only [h1,h2,h3,h4,if_true,if_false]<;>first|grind|simp
theorem pt_inj {c d:Pt} (h:c≠d) {l m:Rat} (e:pt c d l=pt c d m):l=m:=by
 have ex:c.x+l*(d.x-c.x)=c.x+m*(d.x-c.x):=congrArg Pt.x e
 have ey:c.y+l*(d.y-c.y)=c.y+m*(d.y-c.y):=congrArg Pt.y e
 by_cases hx:d.x-c.x=0
 ·have hy:d.y-c.y≠0:=fun hy=>h (Pt.ext (by grind) (by grind))
  grind
 ·grind
theorem mid_unit {x y l:Rat} (h:(x<0∧0<y)∨(0<x∧y<0)) (e:x+l*(y-x)=0):0≤l∧l≤1:=by
 rcases h with ⟨h1,h2⟩|⟨h1,h2⟩
 ·constructor
  ·by_cases h:0≤l
   ·exact h
   ·have:=Rat.mul_pos (show 0< -l by grind) (show 0<y-x by grind);grind
  ·by_cases h:l≤1
   ·exact h
   ·have:=Rat.mul_pos (show 0<l-1 by grind) (show 0<y-x by grind);grind
 ·constructor
  ·by_cases h:0≤l
   ·exact h
   ·have:=Rat.mul_pos (show 0< -l by grind) (show 0<x-y by grind);grind
  ·by_cases h:l≤1
   ·exact h
   ·have:=Rat.mul_pos (show 0<l-1 by grind) (show 0<x-y by grind);grind
theorem opp_of {x y l:Rat} (l0:0<l) (l1:l<1) (hx:x≠0) (e:x+l*(y-x)=0):(x<0∧0<y)∨(0<x∧y<0):=by
 by_cases h:x<0
 ·left
  refine ⟨h,?_⟩
  by_cases hy:0<y
  ·exact hy
  ·have:=Rat.mul_pos (show 0<1-l by grind) (show 0< -x by grind)
   have:=Rat.mul_nonneg (Rat.le_of_lt l0) (show 0≤ -y by grind)
   grind
 ·right
  have h:0<x:=by grind
  refine ⟨h,?_⟩
  by_cases hy:y<0
  ·exact hy
  ·have:=Rat.mul_pos (show 0<1-l by grind) h
   have:=Rat.mul_nonneg (Rat.le_of_lt l0) (show 0≤y by grind)
   grind
theorem pt_0 (a b:Pt):pt a b 0=a:=by refine Pt.ext ?_ ?_<;>(unfold pt;simp only;grind)
theorem pt_1 (a b:Pt):pt a b 1=b:=by refine Pt.ext ?_ ?_<;>(unfold pt;simp only;grind)
theorem inner {a b p:Pt} {l:Rat} (l0:0≤l) (l1:l≤1) (e:p=pt a b l) (ha:p≠a) (hb:p≠b):0<l∧l<1:=by
 refine ⟨(lt_or_eq' l0).resolve_right fun h=>ha ?_,(lt_or_eq' l1).resolve_right fun h=>hb ?_⟩
 ·rw [e,←h,pt_0]
 ·rw [e,h,pt_1]
theorem rmeet10_iff {a b c d:Pt} (hab:a≠b) (hcd:c≠d):rmeet10 a b c d=true↔Common a b c d:=by
 unfold rmeet10 rcross
 simp only [Bool.or_eq_true,Bool.and_eq_true,decide_eq_true_eq,rbetween_onSeg hab,rbetween_onSeg hcd,opp_iff]
 constructor
 ·rintro ((h|h|h|h)|⟨h1,h2⟩)
  ·exact ⟨c,h,onSeg_l _ _⟩
  ·exact ⟨d,h,onSeg_r _ _⟩
  ·exact ⟨a,onSeg_l _ _,h⟩
  ·exact ⟨b,onSeg_r _ _,h⟩
  ·obtain ⟨m,m0,m1,hm⟩:=root (f:=ar a b c) (g:=ar a b d) (by
    rcases h1 with ⟨h,k⟩|⟨h,k⟩
    ·exact .inl ⟨Rat.le_of_lt h,Rat.le_of_lt k⟩
    ·exact .inr ⟨Rat.le_of_lt h,Rat.le_of_lt k⟩) (by rcases h1 with ⟨h,k⟩|⟨h,k⟩<;>grind)
   obtain ⟨l,hl⟩:=on_line (p:=pt c d m) hab (by rw [ar_pt];exact hm)
   have e:ar c d a+l*(ar c d b-ar c d a)=0:=by
    rw [←ar_pt,←hl,ar_pt,ar_l,ar_r];grind
   obtain ⟨l0,l1⟩:=mid_unit h2 e
   exact ⟨pt c d m,⟨l,l0,l1,hl⟩,⟨m,m0,m1,rfl⟩⟩
 ·rintro ⟨p,⟨l,l0,l1,e1⟩,m,m0,m1,e2⟩
  by_cases k1:onSeg a b c
  ·exact .inl (.inl k1)
  by_cases k2:onSeg a b d
  ·exact .inl (.inr (.inl k2))
  by_cases k3:onSeg c d a
  ·exact .inl (.inr (.inr (.inl k3)))
  by_cases k4:onSeg c d b
  ·exact .inl (.inr (.inr (.inr k4)))
  right
  have s1:onSeg a b p:=⟨l,l0,l1,e1⟩
  have s2:onSeg c d p:=⟨m,m0,m1,e2⟩
  obtain ⟨l0,l1⟩:=inner l0 l1 e1 (fun e=>k3 (e▸s2)) (fun e=>k4 (e▸s2))
  obtain ⟨m0,m1⟩:=inner m0 m1 e2 (fun e=>k1 (e▸s1)) (fun e=>k2 (e▸s1))
  have q1:ar c d a+l*(ar c d b-ar c d a)=0:=by rw [←ar_pt,←e1,e2,ar_pt,ar_l,ar_r];grind
  have q2:ar a b c+m*(ar a b d-ar a b c)=0:=by rw [←ar_pt,←e2,e1,ar_pt,ar_l,ar_r];grind
  have hA:ar c d a≠0:=by
   intro hA
   have hB:ar c d b=0:=by
    rw [hA] at q1
    have:l*ar c d b=0:=by grind
    rcases Rat.mul_eq_zero.1 this with h|h
    ·grind
    ·exact h
   obtain ⟨x,hx⟩:=on_line hcd hA
   obtain ⟨y,hy⟩:=on_line hcd hB
   have hm:x+l*(y-x)=m:=pt_inj hcd (by rw [←pt_pt,←hx,←hy,←e1,e2])
   have nx:¬(0≤x∧x≤1):=fun h=>k3 ⟨x,h.1,h.2,hx⟩
   have ny:¬(0≤y∧y≤1):=fun h=>k4 ⟨y,h.1,h.2,hy⟩
   have hxy:x≤0∧0≤y∨0≤x∧y≤0:=by
    by_cases h0:x<0
    ·left
     refine ⟨Rat.le_of_lt h0,?_⟩
     by_cases hy0:0≤y
     ·exact hy0
     ·have:=Rat.mul_pos (show 0<1-l by grind) (show 0< -x by grind)
      have:=Rat.mul_pos l0 (show 0< -y by grind)
      grind
    ·right
     have h1:1<x:=by grind
     refine ⟨by grind,?_⟩
     by_cases hy0:y≤0
     ·exact hy0
     ·have h2:1<y:=by grind
      have:=Rat.mul_pos (show 0<1-l by grind) (show 0<x-1 by grind)
      have:=Rat.mul_pos l0 (show 0<y-1 by grind)
      grind
   obtain ⟨u,u0,u1,hu⟩:=root hxy (by rintro rfl;grind)
   refine k1 ⟨u,u0,u1,?_⟩
   rw [hx,hy,pt_pt,hu,pt_0]
  have hC:ar a b c≠0:=by
   intro hC
   have hD:ar a b d=0:=by
    rw [hC] at q2
    have:m*ar a b d=0:=by grind
    rcases Rat.mul_eq_zero.1 this with h|h
    ·grind
    ·exact h
   obtain ⟨x,hx⟩:=on_line hab hC
   obtain ⟨y,hy⟩:=on_line hab hD
   apply hA
   rw [hx,hy]
   unfold ar pt;simp only;grind
  exact ⟨opp_of m0 m1 hC q2,opp_of l0 l1 hA q1⟩
def straightAt (L:List Pt) (i:Nat):Bool:=decide (orient (L.getD i default) (nx L i) (nx L ((i+1)%L.length))=0)
def straightB (L:List Pt):Bool:=anyTo L.length (straightAt L)
def rcrossAt (L:List Pt) (i k:Nat):Bool:=decide (i+2≤k)&&(decide ((k+1)%L.length≠i)&&rmeet10 (L.getD i default) (nx L i) (L.getD k default) (nx L k))
def rcrossB (L:List Pt):Bool:=anyTo L.length fun i=>anyTo L.length (rcrossAt L i)
def rchkC (L:List Pt):Int:=if straightB L=true then 12 else if rcrossB L=true then 13 else if cmpQ (areaL L) 0<0∨leastTo L L.length≠0 then 8 else 0
theorem anyTo_iff {n:Nat} {p:Nat→Bool}:anyTo n p=true↔∃ i,i<n∧p i=true:=by
 unfold anyTo
 rw [List.any_eq_true]
 constructor
 ·rintro ⟨i,h1,h2⟩;exact ⟨i,by simpa using h1,h2⟩
 ·rintro ⟨i,h1,h2⟩;exact ⟨i,by simpa using h1,h2⟩
theorem anyTo_congr {n:Nat} {p q:Nat→Bool} (h:∀ i,i<n→p i=q i):anyTo n p=anyTo n q:=by
 rw [Bool.eq_iff_iff,anyTo_iff,anyTo_iff]
 exact ⟨fun ⟨i,h1,h2⟩=>⟨i,h1,by rw [←h i h1];exact h2⟩,fun ⟨i,h1,h2⟩=>⟨i,h1,by rw [h i h1];exact h2⟩⟩
theorem sc_back {n i:Nat} (h:i<n):((i+1)%n+n-1)%n=i:=by
 rcases Nat.lt_or_ge (i+1) n with hlt|hge
 ·rw [Nat.mod_eq_of_lt hlt,show i+1+n-1=i+n by omega,Nat.add_mod_right,Nat.mod_eq_of_lt h]
 ·rw [show i+1=n by omega,Nat.mod_self,Nat.zero_add,Nat.mod_eq_of_lt (by omega)];omega
theorem sc_fwd {n i:Nat} (h:i<n):((i+n-1)%n+1)%n=i:=by
 rcases Nat.eq_zero_or_pos i with h0|h0
 ·rw [h0,Nat.zero_add,Nat.mod_eq_of_lt (show n-1<n by omega),show n-1+1=n by omega,Nat.mod_self]
 ·rw [show i+n-1=i-1+n by omega,Nat.add_mod_right,Nat.mod_eq_of_lt (show i-1<n by omega),show i-1+1=i by omega,Nat.mod_eq_of_lt h]
theorem straight_at {L:List Pt} {i:Nat} (h:i<L.length):straightAt L i=flatAt L ((i+1)%L.length):=by
 unfold straightAt flatAt nx
 rw [sc_back h]
theorem straight_flat {L:List Pt}:straightB L=decide (0≤idxP L.length (flatAt L)):=by
 rw [idxP_nonneg,Bool.eq_iff_iff,straightB,anyTo_iff,List.any_eq_true]
 constructor
 ·rintro ⟨i,h1,h2⟩
  rw [straight_at h1] at h2
  exact ⟨_,by simpa using Nat.mod_lt _ (show 0<L.length by omega),h2⟩
 ·rintro ⟨j,h1,h2⟩
  have h1:j<L.length:=by simpa using h1
  refine ⟨(j+L.length-1)%L.length,Nat.mod_lt _ (by omega),?_⟩
  rw [straight_at (Nat.mod_lt _ (by omega)),sc_fwd h1]
  exact h2
theorem rcross_eq {L:List Pt} (hne:∀ i,i<L.length→L.getD i default≠nx L i):rcrossB L=crossB L:=by
 refine anyTo_congr fun i hi=>anyTo_congr fun k hk=> ?_
 unfold rcrossAt crossAt
 by_cases h2:i+2≤k
 ·rw [decide_eq_true h2,Bool.true_and,Bool.true_and]
  have e1:decide ((k+1)%L.length≠i)= !(decide (i=0)&&decide (k=L.length-1)):=by
   rw [←Bool.decide_and,←decide_not,decide_eq_decide]
   rcases Nat.lt_or_ge (k+1) L.length with h|h
   ·rw [Nat.mod_eq_of_lt h];omega
   ·rw [show k+1=L.length by omega,Nat.mod_self];omega
  have e2:rmeet10 (L.getD i default) (nx L i) (L.getD k default) (nx L k)=(meetM (segOf L i) (segOf L k)).isSome:=by
   have o1:(segOf L i).ok:=fun e=>hne i hi (cmpP_zero.1 e)
   have o2:(segOf L k).ok:=fun e=>hne k hk (cmpP_zero.1 e)
   rw [Bool.eq_iff_iff,rmeet10_iff (hne i hi) (hne k hk)]
   exact ⟨fun h=>meet_some o1 o2 h,fun h=>some_common h⟩
  rw [e1,e2]
 ·rw [decide_eq_false h2,Bool.false_and,Bool.false_and]
theorem rchkC_eq {L:List Pt} (h3:3≤L.length):rchkC L=chkC L:=by
 unfold rchkC chkC
 rw [straight_flat]
 by_cases hf:0≤idxP L.length (flatAt L)
 ·rw [decide_eq_true hf,if_pos rfl,if_pos hf]
 ·rw [decide_eq_false hf,if_neg (by simp),if_neg hf]
  have hfl:=idxP_neg hf
  rw [rcross_eq fun i hi=>flat_next_ne h3 hfl hi]
  by_cases hx:crossB L=true
  ·rw [if_pos hx,if_pos hx]
  ·rw [if_neg hx,if_neg hx]
   have hg:Good L:=Good.of h3 hfl (by simpa using hx)
   have ha:=hg.areaNe
   have:cmpQ (areaL L) 0<0↔cmpQ (areaL L) 0≤0:=by
    have:cmpQ (areaL L) 0≠0:=fun e=>ha (cmpQ_zero.1 e)
    omega
   simp only [this]
end Go.Av
namespace Go.Av
end Go.Av
