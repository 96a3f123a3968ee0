/- Helping texts: Mk, Ml. -/
import Derived.Test.YtkmlhdfpcjkekaaGreatKMe
set_option linter.unusedSimpArgs false
set_option linter.unusedVariables false
set_option maxRecDepth 100000
set_option maxHeartbeats 16000000
namespace Go.Av
theorem pt_ar_l (u v w:Pt) (m:Rat):ar u v (pt v w m)=m*ar u v w:=by unfold ar pt;grind
theorem segOf_sc {L:List Pt} {j:Nat} (h:j<L.length):segOf L j=⟨L.getD j default,L.getD (sc L.length j) default⟩:=by unfold segOf;rw [nx_sc h]
def Steep (E:List Sg):Prop:=∀ s∈E,s.a.y≠s.b.y
end Go.Av
namespace Go.Av
def gsum (g:Sg→Rat):List Sg→Rat
 |[]=>0
 |s::t=>g s+gsum g t
theorem gsum_perm {g:Sg→Rat} {a b:List Sg} (h:a.Perm b):gsum g a=gsum g b:=by
 induction h with
 |nil=>rfl
 |cons s _ ih=>simp only [gsum,ih]
 |swap s t l=>simp only [gsum];grind
 |trans _ _ h1 h2=>exact h1.trans h2
theorem gsum_congr {f g:Sg→Rat} {a:List Sg} (h:∀ s∈a,f s=g s):gsum f a=gsum g a:=by
 induction a with
 |nil=>rfl
 |cons s t ih=>simp only [gsum,h s (List.mem_cons_self ..),ih fun s hs=>h s (List.mem_cons_of_mem _ hs)]
theorem gsum_sub (f g:Sg→Rat) (a:List Sg):gsum f a-gsum g a=gsum (fun s=>f s-g s) a:=by
 induction a with
 |nil=>simp only [gsum];grind
 |cons s t ih=>simp only [gsum,←ih];grind
theorem gsum_filter (k:Rat) (p:Sg→Bool) (g:Sg→Rat) (a:List Sg):gsum (fun s=>if p s=true then k*g s else 0) a=k*gsum g (a.filter p):=by
 induction a with
 |nil=>simp only [List.filter_nil,gsum];grind
 |cons s t ih=>
  rw [List.filter_cons]
  simp only [gsum,ih]
  split
  ·simp only [gsum];grind
  ·grind
theorem xsum_filter (p f:Sg→Bool) (a:List Sg):xsum (fun s=>p s&&f s) a=xsum f (a.filter p):=by
 induction a with
 |nil=>rfl
 |cons s t ih=>
  rw [List.filter_cons]
  simp only [xsum,ih]
  cases p s<;>simp [xsum]
theorem xsum_length (a:List Sg):xsum (fun _=>true) a=decide (a.length%2=1):=by
 induction a with
 |nil=>rfl
 |cons s t ih=>
  simp only [xsum,ih,List.length_cons]
  rcases Nat.mod_two_eq_zero_or_one t.length with h|h
  ·rw [decide_eq_false (by omega),decide_eq_true (by omega)];rfl
  ·rw [decide_eq_true h,decide_eq_false (by omega)];rfl
theorem alternate {x:Sg→Rat} {u:Sg→Bool}:∀ (n:Nat) (l:List Sg),l.length=n→n%2=0→l.Pairwise (fun e f=>x f<x e)→(∀ e∈l,u e=(true^^xsum (fun f=>decide (x e<x f)) l))→
 0≤gsum (fun e=>if u e=true then x e else-x e) l∧(l≠[]→0<gsum (fun e=>if u e=true then x e else-x e) l)
 |_,[],_,_,_,_=>⟨Rat.le_refl,fun h=>absurd rfl h⟩
 |_,[e],hn,h2,_,_=>by simp at hn;omega
 |n,e::f::t,hn,h2,hp,hu=>by
  have hp1:=List.pairwise_cons.1 hp
  have hp2:=List.pairwise_cons.1 hp1.2
  have he:x f<x e:=hp1.1 f (List.mem_cons_self ..)
  have none:∀ (y:Rat) (m:List Sg),(∀ g∈m,x g≤y)→xsum (fun g=>decide (y<x g)) m=false:=by
   intro y m
   induction m with
   |nil=>intro _;rfl
   |cons g m ih=>
    intro h
    simp only [xsum]
    rw [decide_eq_false (Rat.not_lt.2 (h g (List.mem_cons_self ..))),ih fun g hg=>h g (List.mem_cons_of_mem _ hg)];rfl
  have ue:u e=true:=by
   rw [hu e (List.mem_cons_self ..),none (x e) _ ?_];rfl
   intro g hg
   rcases List.mem_cons.1 hg with rfl|hg
   ·exact Rat.le_refl
   ·exact Rat.le_of_lt (hp1.1 g hg)
  have uf:u f=false:=by
   rw [hu f (List.mem_cons_of_mem _ (List.mem_cons_self ..))]
   simp only [xsum]
   rw [decide_eq_true he,decide_eq_false Rat.lt_irrefl,none (x f) t fun g hg=>Rat.le_of_lt (hp2.1 g hg)];rfl
  have ih:=alternate (x:=x) (u:=u) (n-2) t (by simp at hn;omega) (by simp at hn;omega) hp2.2 (fun g hg=>by
   have:=hu g (List.mem_cons_of_mem _ (List.mem_cons_of_mem _ hg))
   rw [this]
   simp only [xsum]
   rw [decide_eq_true (hp1.1 g (List.mem_cons_of_mem _ hg)),decide_eq_true (hp2.1 g hg)]
   cases xsum (fun f=>decide (x g<x f)) t<;>rfl)
  simp only [gsum,ue,uf,if_true,Bool.false_eq_true,if_false]
  have h0:=ih.1
  exact ⟨by grind,fun _=>by grind⟩
theorem alternate' {x:Sg→Rat} {u:Sg→Bool} (l:List Sg) (h2:l.length%2=0) (hp:l.Pairwise (fun e f=>x e≠x f)) (hu:∀ e∈l,u e=(true^^xsum (fun f=>decide (x e<x f)) l)):
 0≤gsum (fun e=>if u e=true then x e else-x e) l∧(l≠[]→0<gsum (fun e=>if u e=true then x e else-x e) l):=by
 have pm:=List.mergeSort_perm l (fun e f=>decide (x f≤x e))
 have sm:=List.pairwise_mergeSort (le:=fun e f=>decide (x f≤x e)) (fun a b c h1 h2=>by simp only [decide_eq_true_eq] at*;exact Rat.le_trans h2 h1)
  (fun a b=>by simp only [Bool.or_eq_true,decide_eq_true_eq];exact Rat.le_total) l
 have pp:(l.mergeSort (fun e f=>decide (x f≤x e))).Pairwise (fun e f=>x e≠x f):=(pm.symm.pairwise_iff (fun h e=>h e.symm)).1 hp
 generalize l.mergeSort (fun e f=>decide (x f≤x e))=m at*
 have hs:m.Pairwise (fun e f=>x f<x e):=by
  refine (sm.and pp).imp fun {e f} h=> ?_
  have h1:=of_decide_eq_true h.1
  rcases lt_or_eq' h1 with k|k
  ·exact k
  ·exact absurd k.symm h.2
 have:=alternate (x:=x) (u:=u) m.length m rfl (by rw [pm.length_eq];exact h2) hs (fun e he=>by rw [hu e (pm.mem_iff.1 he),xsum_perm pm])
 rw [gsum_perm pm] at this
 refine ⟨this.1,fun hne=>this.2 fun e=>hne ?_⟩
 subst e
 exact List.length_eq_zero_iff.1 (by rw [←pm.length_eq];rfl)
def Sg.up (s:Sg):Bool:=decide (s.a.y<s.b.y)
def Sg.sl (s:Sg):Rat:=(s.b.x-s.a.x)/(s.b.y-s.a.y)
def Sg.X (s:Sg) (y:Rat):Rat:=s.a.x+(y-s.a.y)*s.sl
def Sg.lo (s:Sg):Rat:=if s.up=true then s.a.y else s.b.y
def Sg.hi (s:Sg):Rat:=if s.up=true then s.b.y else s.a.y
def Sg.F (s:Sg) (y:Rat):Rat:=2*(s.a.x-s.a.y*s.sl)*y+s.sl*(y*y)
def Sg.clip (s:Sg) (t:Rat):Rat:=if t≤s.lo then s.lo else if s.hi≤t then s.hi else t
def Sg.sg (s:Sg):Rat:=if s.up=true then 1 else-1
def Sg.T (t:Rat) (s:Sg):Rat:=s.sg*(s.F (s.clip t)-s.F s.lo)
def Sg.cov (y:Rat) (s:Sg):Bool:=decide (s.lo≤y)&&decide (y<s.hi)
theorem Sg.sl_mul {s:Sg} (h:s.a.y≠s.b.y):s.sl*(s.b.y-s.a.y)=s.b.x-s.a.x:=by
 have:s.b.y-s.a.y≠0:=fun e=>h (by grind)
 unfold Sg.sl
 grind
theorem Sg.lo_hi {s:Sg} (h:s.a.y≠s.b.y):s.lo<s.hi:=by
 unfold Sg.lo Sg.hi Sg.up
 by_cases k:s.a.y<s.b.y
 ·rw [decide_eq_true k,if_pos rfl,if_pos rfl];exact k
 ·rw [decide_eq_false k,if_neg (by simp),if_neg (by simp)];grind
theorem Sg.F_sub (s:Sg) (t t':Rat):s.F t'-s.F t=(t'-t)*(2*s.X ((t+t')/2)):=by
 unfold Sg.F Sg.X
 have:(t+t')/2*2=t+t':=by grind
 generalize (t+t')/2=m at*
 grind
theorem Sg.T_step {s:Sg} (hz:s.a.y≠s.b.y) {t t':Rat} (h:t<t') (n1:¬(t<s.a.y∧s.a.y<t')) (n2:¬(t<s.b.y∧s.b.y<t')):
 s.T t'-s.T t=if s.cov ((t+t')/2)=true then (2*(t'-t))*(if s.up=true then s.X ((t+t')/2) else-s.X ((t+t')/2)) else 0:=by
 have lh:=Sg.lo_hi hz
 have m1:¬(t<s.lo∧s.lo<t'):=by unfold Sg.lo;split<;>assumption
 have m2:¬(t<s.hi∧s.hi<t'):=by unfold Sg.hi;split<;>assumption
 have hm1:t<(t+t')/2:=by grind
 have hm2:(t+t')/2<t':=by grind
 have F:=s.F_sub t t'
 unfold Sg.T Sg.cov
 by_cases c1:s.lo≤(t+t')/2
 ·have d1:s.lo≤t:=by grind
  by_cases c2:(t+t')/2<s.hi
  ·have d2:t'≤s.hi:=by grind
   have e1:s.clip t=t:=by unfold Sg.clip;split<;>(try split)<;>grind
   have e2:s.clip t'=t':=by unfold Sg.clip;split<;>(try split)<;>grind
   rw [decide_eq_true c1,decide_eq_true c2,e1,e2,Bool.and_self,if_pos rfl]
   unfold Sg.sg
   by_cases hu:s.up=true
   ·rw [if_pos hu,if_pos hu];grind
   ·rw [if_neg hu,if_neg hu];grind
  ·have d2:s.hi≤t:=by grind
   have e1:s.clip t=s.hi:=by unfold Sg.clip;split<;>(try split)<;>grind
   have e2:s.clip t'=s.hi:=by unfold Sg.clip;split<;>(try split)<;>grind
   rw [decide_eq_false c2,Bool.and_false,e1,e2,if_neg (by simp)]
   grind
 ·have d1:t'≤s.lo:=by grind
  have e1:s.clip t=s.lo:=by unfold Sg.clip;split<;>(try split)<;>grind
  have e2:s.clip t'=s.lo:=by unfold Sg.clip;split<;>(try split)<;>grind
  rw [decide_eq_false c1,Bool.false_and,e1,e2,if_neg (by simp)]
  grind
theorem Sg.T_low {s:Sg} {t:Rat} (h1:t≤s.a.y) (h2:t≤s.b.y):s.T t=0:=by
 have:t≤s.lo:=by unfold Sg.lo;split<;>assumption
 unfold Sg.T Sg.clip
 rw [if_pos this]
 grind
theorem Sg.T_high {s:Sg} (hz:s.a.y≠s.b.y) {t:Rat} (h1:s.a.y≤t) (h2:s.b.y≤t):s.T t=cross s.a s.b-s.a.x*s.a.y+s.b.x*s.b.y:=by
 have lh:=Sg.lo_hi hz
 have d:s.hi≤t:=by unfold Sg.hi;split<;>assumption
 have e:s.clip t=s.hi:=by unfold Sg.clip;split<;>(try split)<;>grind
 have k:=Sg.sl_mul hz
 have F:s.F s.b.y-s.F s.a.y=cross s.a s.b-s.a.x*s.a.y+s.b.x*s.b.y:=by
  unfold Sg.F cross
  have:s.sl*s.b.y=s.b.x-s.a.x+s.sl*s.a.y:=by grind
  grind
 unfold Sg.T
 rw [e]
 unfold Sg.sg Sg.hi Sg.lo
 by_cases hu:s.up=true
 ·rw [if_pos hu,if_pos hu,if_pos hu];grind
 ·rw [if_neg hu,if_neg hu,if_neg hu];grind
theorem Sg.X_pt {s:Sg} (hz:s.a.y≠s.b.y) {y:Rat} (hc:s.cov y=true) (h1:y≠s.a.y) (h2:y≠s.b.y):∃ m:Rat,0<m∧m<1∧(⟨s.X y,y⟩:Pt)=pt s.a s.b m:=by
 have hd:s.b.y-s.a.y≠0:=fun e=>hz (by grind)
 have k:=Sg.sl_mul hz
 unfold Sg.cov Sg.lo Sg.hi Sg.up at hc
 simp only [Bool.and_eq_true,decide_eq_true_eq] at hc
 obtain ⟨m,hm⟩:∃ m:Rat,m*(s.b.y-s.a.y)=y-s.a.y:=⟨(y-s.a.y)/(s.b.y-s.a.y),by grind⟩
 have e:(⟨s.X y,y⟩:Pt)=pt s.a s.b m:=by
  refine Pt.ext ?_ ?_
  ·unfold Sg.X pt;simp only
   rw [←hm,←k];grind
  ·unfold pt;simp only;grind
 refine ⟨m,?_,?_,e⟩
 ·rcases lt_tri 0 m with q|q|q
  ·exact q
  ·exact absurd (show y=s.a.y by rw [←q] at hm;grind) h1
  ·by_cases hu:s.a.y<s.b.y
   ·have:=Rat.mul_pos (show 0< -m by grind) (show 0<s.b.y-s.a.y by grind)
    rw [if_pos hu,if_pos hu] at hc
    grind
   ·have:=Rat.mul_pos (show 0< -m by grind) (show 0<s.a.y-s.b.y by grind)
    rw [if_neg hu,if_neg hu] at hc
    grind
 ·rcases lt_tri m 1 with q|q|q
  ·exact q
  ·exact absurd (show y=s.b.y by rw [q] at hm;grind) h2
  ·by_cases hu:s.a.y<s.b.y
   ·have:=Rat.mul_pos (show 0<m-1 by grind) (show 0<s.b.y-s.a.y by grind)
    rw [if_pos hu,if_pos hu] at hc
    grind
   ·have:=Rat.mul_pos (show 0<m-1 by grind) (show 0<s.a.y-s.b.y by grind)
    rw [if_neg hu,if_neg hu] at hc
    grind
theorem Sg.cr_X {f:Sg} (hz:f.a.y≠f.b.y) (x y:Rat):Av.cr ⟨x,y⟩ f.a f.b=(f.cov y&&decide (x<f.X y)):=by
 have k:=Sg.sl_mul hz
 unfold Sg.cov Sg.lo Sg.hi Sg.up Av.cr
 by_cases hu:f.a.y<f.b.y
 ·rw [if_pos (Rat.le_of_lt hu),decide_eq_true hu,if_pos rfl,if_pos rfl]
  have hd:0<f.b.y-f.a.y:=by grind
  have e:ar f.a f.b ⟨x,y⟩=(f.b.y-f.a.y)*(f.X y-x):=by unfold ar Sg.X;simp only;rw [←k];grind
  have:=mul_pos_iff' (w:=f.X y-x) hd
  rw [←Bool.decide_and,←Bool.decide_and,decide_eq_decide]
  unfold crU
  rw [e,this]
  try simp only
  constructor
  ·intro h;exact ⟨⟨h.1,h.2.1⟩,by have:=h.2.2;grind⟩
  ·intro h;exact ⟨h.1.1,h.1.2,by have:=h.2;grind⟩
 ·rw [if_neg (by grind),decide_eq_false hu,if_neg (by simp),if_neg (by simp)]
  have hd:0<f.a.y-f.b.y:=by grind
  have e:ar f.b f.a ⟨x,y⟩=(f.a.y-f.b.y)*(f.X y-x):=by
   have k2:f.a.x=f.b.x+f.sl*(f.a.y-f.b.y):=by grind
   unfold ar Sg.X;simp only;grind
  have:=mul_pos_iff' (w:=f.X y-x) hd
  rw [←Bool.decide_and,←Bool.decide_and,decide_eq_decide]
  unfold crU
  rw [e,this]
  try simp only
  constructor
  ·intro h;exact ⟨⟨h.1,h.2.1⟩,by have:=h.2.2;grind⟩
  ·intro h;exact ⟨h.1.1,h.1.2,by have:=h.2;grind⟩
theorem Sg.cov_xor {s:Sg} {y:Rat} (h1:y≠s.a.y) (h2:y≠s.b.y):s.cov y=(decide (s.a.y≤y)^^decide (s.b.y≤y)):=by
 unfold Sg.cov Sg.lo Sg.hi Sg.up
 by_cases hu:s.a.y<s.b.y
 ·rw [decide_eq_true hu,if_pos rfl,if_pos rfl]
  by_cases k1:s.a.y≤y<;>by_cases k2:s.b.y≤y
  ·rw [decide_eq_true k1,decide_eq_true k2,decide_eq_false (by grind)];rfl
  ·rw [decide_eq_true k1,decide_eq_false k2,decide_eq_true (by grind)];rfl
  ·exact absurd (Rat.le_trans (Rat.le_of_lt hu) k2) k1
  ·rw [decide_eq_false k1,decide_eq_false k2];rfl
 ·rw [decide_eq_false hu,if_neg (by simp),if_neg (by simp)]
  by_cases k1:s.a.y≤y<;>by_cases k2:s.b.y≤y
  ·rw [decide_eq_true k1,decide_eq_true k2,decide_eq_false (by grind)];rfl
  ·exact absurd (Rat.le_trans (Rat.not_lt.1 hu) k1) k2
  ·rw [decide_eq_false k1,decide_eq_true k2,decide_eq_true (by grind)];rfl
  ·rw [decide_eq_false k1,decide_eq_false k2];rfl
structure Lefts (E:List Sg):Prop where
 steep:Steep E
 closed:(E.map Sg.b).Perm (E.map Sg.a)
 apart:E.Pairwise fun e f=>∀ q,onSeg e.a e.b q→onSeg f.a f.b q→q=e.a∨q=e.b
 left:∀ e∈E,∀ m:Rat,0<m→m<1→xsum (fun s=>cr (pt e.a e.b m) s.a s.b) E=(true^^e.up)
theorem Lefts.xends {E:List Sg} (h:Lefts E) (w:Pt→Bool):xsum (fun s=>w s.a^^w s.b) E=false:=by
 rw [xsum_xor,←psum_map w Sg.a,←psum_map w Sg.b,psum_perm h.closed,Bool.xor_self]
def ords (E:List Sg):List Rat:=E.map (fun s=>s.a.y)++E.map (fun s=>s.b.y)
theorem ords_a {E:List Sg} {s:Sg} (h:s∈E):s.a.y∈ords E:=List.mem_append.2 (.inl (List.mem_map.2 ⟨s,h,rfl⟩))
theorem ords_b {E:List Sg} {s:Sg} (h:s∈E):s.b.y∈ords E:=List.mem_append.2 (.inr (List.mem_map.2 ⟨s,h,rfl⟩))
theorem Lefts.slab {E:List Sg} (h:Lefts E) {t t':Rat} (ht:t<t') (hn:∀ y∈ords E,¬(t<y∧y<t')):
 gsum (Sg.T t) E≤gsum (Sg.T t') E∧((∃ s∈E,s.cov ((t+t')/2)=true)→gsum (Sg.T t) E<gsum (Sg.T t') E):=by
 have hm1:t<(t+t')/2:=by grind
 have hm2:(t+t')/2<t':=by grind
 have ny:∀ y∈ords E,(t+t')/2≠y:=fun y hy e=>hn y hy (by rw [←e];exact ⟨hm1,hm2⟩)
 have d:gsum (Sg.T t') E-gsum (Sg.T t) E=(2*(t'-t))*gsum (fun s=>if s.up=true then s.X ((t+t')/2) else-s.X ((t+t')/2)) (E.filter (Sg.cov ((t+t')/2))):=by
  rw [gsum_sub,←gsum_filter]
  exact gsum_congr fun s hs=>Sg.T_step (h.steep s hs) ht (hn _ (ords_a hs)) (hn _ (ords_b hs))
 generalize (t+t')/2=y at*
 have ev:(E.filter (Sg.cov y)).length%2=0:=by
  have e1:xsum (Sg.cov y) E=false:=by
   rw [xsum_congr (g:=fun s=>decide (s.a.y≤y)^^decide (s.b.y≤y)) fun s hs=>Sg.cov_xor (ny _ (ords_a hs)) (ny _ (ords_b hs))]
   exact h.xends fun p=>decide (p.y≤y)
  have e2:=xsum_filter (Sg.cov y) (fun _=>true) E
  simp only [Bool.and_true] at e2
  rw [show (fun s=>Sg.cov y s)=Sg.cov y from rfl,e1,xsum_length] at e2
  have:=of_decide_eq_false e2.symm
  omega
 have al:=alternate' (x:=fun s=>s.X y) (u:=Sg.up) (E.filter (Sg.cov y)) ev (by
  refine (List.Pairwise.and_mem.1 (h.apart.filter _)).imp ?_
  rintro e f ⟨he,hf,hq⟩ hx
  obtain ⟨e1,e2⟩:=List.mem_filter.1 he
  obtain ⟨f1,f2⟩:=List.mem_filter.1 hf
  obtain ⟨m,m0,m1,em⟩:=Sg.X_pt (h.steep e e1) e2 (ny _ (ords_a e1)) (ny _ (ords_b e1))
  obtain ⟨k,k0,k1,ek⟩:=Sg.X_pt (h.steep f f1) f2 (ny _ (ords_a f1)) (ny _ (ords_b f1))
  rcases hq ⟨e.X y,y⟩ ⟨m,Rat.le_of_lt m0,Rat.le_of_lt m1,em⟩ (by rw [hx];exact ⟨k,Rat.le_of_lt k0,Rat.le_of_lt k1,ek⟩) with q|q
  ·exact ny _ (ords_a e1) (congrArg Pt.y q)
  ·exact ny _ (ords_b e1) (congrArg Pt.y q)) (fun e he=>by
  obtain ⟨e1,e2⟩:=List.mem_filter.1 he
  obtain ⟨m,m0,m1,em⟩:=Sg.X_pt (h.steep e e1) e2 (ny _ (ords_a e1)) (ny _ (ords_b e1))
  have l:=h.left e e1 m m0 m1
  rw [←em,xsum_congr (g:=fun f=>f.cov y&&decide (e.X y<f.X y)) fun f hf=>Sg.cr_X (h.steep f hf) _ _,xsum_filter] at l
  rw [l]
  cases e.up<;>rfl)
 generalize gsum (fun s=>if s.up=true then s.X y else-s.X y) (E.filter (Sg.cov y))=S at*
 have hd:0<2*(t'-t):=by grind
 constructor
 ·have:=Rat.mul_nonneg (Rat.le_of_lt hd) al.1
  grind
 ·rintro ⟨s,hs,hc⟩
  have:=Rat.mul_pos hd (al.2 fun e=>by
   have:s∈E.filter (Sg.cov y):=List.mem_filter.2 ⟨hs,hc⟩
   rw [e] at this;cases this)
  grind
theorem countP_less {p q:Rat→Bool} {s:Rat}:∀ {Y:List Rat},(∀ y,p y=true→q y=true)→s∈Y→q s=true→p s=false→Y.countP p<Y.countP q
 |y::Y,h,hs,h1,h2=>by
  have le:Y.countP p≤Y.countP q:=List.countP_mono_left fun y _ hy=>h y hy
  rw [List.countP_cons,List.countP_cons]
  rcases List.mem_cons.1 hs with rfl|hs
  ·rw [h1,h2,if_pos rfl,if_neg (by simp)];omega
  ·have:=countP_less h hs h1 h2
   by_cases hp:p y=true
   ·rw [if_pos hp,if_pos (h y hp)];omega
   ·rw [if_neg hp];split<;>omega
theorem Lefts.mono {E:List Sg} (h:Lefts E):∀ (n:Nat) (t t':Rat),t<t'→(ords E).countP (fun y=>decide (t<y)&&decide (y<t'))≤n→
 gsum (Sg.T t) E≤gsum (Sg.T t') E∧((∃ s∈E,s.lo≤t∧t'≤s.hi)→gsum (Sg.T t) E<gsum (Sg.T t') E)
 |n,t,t',ht,hn=>by
  by_cases hx:∃ y∈ords E,t<y∧y<t'
  ·obtain ⟨y,hy,h1,h2⟩:=hx
   have c1:(ords E).countP (fun z=>decide (t<z)&&decide (z<y))<(ords E).countP (fun z=>decide (t<z)&&decide (z<t')):=
    countP_less (s:=y) (fun z hz=>by simp only [Bool.and_eq_true,decide_eq_true_eq] at*;grind) hy (by simp [h1,h2]) (by simp [Rat.lt_irrefl])
   have c2:(ords E).countP (fun z=>decide (y<z)&&decide (z<t'))<(ords E).countP (fun z=>decide (t<z)&&decide (z<t')):=
    countP_less (s:=y) (fun z hz=>by simp only [Bool.and_eq_true,decide_eq_true_eq] at*;grind) hy (by simp [h1,h2]) (by simp [Rat.lt_irrefl])
   match n,hn with
   |0,hn=>omega
   |n+1,hn=>
    obtain ⟨a1,a2⟩:=h.mono n t y h1 (by omega)
    obtain ⟨b1,b2⟩:=h.mono n y t' h2 (by omega)
    refine ⟨Rat.le_trans a1 b1,?_⟩
    rintro ⟨s,hs,k1,k2⟩
    have:=a2 ⟨s,hs,k1,by grind⟩
    grind
  ·obtain ⟨a1,a2⟩:=h.slab ht (fun y hy k=>hx ⟨y,hy,k⟩)
   refine ⟨a1,?_⟩
   rintro ⟨s,hs,k1,k2⟩
   refine a2 ⟨s,hs,?_⟩
   unfold Sg.cov
   rw [decide_eq_true (by grind),decide_eq_true (by grind)];rfl
theorem bound_low:∀ l:List Rat,∃ t,∀ y∈l,t<y
 |[]=>⟨0,fun _ h=>by cases h⟩
 |y::l=>by
  obtain ⟨t,ht⟩:=bound_low l
  by_cases h:t<y
  ·exact ⟨t,fun z hz=>by
    rcases List.mem_cons.1 hz with rfl|hz
    ·exact h
    ·exact ht z hz⟩
  ·exact ⟨y-1,fun z hz=>by
    rcases List.mem_cons.1 hz with rfl|hz
    ·grind
    ·have:=ht z hz;grind⟩
theorem bound_high:∀ l:List Rat,∃ t,∀ y∈l,y<t
 |[]=>⟨0,fun _ h=>by cases h⟩
 |y::l=>by
  obtain ⟨t,ht⟩:=bound_high l
  by_cases h:y<t
  ·exact ⟨t,fun z hz=>by
    rcases List.mem_cons.1 hz with rfl|hz
    ·exact h
    ·exact ht z hz⟩
  ·exact ⟨y+1,fun z hz=>by
    rcases List.mem_cons.1 hz with rfl|hz
    ·grind
    ·have:=ht z hz;grind⟩
theorem gsum_zero {g:Sg→Rat}:∀ {E:List Sg},(∀ s∈E,g s=0)→gsum g E=0
 |[],_=>rfl
 |s::E,h=>by simp only [gsum];rw [h s (List.mem_cons_self ..),gsum_zero fun s hs=>h s (List.mem_cons_of_mem _ hs)];grind
theorem gsum_esum {E:List Sg}:gsum (fun s=>cross s.a s.b-s.a.x*s.a.y+s.b.x*s.b.y) E=esum E-rsum (fun p=>p.x*p.y) (E.map Sg.a)+rsum (fun p=>p.x*p.y) (E.map Sg.b):=by
 induction E with
 |nil=>simp only [gsum,esum,List.map_nil,rsum];grind
 |cons s E ih=>simp only [gsum,esum,List.map_cons,rsum,ih];grind
theorem Lefts.pos {E:List Sg} (h:Lefts E) (hne:E≠[]):0<esum E:=by
 obtain ⟨s,hs⟩:=List.exists_mem_of_ne_nil E hne
 obtain ⟨t,ht⟩:=bound_low (ords E)
 obtain ⟨t',ht'⟩:=bound_high (ords E)
 have e0:gsum (Sg.T t) E=0:=gsum_zero fun s hs=>Sg.T_low (Rat.le_of_lt (ht _ (ords_a hs))) (Rat.le_of_lt (ht _ (ords_b hs)))
 have e1:gsum (Sg.T t') E=esum E:=by
  rw [gsum_congr (g:=fun s=>cross s.a s.b-s.a.x*s.a.y+s.b.x*s.b.y) fun s hs=>Sg.T_high (h.steep s hs) (Rat.le_of_lt (ht' _ (ords_a hs))) (Rat.le_of_lt (ht' _ (ords_b hs))),gsum_esum,rsum_perm h.closed]
  grind
 have l1:t<s.lo:=by unfold Sg.lo;split;exact ht _ (ords_a hs);exact ht _ (ords_b hs)
 have l2:s.hi<t':=by unfold Sg.hi;split;exact ht' _ (ords_b hs);exact ht' _ (ords_a hs)
 have lh:=Sg.lo_hi (h.steep s hs)
 have k1:=(h.mono _ t s.lo l1 (Nat.le_refl _)).1
 have k2:=(h.mono _ s.lo s.hi lh (Nat.le_refl _)).2 ⟨s,hs,Rat.le_refl,Rat.le_refl⟩
 have k3:=(h.mono _ s.hi t' l2 (Nat.le_refl _)).1
 grind
end Go.Av
