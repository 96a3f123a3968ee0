/- Helping texts: Mc, Md. -/
import Derived.Test.YtkmlhdfpcjkekaaGreatKDv
set_option linter.unusedSimpArgs false
set_option linter.unusedVariables false
set_option maxRecDepth 100000
set_option maxHeartbeats 16000000
namespace Go.Av
theorem frac {p q:Rat} (hp:0≤p) (hq:0≤q) (h:0<p+q):0≤p/(p+q)∧p/(p+q)≤1:=by
 have hi:0<(p+q)⁻¹:=Rat.inv_pos.2 h
 have h1:=Rat.mul_nonneg hp (Rat.le_of_lt hi)
 have h2:=Rat.mul_nonneg hq (Rat.le_of_lt hi)
 have h3:(p+q)*(p+q)⁻¹=1:=Rat.mul_inv_cancel _ (fun e=>by rw [e] at h;exact absurd h Rat.lt_irrefl)
 constructor<;>grind
theorem root {f g:Rat} (h:f≤0∧0≤g∨0≤f∧g≤0) (hne:f≠g):∃ m,0≤m∧m≤1∧f+m*(g-f)=0:=by
 rcases h with ⟨h1,h2⟩|⟨h1,h2⟩
 ·have hp:0< -f+g:=by grind
  obtain ⟨k1,k2⟩:=frac (p:= -f) (q:=g) (by grind) h2 hp
  have h3:(-f+g)*(-f+g)⁻¹=1:=Rat.mul_inv_cancel _ (fun e=>by rw [e] at hp;exact absurd hp Rat.lt_irrefl)
  exact ⟨_,k1,k2,by grind⟩
 ·have hp:0<f+ -g:=by grind
  obtain ⟨k1,k2⟩:=frac (p:=f) (q:= -g) h1 (by grind) hp
  have h3:(f+ -g)*(f+ -g)⁻¹=1:=Rat.mul_inv_cancel _ (fun e=>by rw [e] at hp;exact absurd hp Rat.lt_irrefl)
  exact ⟨_,k1,k2,by grind⟩
theorem mul_pos_iff' {d w:Rat} (h:0<d):0<d*w↔0<w:=by
 constructor
 ·intro k
  rcases lt_tri 0 w with h1|h1|h1
  ·exact h1
  ·subst h1;grind
  ·have:=Rat.mul_pos h (show 0< -w by grind);grind
 ·exact Rat.mul_pos h
def ar (u v p:Pt):Rat:=(v.x-u.x)*(p.y-u.y)-(v.y-u.y)*(p.x-u.x)
def pt (u v:Pt) (m:Rat):Pt:=⟨u.x+m*(v.x-u.x),u.y+m*(v.y-u.y)⟩
theorem ar_pt (u v p q:Pt) (m:Rat):ar u v (pt p q m)=ar u v p+m*(ar u v q-ar u v p):=by unfold ar pt;grind
theorem ar_l (u v:Pt):ar u v u=0:=by unfold ar;grind
theorem ar_r (u v:Pt):ar u v v=0:=by unfold ar;grind
def onSeg (u v p:Pt):Prop:=∃ m,0≤m∧m≤1∧p=pt u v m
def Common (a b u v:Pt):Prop:=∃ p,onSeg a b p∧onSeg u v p
theorem onSeg_of {u v p:Pt} (h:u.y<v.y) (hx:ar u v p=0) (h1:u.y≤p.y) (h2:p.y≤v.y):onSeg u v p:=by
 have hd:0<(p.y-u.y)+(v.y-p.y):=by grind
 obtain ⟨k1,k2⟩:=frac (p:=p.y-u.y) (q:=v.y-p.y) (by grind) (by grind) hd
 have h3:((p.y-u.y)+(v.y-p.y))*((p.y-u.y)+(v.y-p.y))⁻¹=1:=Rat.mul_inv_cancel _ (fun e=>by rw [e] at hd;exact absurd hd Rat.lt_irrefl)
 refine ⟨_,k1,k2,Pt.ext ?_ ?_⟩
 ·unfold pt;unfold ar at hx;simp only;grind
 ·unfold pt;simp only;grind
theorem pt_y {u v:Pt} {m:Rat} (h:u.y≤v.y) (h0:0≤m) (h1:m≤1):u.y≤(pt u v m).y∧(pt u v m).y≤v.y:=by
 have k1:=Rat.mul_nonneg h0 (show 0≤v.y-u.y by grind)
 have k2:=Rat.mul_nonneg (show 0≤1-m by grind) (show 0≤v.y-u.y by grind)
 unfold pt;simp only
 constructor<;>grind
def crU (p u v:Pt):Prop:=u.y≤p.y∧p.y<v.y∧0<ar u v p
instance (p u v:Pt):Decidable (crU p u v):=inferInstanceAs (Decidable (_∧_))
def chi (a b w:Pt):Prop:=a.y<w.y∧w.y≤b.y∧ar a b w<0
instance (a b w:Pt):Decidable (chi a b w):=inferInstanceAs (Decidable (_∧_))
theorem level {u v:Pt} (h:u.y<v.y) {y:Rat} (h1:u.y≤y) (h2:y≤v.y):∃ e:Pt,e.y=y∧ar u v e=0∧∀ p:Pt,p.y=y→ar u v p=(v.y-u.y)*(e.x-p.x):=by
 have hd:0<v.y-u.y:=by grind
 have h3:(v.y-u.y)*(v.y-u.y)⁻¹=1:=Rat.mul_inv_cancel _ (fun e=>by rw [e] at hd;exact absurd hd Rat.lt_irrefl)
 refine ⟨⟨u.x+(y-u.y)*(v.y-u.y)⁻¹*(v.x-u.x),y⟩,rfl,?_,?_⟩
 ·unfold ar;simp only;grind
 ·rintro p rfl;unfold ar;simp only;grind
theorem edge_case {a b u v:Pt} (hab:a.y≤b.y) (huv:u.y≤v.y) (hc:¬Common a b u v):(decide (crU a u v)^^decide (crU b u v))=(decide (chi a b u)^^decide (chi a b v)):=by
 have none:∀ {p:Prop} [Decidable p],¬p→decide p=false:=fun h=>decide_eq_false h
 by_cases h1:a.y<v.y
 ·by_cases h2:u.y≤a.y
  ·have huv':u.y<v.y:=by grind
   by_cases h3:v.y≤b.y
   ·
    have hab':a.y<b.y:=by grind
    obtain ⟨e,ey,ex,ep⟩:=level huv' h2 (Rat.le_of_lt h1)
    have xa:=ep a rfl
    have ye:ar a b e= -((b.y-a.y)*(e.x-a.x)):=by unfold ar;rw [ey];grind
    have key:0<ar u v a↔ar a b v<0:=by
     have main:∀ m,0≤m→m≤1→ar a b e+m*(ar a b v-ar a b e)=0→False:=by
      intro m m0 m1 hm
      obtain ⟨y1,y2⟩:=pt_y (u:=e) (v:=v) (m:=m) (by grind) m0 m1
      refine hc ⟨pt e v m,onSeg_of hab' (by rw [ar_pt];exact hm) (by grind) (by grind),onSeg_of huv' ?_ (by grind) y2⟩
      rw [ar_pt,ex,ar_r];grind
     constructor
     ·intro hx
      refine Rat.not_le.1 fun hv=> ?_
      rw [xa,mul_pos_iff' (by grind)] at hx
      have hn:=Rat.mul_pos (show 0<b.y-a.y by grind) hx
      obtain ⟨m,m0,m1,hm⟩:=root (f:=ar a b e) (g:=ar a b v) (.inl ⟨by grind,hv⟩) (by grind)
      exact main m m0 m1 hm
     ·intro hv
      refine Rat.not_le.1 fun hx=> ?_
      have hw:e.x-a.x≤0:=Rat.not_lt.1 fun hw=>by
       have:=(mul_pos_iff' (show 0<v.y-u.y by grind)).2 hw;grind
      have hn:=Rat.mul_nonneg (show 0≤b.y-a.y by grind) (show 0≤ -(e.x-a.x) by grind)
      obtain ⟨m,m0,m1,hm⟩:=root (f:=ar a b e) (g:=ar a b v) (.inr ⟨by grind,Rat.le_of_lt hv⟩) (by grind)
      exact main m m0 m1 hm
    rw [none (p:=crU b u v) (fun h=>by have:=h.2.1;grind),none (p:=chi a b u) (fun h=>by have:=h.1;grind)]
    have e1:decide (crU a u v)=decide (chi a b v):=by
     rw [decide_eq_decide];exact ⟨fun h=>⟨h1,h3,key.1 h.2.2⟩,fun h=>⟨h2,h1,key.2 h.2.2⟩⟩
    rw [e1];simp
   ·
    have h3':b.y<v.y:=Rat.not_le.1 h3
    have key:0<ar u v a↔0<ar u v b:=by
     have main:∀ m,0≤m→m≤1→ar u v a+m*(ar u v b-ar u v a)=0→False:=by
      intro m m0 m1 hm
      obtain ⟨y1,y2⟩:=pt_y (u:=a) (v:=b) (m:=m) hab m0 m1
      exact hc ⟨pt a b m,⟨m,m0,m1,rfl⟩,onSeg_of huv' (by rw [ar_pt];exact hm) (by grind) (by grind)⟩
     constructor
     ·intro hx
      refine Rat.not_le.1 fun hv=> ?_
      obtain ⟨m,m0,m1,hm⟩:=root (f:=ar u v a) (g:=ar u v b) (.inr ⟨Rat.le_of_lt hx,hv⟩) (by grind)
      exact main m m0 m1 hm
     ·intro hx
      refine Rat.not_le.1 fun hv=> ?_
      obtain ⟨m,m0,m1,hm⟩:=root (f:=ar u v a) (g:=ar u v b) (.inl ⟨hv,Rat.le_of_lt hx⟩) (by grind)
      exact main m m0 m1 hm
    rw [none (p:=chi a b u) (fun h=>by have:=h.1;grind),none (p:=chi a b v) (fun h=>by have:=h.2.1;grind)]
    have e1:decide (crU a u v)=decide (crU b u v):=by
     rw [decide_eq_decide];exact ⟨fun h=>⟨by grind,h3',key.1 h.2.2⟩,fun h=>⟨h2,h1,key.2 h.2.2⟩⟩
    rw [e1];simp
  ·have h2':a.y<u.y:=Rat.not_le.1 h2
   by_cases h3:u.y≤b.y
   ·have hab':a.y<b.y:=by grind
    by_cases h4:v.y≤b.y
    ·
     have key:ar a b u<0↔ar a b v<0:=by
      have main:∀ m,0≤m→m≤1→ar a b u+m*(ar a b v-ar a b u)=0→False:=by
       intro m m0 m1 hm
       obtain ⟨y1,y2⟩:=pt_y (u:=u) (v:=v) (m:=m) huv m0 m1
       exact hc ⟨pt u v m,onSeg_of hab' (by rw [ar_pt];exact hm) (by grind) (by grind),⟨m,m0,m1,rfl⟩⟩
      constructor
      ·intro hx
       refine Rat.not_le.1 fun hv=> ?_
       obtain ⟨m,m0,m1,hm⟩:=root (f:=ar a b u) (g:=ar a b v) (.inl ⟨Rat.le_of_lt hx,hv⟩) (by grind)
       exact main m m0 m1 hm
      ·intro hx
       refine Rat.not_le.1 fun hv=> ?_
       obtain ⟨m,m0,m1,hm⟩:=root (f:=ar a b u) (g:=ar a b v) (.inr ⟨hv,Rat.le_of_lt hx⟩) (by grind)
       exact main m m0 m1 hm
     rw [none (p:=crU a u v) (fun h=>by have:=h.1;grind),none (p:=crU b u v) (fun h=>by have:=h.2.1;grind)]
     have e1:decide (chi a b u)=decide (chi a b v):=by
      rw [decide_eq_decide];exact ⟨fun h=>⟨h1,h4,key.1 h.2.2⟩,fun h=>⟨h2',h3,key.2 h.2.2⟩⟩
     rw [e1];simp
    ·
     have h4':b.y<v.y:=Rat.not_le.1 h4
     have huv':u.y<v.y:=by grind
     obtain ⟨e,ey,ex,ep⟩:=level huv' h3 (Rat.le_of_lt h4')
     have xb:=ep b rfl
     have ye:ar a b e= -((b.y-a.y)*(e.x-b.x)):=by unfold ar;rw [ey];grind
     have key:0<ar u v b↔ar a b u<0:=by
      have main:∀ m,0≤m→m≤1→ar a b u+m*(ar a b e-ar a b u)=0→False:=by
       intro m m0 m1 hm
       obtain ⟨y1,y2⟩:=pt_y (u:=u) (v:=e) (m:=m) (by grind) m0 m1
       refine hc ⟨pt u e m,onSeg_of hab' (by rw [ar_pt];exact hm) (by grind) (by grind),onSeg_of huv' ?_ y1 (by grind)⟩
       rw [ar_pt,ex,ar_l];grind
      constructor
      ·intro hx
       refine Rat.not_le.1 fun hv=> ?_
       rw [xb,mul_pos_iff' (by grind)] at hx
       have hn:=Rat.mul_pos (show 0<b.y-a.y by grind) hx
       obtain ⟨m,m0,m1,hm⟩:=root (f:=ar a b u) (g:=ar a b e) (.inr ⟨hv,by grind⟩) (by grind)
       exact main m m0 m1 hm
      ·intro hv
       refine Rat.not_le.1 fun hx=> ?_
       have hw:e.x-b.x≤0:=Rat.not_lt.1 fun hw=>by
        have:=(mul_pos_iff' (show 0<v.y-u.y by grind)).2 hw;grind
       have hn:=Rat.mul_nonneg (show 0≤b.y-a.y by grind) (show 0≤ -(e.x-b.x) by grind)
       obtain ⟨m,m0,m1,hm⟩:=root (f:=ar a b u) (g:=ar a b e) (.inl ⟨Rat.le_of_lt hv,by grind⟩) (by grind)
       exact main m m0 m1 hm
     rw [none (p:=crU a u v) (fun h=>by have:=h.1;grind),none (p:=chi a b v) (fun h=>by have:=h.2.1;grind)]
     have e1:decide (crU b u v)=decide (chi a b u):=by
      rw [decide_eq_decide];exact ⟨fun h=>⟨h2',h3,key.1 h.2.2⟩,fun h=>⟨h3,h4',key.2 h.2.2⟩⟩
     rw [e1];simp
   ·
    rw [none (p:=crU a u v) (fun h=>by have:=h.1;grind),none (p:=crU b u v) (fun h=>by have:=h.1;grind),none (p:=chi a b u) (fun h=>by have:=h.2.1;grind),none (p:=chi a b v) (fun h=>by have:=h.2.1;grind)]
 ·
  rw [none (p:=crU a u v) (fun h=>by have:=h.2.1;grind),none (p:=crU b u v) (fun h=>by have:=h.2.1;grind),none (p:=chi a b u) (fun h=>by have:=h.1;grind),none (p:=chi a b v) (fun h=>by have:=h.1;grind)]
end Go.Av
namespace Go.Av
theorem onSeg_rev {u v p:Pt} (h:onSeg u v p):onSeg v u p:=by
 obtain ⟨m,h0,h1,rfl⟩:=h
 refine ⟨1-m,by grind,by grind,Pt.ext ?_ ?_⟩<;>(unfold pt;simp only;grind)
theorem Common.rev1 {a b u v:Pt} (h:Common a b u v):Common b a u v:=by obtain ⟨p,h1,h2⟩:=h;exact ⟨p,onSeg_rev h1,h2⟩
theorem Common.rev2 {a b u v:Pt} (h:Common a b u v):Common a b v u:=by obtain ⟨p,h1,h2⟩:=h;exact ⟨p,h1,onSeg_rev h2⟩
theorem cmpQ_pos {p q:Rat}:0<cmpQ p q↔q<p:=by
 unfold cmpQ
 by_cases h:p<q
 ·rw [if_pos h];exact ⟨fun h=>by omega,fun h2=>absurd (lt_trans' h h2) Rat.lt_irrefl⟩
 ·rw [if_neg h]
  by_cases h2:q<p
  ·rw [if_pos h2];exact ⟨fun _=>h2,fun _=>by omega⟩
  ·rw [if_neg h2];exact ⟨fun h=>by omega,fun h=>absurd h h2⟩
theorem above_eq (p q:Pt):aboveB p q=decide (p.y<q.y):=by unfold aboveB;rw [decide_eq_decide];exact cmpQ_pos
theorem orient_pos (u v p:Pt):decide (0<orient u v p)=decide (0<ar u v p):=by
 rw [decide_eq_decide];unfold orient;rw [cmpQ_pos];exact Iff.rfl
def cr (p u v:Pt):Bool:=if u.y≤v.y then decide (crU p u v) else decide (crU p v u)
theorem oddStep_eq (p u v:Pt) (o:Bool):oddStep p u v o=(o^^cr p u v):=by
 unfold oddStep cr
 rw [above_eq,above_eq,orient_pos,orient_pos]
 by_cases h:u.y≤v.y
 ·rw [if_pos h]
  by_cases h1:p.y<u.y
  ·have h2:p.y<v.y:=by grind
   have h3:¬crU p u v:=fun k=>by have:=k.1;grind
   simp [h1,h2,h3]
  ·by_cases h2:p.y<v.y
   ·have h4:u.y≤p.y:=Rat.not_lt.1 h1
    by_cases h5:0<ar u v p
    ·have h3:crU p u v:=⟨h4,h2,h5⟩
     simp [h1,h2,h3,h5]
    ·have h3:¬crU p u v:=fun k=>h5 k.2.2
     simp [h1,h2,h3,h5]
   ·have h3:¬crU p u v:=fun k=>h2 k.2.1
    simp [h1,h2,h3]
 ·rw [if_neg h]
  have h':v.y<u.y:=Rat.not_le.1 h
  by_cases h1:p.y<u.y
  ·by_cases h2:p.y<v.y
   ·have h3:¬crU p v u:=fun k=>by have:=k.1;grind
    simp [h1,h2,h3]
   ·have h4:v.y≤p.y:=Rat.not_lt.1 h2
    by_cases h5:0<ar v u p
    ·have h3:crU p v u:=⟨h4,h1,h5⟩
     simp [h1,h2,h3,h5]
    ·have h3:¬crU p v u:=fun k=>h5 k.2.2
     simp [h1,h2,h3,h5]
  ·have h2:¬p.y<v.y:=by grind
   have h3:¬crU p v u:=fun k=>h1 k.2.1
   simp [h1,h2,h3]
theorem cr_step {a b u v:Pt} (hab:a.y≤b.y) (hc:¬Common a b u v):(cr a u v^^cr b u v)=(decide (chi a b u)^^decide (chi a b v)):=by
 unfold cr
 by_cases h:u.y≤v.y
 ·rw [if_pos h,if_pos h];exact edge_case hab h hc
 ·rw [if_neg h,if_neg h,edge_case hab (Rat.le_of_lt (Rat.not_le.1 h)) (fun k=>hc k.rev2),Bool.xor_comm]
theorem odd_run {L:List Pt} {a b:Pt} (hab:a.y≤b.y) (hc:∀ j,j<L.length→¬Common a b (L.getD j default) (nx L j)):
 ∀ i,i≤L.length→(oddTo L a i^^oddTo L b i)=(decide (chi a b (L.getD 0 default))^^decide (chi a b (L.getD (i%L.length) default)))
 |0,_=>by simp [oddTo]
 |i+1,hi=>by
  have h1:=odd_run hab hc i (by omega)
  rw [Nat.mod_eq_of_lt (show i<L.length by omega)] at h1
  have h2:=cr_step hab (hc i (by omega))
  have h3:nx L i=L.getD ((i+1)%L.length) default:=rfl
  rw [←h3]
  unfold oddTo
  rw [oddStep_eq,oddStep_eq]
  generalize oddTo L a i=x at*
  generalize oddTo L b i=y at*
  generalize cr a (L.getD i default) (nx L i)=z at*
  generalize cr b (L.getD i default) (nx L i)=w at*
  generalize decide (chi a b (L.getD 0 default))=e at*
  generalize decide (chi a b (L.getD i default))=f at*
  generalize decide (chi a b (nx L i))=g at*
  revert h1 h2
  cases x<;>cases y<;>cases z<;>cases w<;>cases e<;>cases f<;>cases g<;>simp
theorem odd_same {L:List Pt} {a b:Pt} (hc:∀ j,j<L.length→¬Common a b (L.getD j default) (nx L j)):oddTo L a L.length=oddTo L b L.length:=by
 have main:∀ {a b:Pt},a.y≤b.y→(∀ j,j<L.length→¬Common a b (L.getD j default) (nx L j))→oddTo L a L.length=oddTo L b L.length:=by
  intro a b hab hc
  have h:=odd_run hab hc L.length (Nat.le_refl _)
  rw [Nat.mod_self] at h
  generalize oddTo L a L.length=x at*
  generalize oddTo L b L.length=y at*
  revert h
  cases x<;>cases y<;>simp
 rcases Rat.le_total (a:=a.y) (b:=b.y) with h|h
 ·exact main h hc
 ·exact (main h (fun j hj k=>hc j hj k.rev1)).symm
theorem onSegX_of {u v p:Pt} (h:u.x<v.x) (hx:ar u v p=0) (h1:u.x≤p.x) (h2:p.x≤v.x):onSeg u v p:=by
 have hd:0<(p.x-u.x)+(v.x-p.x):=by grind
 obtain ⟨k1,k2⟩:=frac (p:=p.x-u.x) (q:=v.x-p.x) (by grind) (by grind) hd
 have h3:((p.x-u.x)+(v.x-p.x))*((p.x-u.x)+(v.x-p.x))⁻¹=1:=Rat.mul_inv_cancel _ (fun e=>by rw [e] at hd;exact absurd hd Rat.lt_irrefl)
 refine ⟨_,k1,k2,Pt.ext ?_ ?_⟩
 ·unfold pt;simp only;grind
 ·unfold pt;unfold ar at hx;simp only;grind
theorem onSeg_l (u v:Pt):onSeg u v u:=⟨0,by grind,by grind,Pt.ext (by unfold pt;simp only;grind) (by unfold pt;simp only;grind)⟩
theorem onSeg_r (u v:Pt):onSeg u v v:=onSeg_rev (onSeg_l v u)
theorem ar_rev (u v p:Pt):ar v u p= -ar u v p:=by unfold ar;grind
theorem onSeg_lex {a b p:Pt} (hx:ar a b p=0) (h1:cmpP a p≤0) (h2:cmpP p b≤0):onSeg a b p:=by
 rw [cmpP_le] at h1 h2
 rcases h1 with h1|⟨h1,h1'⟩<;>rcases h2 with h2|⟨h2,h2'⟩
 ·exact onSegX_of (by grind) hx (by grind) (by grind)
 ·exact onSegX_of (by grind) hx (by grind) (by grind)
 ·exact onSegX_of (by grind) hx (by grind) (by grind)
 ·by_cases h:a.y<b.y
  ·exact onSeg_of h hx h1' h2'
  ·have:p=a:=Pt.ext h1.symm (Rat.le_antisymm (by grind) h1')
   rw [this];exact onSeg_l a b
theorem between_onSeg {a b p:Pt} (h:between a b p=true):onSeg a b p:=by
 unfold between at h
 simp only [Bool.and_eq_true,decide_eq_true_eq] at h
 obtain ⟨h1,h2,h3⟩:=h
 have hx:ar a b p=0:=by unfold orient at h1;exact cmpQ_zero.1 h1
 have k1:=cmpP_abs a p
 have k2:=cmpP_abs p b
 by_cases e1:cmpP a p=0
 ·rw [←cmpP_zero.1 e1];exact onSeg_l a b
 by_cases e2:cmpP p b=0
 ·rw [cmpP_zero.1 e2];exact onSeg_r a b
 by_cases s1:cmpP a p=1
 ·have s2:cmpP p b=1:=by
   rcases (show cmpP p b=1∨cmpP p b= -1 by omega) with h|h
   ·exact h
   ·rw [s1,h] at h2;omega
  exact onSeg_rev (onSeg_lex (by rw [ar_rev,hx];grind) (cmpP_pos_le (by omega)) (cmpP_pos_le (by omega)))
 ·have s1:cmpP a p= -1:=by omega
  have s2:cmpP p b= -1:=by
   rcases (show cmpP p b=1∨cmpP p b= -1 by omega) with h|h
   ·rw [s1,h] at h2;omega
   ·exact h
  exact onSeg_lex hx (by omega) (by omega)
theorem lex_between {u v p:Pt} (h:onSeg u v p) (hc:cmpP u v≤0):cmpP u p≤0∧cmpP p v≤0:=by
 obtain ⟨m,h0,h1,rfl⟩:=h
 rw [cmpP_le] at hc ⊢
 rw [cmpP_le]
 rcases hc with hc|⟨hc,hc'⟩
 ·by_cases e0:m=0
  ·subst e0;refine ⟨.inr ⟨?_,?_⟩,.inl ?_⟩<;>(unfold pt;simp only;grind)
  ·have hm:0<m:=(lt_or_eq' h0).resolve_right (fun e=>e0 e.symm)
   have k:=Rat.mul_pos hm (show 0<v.x-u.x by grind)
   by_cases e1:m=1
   ·subst e1;refine ⟨.inl ?_,.inr ⟨?_,?_⟩⟩<;>(unfold pt;simp only;grind)
   ·have hm1:m<1:=(lt_or_eq' h1).resolve_right e1
    have k2:=Rat.mul_pos (show 0<1-m by grind) (show 0<v.x-u.x by grind)
    refine ⟨.inl ?_,.inl ?_⟩<;>(unfold pt;simp only;grind)
 ·obtain ⟨y1,y2⟩:=pt_y (u:=u) (v:=v) (m:=m) hc' h0 h1
  refine ⟨.inr ⟨?_,y1⟩,.inr ⟨?_,y2⟩⟩<;>(unfold pt;simp only;grind)
theorem lex_order {s:Sg} {p:Pt} (h:onSeg s.a s.b p):cmpP s.order.a p≤0∧cmpP p s.order.b≤0:=by
 have h0:=order_le s
 unfold Sg.order at*
 split at h0<;>rename_i h1
 ·rw [if_pos h1];exact lex_between (onSeg_rev h) h0
 ·rw [if_neg h1];exact lex_between h h0
theorem unit_of {t:Rat} (h0:0≤t) (h1:t≤1):unit t=true:=by
 unfold unit
 rw [decide_eq_true (cmpQ_nonneg.2 h0),decide_eq_true (cmpQ_le.2 h1)];rfl
theorem at_pt (a b:Pt) (m:Rat):a.at b m=pt a b m:=by
 refine Pt.ext ?_ ?_<;>(unfold Pt.at Pt.add Pt.smul Pt.sub pt;simp only;grind)
theorem mul_div' {l d:Rat} (h:d≠0):l*d/d=l:=by grind
theorem cmpP_antisymm {p q:Pt} (h1:cmpP p q≤0) (h2:cmpP q p≤0):p=q:=by
 rw [cmpP_le] at h1 h2
 rcases h1 with h1|⟨h1,h1'⟩<;>rcases h2 with h2|⟨h2,h2'⟩
 ·exact absurd (lt_trans' h1 h2) Rat.lt_irrefl
 ·rw [h2] at h1;exact absurd h1 Rat.lt_irrefl
 ·rw [h1] at h2;exact absurd h2 Rat.lt_irrefl
 ·exact Pt.ext h1 (Rat.le_antisymm h1' h2')
theorem meet_of {s t:Sg} (hs:s.ok) (ht:t.ok) {P:Pt} (h1:onSeg s.a s.b P) (h2:onSeg t.a t.b P):∃ m,meetM s t=some m∧(m.a=m.b→P=m.a):=by
 obtain ⟨l,l0,l1,e1⟩:=id h1
 obtain ⟨k,k0,k1,e2⟩:=id h2
 have ex:s.a.x+l*(s.b.x-s.a.x)=t.a.x+k*(t.b.x-t.a.x):=congrArg Pt.x (e1.symm.trans e2)
 have ey:s.a.y+l*(s.b.y-s.a.y)=t.a.y+k*(t.b.y-t.a.y):=congrArg Pt.y (e1.symm.trans e2)
 rw [meetM,if_pos ⟨hs,ht⟩]
 unfold meetS
 by_cases hd:cross s.dir t.dir=0
 ·rw [if_neg (fun h=>h hd)]
  have hw:cross s.dir (t.a.sub s.a)=0:=by
   revert hd;simp only [Sg.dir,cross,Pt.sub];intro hd;grind
  rw [if_neg (fun h=>h hw)]
  obtain ⟨o1,o2⟩:=lex_order h1
  obtain ⟨o3,o4⟩:=lex_order h2
  have g1:cmpP (greater s.order.a t.order.a) P≤0:=by unfold greater;split<;>assumption
  have g2:cmpP P (lesser s.order.b t.order.b)≤0:=by unfold lesser;split<;>assumption
  have g3:=cmpP_le_trans g1 g2
  rw [if_neg (by omega)]
  refine ⟨_,rfl,fun e=> ?_⟩
  simp only at e ⊢
  rw [←e] at g2
  exact cmpP_antisymm g2 g1
 ·rw [if_pos hd]
  have q1:cross (t.a.sub s.a) t.dir=l*cross s.dir t.dir:=by simp only [Sg.dir,cross,Pt.sub];grind
  have q2:cross (t.a.sub s.a) s.dir=k*cross s.dir t.dir:=by simp only [Sg.dir,cross,Pt.sub];grind
  rw [q1,q2,mul_div' hd,mul_div' hd,unit_of l0 l1,unit_of k0 k1,if_pos (show (true&&true)=true from rfl)]
  exact ⟨_,rfl,fun _=>by simp only;rw [at_pt];exact e1⟩
theorem block_free {s t:Sg} (hs:s.ok) (ht:t.ok) (hb:blockB s t=false) {l:Rat} (h0:0<l) (h1:l<1):¬onSeg t.a t.b (pt s.a s.b l):=by
 intro h2
 obtain ⟨m,hm,hp⟩:=meet_of hs ht ⟨l,Rat.le_of_lt h0,Rat.le_of_lt h1,rfl⟩ h2
 unfold blockB at hb
 rw [hm] at hb
 simp only [Option.isSome_some,Option.getD_some,Bool.true_and,Bool.or_eq_false_iff,decide_eq_false_iff_not,Bool.and_eq_false_iff,ne_eq,Decidable.not_not] at hb
 obtain ⟨e1,e2⟩:=hb
 have e3:=hp e1
 have hne:s.a≠s.b:=fun e=>hs (cmpP_zero.2 e)
 have hxy:s.b.x-s.a.x≠0∨s.b.y-s.a.y≠0:=by
  by_cases hx:s.b.x-s.a.x=0
  ·right;intro hy;exact hne (Pt.ext (by grind) (by grind))
  ·exact .inl hx
 rcases e2 with e2|e2
 ·rw [e2] at e3
  have ex:=congrArg Pt.x e3
  have ey:=congrArg Pt.y e3
  unfold pt at ex ey
  simp only at ex ey
  rcases hxy with h|h<;>grind
 ·rw [e2] at e3
  have ex:=congrArg Pt.x e3
  have ey:=congrArg Pt.y e3
  unfold pt at ex ey
  simp only at ex ey
  rcases hxy with h|h<;>grind
theorem pt_pt (u v:Pt) (a b m:Rat):pt (pt u v a) (pt u v b) m=pt u v (a+m*(b-a)):=by
 refine Pt.ext ?_ ?_<;>(unfold pt;simp only;grind)
theorem side_const {R:List Pt} (hR:Ring R) {s:Sg} (hs:s.ok) (hb:∀ j,j<R.length→blockB s (segOf R j)=false) {x y:Rat} (x0:0<x) (x1:x<1) (y0:0<y) (y1:y<1):
 sideS R (pt s.a s.b x)=sideS R (pt s.a s.b y):=by
 have non:∀ {z:Rat},0<z→z<1→onB R (pt s.a s.b z)=false:=fun {z} z0 z1=>onB_false fun i hi=>by
  cases hc:between (R.getD i default) (nx R i) (pt s.a s.b z) with
  |false=>rfl
  |true=>exact absurd (between_onSeg hc) (block_free hs (hR.seg_ok hi) (hb i hi) z0 z1)
 have ho:oddTo R (pt s.a s.b x) R.length=oddTo R (pt s.a s.b y) R.length:=by
  refine odd_same fun j hj hc=> ?_
  obtain ⟨p,⟨m,m0,m1,rfl⟩,h2⟩:=hc
  rw [pt_pt] at h2
  have k1:=Rat.mul_nonneg m0 (Rat.le_of_lt y0)
  have k2:=Rat.mul_nonneg (show 0≤1-m by grind) (Rat.le_of_lt x0)
  have k3:=Rat.mul_nonneg m0 (show 0≤1-y by grind)
  have k4:=Rat.mul_nonneg (show 0≤1-m by grind) (show 0≤1-x by grind)
  have hz0:0<x+m*(y-x):=by
   by_cases e:m=1
   ·subst e;grind
   ·have:=Rat.mul_pos (show 0<1-m by grind) x0;grind
  have hz1:x+m*(y-x)<1:=by
   by_cases e:m=1
   ·subst e;grind
   ·have:=Rat.mul_pos (show 0<1-m by grind) (show 0<1-x by grind);grind
  exact block_free hs (hR.seg_ok hj) (hb j hj) hz0 hz1 h2
 unfold sideS
 rw [non x0 x1,non y0 y1,ho]
theorem mem_edges {Ls:List (List Pt)} {i j:Nat} (hj:j<(Ls.getD i []).length):∀ {n},i<n→segOf (Ls.getD i []) j∈edgesTo Ls n
 |0,h=>by omega
 |n+1,h=>by
  rw [edgesTo,List.mem_append]
  rcases Nat.lt_or_ge i n with h1|h1
  ·exact .inl (mem_edges hj h1)
  ·right
   rw [show n=i by omega]
   exact List.mem_map.2 ⟨j,by simpa using hj,rfl⟩
theorem blocked_get {E:List Sg} {s t:Sg} (h:blockedP E s=false) (ht:t∈E):blockB s t=false:=by
 obtain ⟨i,hi,rfl⟩:=List.mem_iff_getElem.1 ht
 have:=anyTo_get h hi
 rwa [List.getD_eq_getElem?_getD,List.getElem?_eq_getElem hi] at this
theorem firstLe_pos {n:Nat} {f:Nat→Int} (h:0<firstLe n f):∀ i,i<n→0<f i:=by
 intro i hi
 unfold firstLe at h
 cases hf:(List.range n).find? (fun i=>decide (f i≤0)) with
 |some k=>
  rw [hf] at h
  have:=List.find?_some hf
  simp at this
  simp only at h
  omega
 |none=>
  rw [List.find?_eq_none] at hf
  have:=hf i (by simpa using hi)
  simp at this
  exact this
theorem diag_in {L:List Pt} {Hs:List (List Pt)} (hg:Rgs L Hs) {s:Sg} (h:diagS L Hs s=(true,0)) {t:Rat} (t0:0<t) (t1:t<1):whereS L Hs (s.a.at s.b t)=1:=by
 unfold diagS at h
 split at h
 ·cases h
 ·rename_i hz
  have hs:s.ok:=hz
  split at h
  ·simp only [Prod.mk.injEq,Bool.and_eq_true,Bool.not_eq_true',decide_eq_true_eq,and_true] at h
   obtain ⟨hb,hw⟩:=h
   unfold whereS at hw ⊢
   have hp:=firstLe_pos hw
   refine firstLe_none fun i hi=> ?_
   have:=hp i hi
   have hR:=hg.get (i:=i) (by omega)
   have e:sideS ((L::Hs).getD i []) (s.a.at s.b t)=sideS ((L::Hs).getD i []) (s.a.at s.b (1/2)):=by
    rw [at_pt,at_pt]
    exact side_const hR hs (fun j hj=>blocked_get hb (mem_edges hj (show i<Hs.length+1 by omega))) t0 t1 (by decide+kernel) (by decide+kernel)
   unfold ringSide at this ⊢
   rw [e];exact this
  ·cases h
def Sg.rev (s:Sg):Sg:=⟨s.b,s.a⟩
end Go.Av
