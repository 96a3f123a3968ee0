/- Helping texts: Mc, Md. -/
import Derived.Test.YtkmlhdfpcjkekaaGreatKDv
set_option linter.unusedSimpArgs false
set_option linter.unusedVariables false
set_option maxRecDepth 100000
set_option maxHeartbeats 16000000
namespace Go.Av
theorem OX {p q:Rat} (hp:0≤p) (hq:0≤q) (h:0<p+q):0≤p/(p+q)∧p/(p+q)≤1:=by
 have hi:0<(p+q)⁻¹:=Rat.inv_pos.2 h
 have h1:=aj hp (ai hi)
 have h2:=aj hq (ai hi)
 have h3:(p+q)*(p+q)⁻¹=1:=Rat.mul_inv_cancel _ (fun e=>by rw [e] at h;exact absurd h aL)
 constructor<;>grind
theorem Gf {f g:Rat} (h:f≤0∧0≤g∨0≤f∧g≤0) (hne:f≠g):∃ m,0≤m∧m≤1∧f+m*(g-f)=0:=by
 rcases h with ⟨h1,h2⟩|⟨h1,h2⟩
 ·have hp:0< -f+g:=by grind
  obtain ⟨k1,k2⟩:=OX (p:= -f) (q:=g) (by grind) h2 hp
  have h3:(-f+g)*(-f+g)⁻¹=1:=Rat.mul_inv_cancel _ (fun e=>by rw [e] at hp;exact absurd hp aL)
  exact ⟨_,k1,k2,by grind⟩
 ·have hp:0<f+ -g:=by grind
  obtain ⟨k1,k2⟩:=OX (p:=f) (q:= -g) h1 (by grind) hp
  have h3:(f+ -g)*(f+ -g)⁻¹=1:=Rat.mul_inv_cancel _ (fun e=>by rw [e] at hp;exact absurd hp aL)
  exact ⟨_,k1,k2,by grind⟩
theorem ju {d w:Rat} (h:0<d):0<d*w↔0<w:=by
 constructor
 ·intro k
  rcases eH 0 w with h1|h1|h1
  ·exact h1
  ·subst h1;grind
  ·have:=au h (show 0< -w by grind);grind
 ·exact au h
def ar (u v p:Pt):Rat:=(v.x-u.x)*(p.y-u.y)-(v.y-u.y)*(p.x-u.x)
def pt (u v:Pt) (m:Rat):Pt:=⟨u.x+m*(v.x-u.x),u.y+m*(v.y-u.y)⟩
theorem jn (u v p q:Pt) (m:Rat):ar u v (pt p q m)=ar u v p+m*(ar u v q-ar u v p):=by unfold ar pt;grind
theorem pk (u v:Pt):ar u v u=0:=by unfold ar;grind
theorem pj (u v:Pt):ar u v v=0:=by unfold ar;grind
def aJ (u v p:Pt):Prop:=∃ m,0≤m∧m≤1∧p=pt u v m
def ez (a b u v:Pt):Prop:=∃ p,aJ a b p∧aJ u v p
theorem nW {u v p:Pt} (h:u.y<v.y) (hx:ar u v p=0) (h1:u.y≤p.y) (h2:p.y≤v.y):aJ u v p:=by
 have hd:0<(p.y-u.y)+(v.y-p.y):=by grind
 obtain ⟨k1,k2⟩:=OX (p:=p.y-u.y) (q:=v.y-p.y) (by grind) (by grind) hd
 have h3:((p.y-u.y)+(v.y-p.y))*((p.y-u.y)+(v.y-p.y))⁻¹=1:=Rat.mul_inv_cancel _ (fun e=>by rw [e] at hd;exact absurd hd aL)
 refine ⟨_,k1,k2,Pt.ext ?_ ?_⟩
 ·unfold pt;unfold ar at hx;simp only;grind
 ·unfold pt;simp only;grind
theorem NO {u v:Pt} {m:Rat} (h:u.y≤v.y) (h0:0≤m) (h1:m≤1):u.y≤(pt u v m).y∧(pt u v m).y≤v.y:=by
 have k1:=aj h0 (show 0≤v.y-u.y by grind)
 have k2:=aj (show 0≤1-m by grind) (show 0≤v.y-u.y by grind)
 unfold pt;simp only
 constructor<;>grind
def crU (p u v:Pt):Prop:=u.y≤p.y∧p.y<v.y∧0<ar u v p
instance (p u v:Pt):Decidable (crU p u v):=inferInstanceAs (Decidable (_∧_))
def chi (a b w:Pt):Prop:=a.y<w.y∧w.y≤b.y∧ar a b w<0
instance (a b w:Pt):Decidable (chi a b w):=inferInstanceAs (Decidable (_∧_))
theorem RR {u v:Pt} (h:u.y<v.y) {y:Rat} (h1:u.y≤y) (h2:y≤v.y):∃ e:Pt,e.y=y∧ar u v e=0∧∀ p:Pt,p.y=y→ar u v p=(v.y-u.y)*(e.x-p.x):=by
 have hd:0<v.y-u.y:=by grind
 have h3:(v.y-u.y)*(v.y-u.y)⁻¹=1:=Rat.mul_inv_cancel _ (fun e=>by rw [e] at hd;exact absurd hd aL)
 refine ⟨⟨u.x+(y-u.y)*(v.y-u.y)⁻¹*(v.x-u.x),y⟩,rfl,?_,?_⟩
 ·unfold ar;simp only;grind
 ·rintro p rfl;unfold ar;simp only;grind
theorem DV {a b u v:Pt} (hab:a.y≤b.y) (huv:u.y≤v.y) (hc:¬ez a b u v):(decide (crU a u v)^^decide (crU b u v))=(decide (chi a b u)^^decide (chi a b v)):=by
 have none:∀ {p:Prop} [Decidable p],¬p→decide p=false:=fun h=>ak h
 by_cases h1:a.y<v.y
 ·by_cases h2:u.y≤a.y
  ·have huv':u.y<v.y:=by grind
   by_cases h3:v.y≤b.y
   ·
    have hab':a.y<b.y:=by grind
    obtain ⟨e,ey,ex,ep⟩:=RR huv' h2 (ai h1)
    have xa:=ep a rfl
    have ye:ar a b e= -((b.y-a.y)*(e.x-a.x)):=by unfold ar;rw [ey];grind
    have key:0<ar u v a↔ar a b v<0:=by
     have main:∀ m,0≤m→m≤1→ar a b e+m*(ar a b v-ar a b e)=0→False:=by
      intro m m0 m1 hm
      obtain ⟨y1,y2⟩:=NO (u:=e) (v:=v) (m:=m) (by grind) m0 m1
      refine hc ⟨pt e v m,nW hab' (by rw [jn];exact hm) (by grind) (by grind),nW huv' ?_ (by grind) y2⟩
      rw [jn,ex,pj];grind
     constructor
     ·intro hx
      refine Rat.not_le.1 fun hv=> ?_
      rw [xa,ju (by grind)] at hx
      have hn:=au (show 0<b.y-a.y by grind) hx
      obtain ⟨m,m0,m1,hm⟩:=Gf (f:=ar a b e) (g:=ar a b v) (.inl ⟨by grind,hv⟩) (by grind)
      exact main m m0 m1 hm
     ·intro hv
      refine Rat.not_le.1 fun hx=> ?_
      have hw:e.x-a.x≤0:=Rat.not_lt.1 fun hw=>by
       have:=(ju (show 0<v.y-u.y by grind)).2 hw;grind
      have hn:=aj (show 0≤b.y-a.y by grind) (show 0≤ -(e.x-a.x) by grind)
      obtain ⟨m,m0,m1,hm⟩:=Gf (f:=ar a b e) (g:=ar a b v) (.inr ⟨by grind,ai hv⟩) (by grind)
      exact main m m0 m1 hm
    rw [none (p:=crU b u v) (fun h=>by have:=h.2.1;grind),none (p:=chi a b u) (fun h=>by have:=h.1;grind)]
    have e1:decide (crU a u v)=decide (chi a b v):=by
     rw [decide_eq_decide];exact ⟨fun h=>⟨h1,h3,key.1 h.2.2⟩,fun h=>⟨h2,h1,key.2 h.2.2⟩⟩
    rw [e1];simp
   ·
    have h3':b.y<v.y:=Rat.not_le.1 h3
    have key:0<ar u v a↔0<ar u v b:=by
     have main:∀ m,0≤m→m≤1→ar u v a+m*(ar u v b-ar u v a)=0→False:=by
      intro m m0 m1 hm
      obtain ⟨y1,y2⟩:=NO (u:=a) (v:=b) (m:=m) hab m0 m1
      exact hc ⟨pt a b m,⟨m,m0,m1,rfl⟩,nW huv' (by rw [jn];exact hm) (by grind) (by grind)⟩
     constructor
     ·intro hx
      refine Rat.not_le.1 fun hv=> ?_
      obtain ⟨m,m0,m1,hm⟩:=Gf (f:=ar u v a) (g:=ar u v b) (.inr ⟨ai hx,hv⟩) (by grind)
      exact main m m0 m1 hm
     ·intro hx
      refine Rat.not_le.1 fun hv=> ?_
      obtain ⟨m,m0,m1,hm⟩:=Gf (f:=ar u v a) (g:=ar u v b) (.inl ⟨hv,ai hx⟩) (by grind)
      exact main m m0 m1 hm
    rw [none (p:=chi a b u) (fun h=>by have:=h.1;grind),none (p:=chi a b v) (fun h=>by have:=h.2.1;grind)]
    have e1:decide (crU a u v)=decide (crU b u v):=by
     rw [decide_eq_decide];exact ⟨fun h=>⟨by grind,h3',key.1 h.2.2⟩,fun h=>⟨h2,h1,key.2 h.2.2⟩⟩
    rw [e1];simp
  ·have h2':a.y<u.y:=Rat.not_le.1 h2
   by_cases h3:u.y≤b.y
   ·have hab':a.y<b.y:=by grind
    by_cases h4:v.y≤b.y
    ·
     have key:ar a b u<0↔ar a b v<0:=by
      have main:∀ m,0≤m→m≤1→ar a b u+m*(ar a b v-ar a b u)=0→False:=by
       intro m m0 m1 hm
       obtain ⟨y1,y2⟩:=NO (u:=u) (v:=v) (m:=m) huv m0 m1
       exact hc ⟨pt u v m,nW hab' (by rw [jn];exact hm) (by grind) (by grind),⟨m,m0,m1,rfl⟩⟩
      constructor
      ·intro hx
       refine Rat.not_le.1 fun hv=> ?_
       obtain ⟨m,m0,m1,hm⟩:=Gf (f:=ar a b u) (g:=ar a b v) (.inl ⟨ai hx,hv⟩) (by grind)
       exact main m m0 m1 hm
      ·intro hx
       refine Rat.not_le.1 fun hv=> ?_
       obtain ⟨m,m0,m1,hm⟩:=Gf (f:=ar a b u) (g:=ar a b v) (.inr ⟨hv,ai hx⟩) (by grind)
       exact main m m0 m1 hm
     rw [none (p:=crU a u v) (fun h=>by have:=h.1;grind),none (p:=crU b u v) (fun h=>by have:=h.2.1;grind)]
     have e1:decide (chi a b u)=decide (chi a b v):=by
      rw [decide_eq_decide];exact ⟨fun h=>⟨h1,h4,key.1 h.2.2⟩,fun h=>⟨h2',h3,key.2 h.2.2⟩⟩
     rw [e1];simp
    ·
     have h4':b.y<v.y:=Rat.not_le.1 h4
     have huv':u.y<v.y:=by grind
     obtain ⟨e,ey,ex,ep⟩:=RR huv' h3 (ai h4')
     have xb:=ep b rfl
     have ye:ar a b e= -((b.y-a.y)*(e.x-b.x)):=by unfold ar;rw [ey];grind
     have key:0<ar u v b↔ar a b u<0:=by
      have main:∀ m,0≤m→m≤1→ar a b u+m*(ar a b e-ar a b u)=0→False:=by
       intro m m0 m1 hm
       obtain ⟨y1,y2⟩:=NO (u:=u) (v:=e) (m:=m) (by grind) m0 m1
       refine hc ⟨pt u e m,nW hab' (by rw [jn];exact hm) (by grind) (by grind),nW huv' ?_ y1 (by grind)⟩
       rw [jn,ex,pk];grind
      constructor
      ·intro hx
       refine Rat.not_le.1 fun hv=> ?_
       rw [xb,ju (by grind)] at hx
       have hn:=au (show 0<b.y-a.y by grind) hx
       obtain ⟨m,m0,m1,hm⟩:=Gf (f:=ar a b u) (g:=ar a b e) (.inr ⟨hv,by grind⟩) (by grind)
       exact main m m0 m1 hm
      ·intro hv
       refine Rat.not_le.1 fun hx=> ?_
       have hw:e.x-b.x≤0:=Rat.not_lt.1 fun hw=>by
        have:=(ju (show 0<v.y-u.y by grind)).2 hw;grind
       have hn:=aj (show 0≤b.y-a.y by grind) (show 0≤ -(e.x-b.x) by grind)
       obtain ⟨m,m0,m1,hm⟩:=Gf (f:=ar a b u) (g:=ar a b e) (.inl ⟨ai hv,by grind⟩) (by grind)
       exact main m m0 m1 hm
     rw [none (p:=crU a u v) (fun h=>by have:=h.1;grind),none (p:=chi a b v) (fun h=>by have:=h.2.1;grind)]
     have e1:decide (crU b u v)=decide (chi a b u):=by
      rw [decide_eq_decide];exact ⟨fun h=>⟨h2',h3,key.1 h.2.2⟩,fun h=>⟨h3,h4',key.2 h.2.2⟩⟩
     rw [e1];simp
   ·
    rw [none (p:=crU a u v) (fun h=>by have:=h.1;grind),none (p:=crU b u v) (fun h=>by have:=h.1;grind),none (p:=chi a b u) (fun h=>by have:=h.2.1;grind),none (p:=chi a b v) (fun h=>by have:=h.2.1;grind)]
 ·
  rw [none (p:=crU a u v) (fun h=>by have:=h.2.1;grind),none (p:=crU b u v) (fun h=>by have:=h.2.1;grind),none (p:=chi a b u) (fun h=>by have:=h.1;grind),none (p:=chi a b v) (fun h=>by have:=h.1;grind)]
end Go.Av
namespace Go.Av
theorem cH {u v p:Pt} (h:aJ u v p):aJ v u p:=by
 obtain ⟨m,h0,h1,rfl⟩:=h
 refine ⟨1-m,by grind,by grind,Pt.ext ?_ ?_⟩<;>(unfold pt;simp only;grind)
theorem ez.rev1 {a b u v:Pt} (h:ez a b u v):ez b a u v:=by obtain ⟨p,h1,h2⟩:=h;exact ⟨p,cH h1,h2⟩
theorem ez.rev2 {a b u v:Pt} (h:ez a b u v):ez a b v u:=by obtain ⟨p,h1,h2⟩:=h;exact ⟨p,h1,cH h2⟩
theorem BB {p q:Rat}:0<jV p q↔q<p:=by
 unfold jV
 by_cases h:p<q
 ·rw [if_pos h];exact ⟨fun h=>by omega,fun h2=>absurd (xz h h2) aL⟩
 ·rw [if_neg h]
  by_cases h2:q<p
  ·rw [if_pos h2];exact ⟨fun _=>h2,fun _=>by omega⟩
  ·rw [if_neg h2];exact ⟨fun h=>by omega,fun h=>absurd h h2⟩
theorem HF (p q:Pt):qn p q=decide (p.y<q.y):=by unfold qn;rw [decide_eq_decide];exact BB
theorem Ao (u v p:Pt):decide (0<fB u v p)=decide (0<ar u v p):=by
 rw [decide_eq_decide];unfold fB;rw [BB];exact Iff.rfl
def cr (p u v:Pt):Bool:=if u.y≤v.y then decide (crU p u v) else decide (crU p v u)
theorem vi (p u v:Pt) (o:Bool):pJ p u v o=(o^^cr p u v):=by
 unfold pJ cr
 rw [HF,HF,Ao,Ao]
 by_cases h:u.y≤v.y
 ·rw [if_pos h]
  by_cases h1:p.y<u.y
  ·have h2:p.y<v.y:=by grind
   have h3:¬crU p u v:=fun k=>by have:=k.1;grind
   simp [h1,h2,h3]
  ·by_cases h2:p.y<v.y
   ·have h4:u.y≤p.y:=Rat.not_lt.1 h1
    by_cases h5:0<ar u v p
    ·have h3:crU p u v:=⟨h4,h2,h5⟩
     simp [h1,h2,h3,h5]
    ·have h3:¬crU p u v:=fun k=>h5 k.2.2
     simp [h1,h2,h3,h5]
   ·have h3:¬crU p u v:=fun k=>h2 k.2.1
    simp [h1,h2,h3]
 ·rw [if_neg h]
  have h':v.y<u.y:=Rat.not_le.1 h
  by_cases h1:p.y<u.y
  ·by_cases h2:p.y<v.y
   ·have h3:¬crU p v u:=fun k=>by have:=k.1;grind
    simp [h1,h2,h3]
   ·have h4:v.y≤p.y:=Rat.not_lt.1 h2
    by_cases h5:0<ar v u p
    ·have h3:crU p v u:=⟨h4,h1,h5⟩
     simp [h1,h2,h3,h5]
    ·have h3:¬crU p v u:=fun k=>h5 k.2.2
     simp [h1,h2,h3,h5]
  ·have h2:¬p.y<v.y:=by grind
   have h3:¬crU p v u:=fun k=>h1 k.2.1
   simp [h1,h2,h3]
theorem wP {a b u v:Pt} (hab:a.y≤b.y) (hc:¬ez a b u v):(cr a u v^^cr b u v)=(decide (chi a b u)^^decide (chi a b v)):=by
 unfold cr
 by_cases h:u.y≤v.y
 ·rw [if_pos h,if_pos h];exact DV hab h hc
 ·rw [if_neg h,if_neg h,DV hab (ai (Rat.not_le.1 h)) (fun k=>hc k.rev2),Bool.xor_comm]
theorem JV {L:List Pt} {a b:Pt} (hab:a.y≤b.y) (hc:∀ j,j<L.length→¬ez a b (L.getD j default) (nx L j)):
 ∀ i,i≤L.length→(bW L a i^^bW L b i)=(decide (chi a b (L.getD 0 default))^^decide (chi a b (L.getD (i%L.length) default)))
 |0,_=>by simp [bW]
 |i+1,hi=>by
  have h1:=JV hab hc i (by omega)
  rw [bA (show i<L.length by omega)] at h1
  have h2:=wP hab (hc i (by omega))
  have h3:nx L i=L.getD ((i+1)%L.length) default:=rfl
  rw [←h3]
  unfold bW
  rw [vi,vi]
  generalize bW L a i=x at*
  generalize bW L b i=y at*
  generalize cr a (L.getD i default) (nx L i)=z at*
  generalize cr b (L.getD i default) (nx L i)=w at*
  generalize decide (chi a b (L.getD 0 default))=e at*
  generalize decide (chi a b (L.getD i default))=f at*
  generalize decide (chi a b (nx L i))=g at*
  revert h1 h2
  cases x<;>cases y<;>cases z<;>cases w<;>cases e<;>cases f<;>cases g<;>simp
theorem qf {L:List Pt} {a b:Pt} (hc:∀ j,j<L.length→¬ez a b (L.getD j default) (nx L j)):bW L a L.length=bW L b L.length:=by
 have main:∀ {a b:Pt},a.y≤b.y→(∀ j,j<L.length→¬ez a b (L.getD j default) (nx L j))→bW L a L.length=bW L b L.length:=by
  intro a b hab hc
  have h:=JV hab hc L.length (ax _)
  rw [Nat.mod_self] at h
  generalize bW L a L.length=x at*
  generalize bW L b L.length=y at*
  revert h
  cases x<;>cases y<;>simp
 rcases Rat.le_total (a:=a.y) (b:=b.y) with h|h
 ·exact main h hc
 ·exact (main h (fun j hj k=>hc j hj k.rev1)).symm
theorem xq {u v p:Pt} (h:u.x<v.x) (hx:ar u v p=0) (h1:u.x≤p.x) (h2:p.x≤v.x):aJ u v p:=by
 have hd:0<(p.x-u.x)+(v.x-p.x):=by grind
 obtain ⟨k1,k2⟩:=OX (p:=p.x-u.x) (q:=v.x-p.x) (by grind) (by grind) hd
 have h3:((p.x-u.x)+(v.x-p.x))*((p.x-u.x)+(v.x-p.x))⁻¹=1:=Rat.mul_inv_cancel _ (fun e=>by rw [e] at hd;exact absurd hd aL)
 refine ⟨_,k1,k2,Pt.ext ?_ ?_⟩
 ·unfold pt;simp only;grind
 ·unfold pt;unfold ar at hx;simp only;grind
theorem j8 (u v:Pt):aJ u v u:=⟨0,by grind,by grind,Pt.ext (by unfold pt;simp only;grind) (by unfold pt;simp only;grind)⟩
theorem mI (u v:Pt):aJ u v v:=cH (j8 v u)
theorem mZ (u v p:Pt):ar v u p= -ar u v p:=by unfold ar;grind
theorem uB {a b p:Pt} (hx:ar a b p=0) (h1:bO a p≤0) (h2:bO p b≤0):aJ a b p:=by
 rw [ni] at h1 h2
 rcases h1 with h1|⟨h1,h1'⟩<;>rcases h2 with h2|⟨h2,h2'⟩
 ·exact xq (by grind) hx (by grind) (by grind)
 ·exact xq (by grind) hx (by grind) (by grind)
 ·exact xq (by grind) hx (by grind) (by grind)
 ·by_cases h:a.y<b.y
  ·exact nW h hx h1' h2'
  ·have:p=a:=Pt.ext h1.symm (Rat.le_antisymm (by grind) h1')
   rw [this];exact j8 a b
theorem k9 {a b p:Pt} (h:gY a b p=true):aJ a b p:=by
 unfold gY at h
 simp only [Bool.and_eq_true,aE] at h
 obtain ⟨h1,h2,h3⟩:=h
 have hx:ar a b p=0:=by unfold fB at h1;exact lL.1 h1
 have k1:=ox a p
 have k2:=ox p b
 by_cases e1:bO a p=0
 ·rw [←c7.1 e1];exact j8 a b
 by_cases e2:bO p b=0
 ·rw [c7.1 e2];exact mI a b
 by_cases s1:bO a p=1
 ·have s2:bO p b=1:=by
   rcases (show bO p b=1∨bO p b= -1 by omega) with h|h
   ·exact h
   ·rw [s1,h] at h2;omega
  exact cH (uB (by rw [mZ,hx];grind) (qK (by omega)) (qK (by omega)))
 ·have s1:bO a p= -1:=by omega
  have s2:bO p b= -1:=by
   rcases (show bO p b=1∨bO p b= -1 by omega) with h|h
   ·rw [s1,h] at h2;omega
   ·exact h
  exact uB hx (by omega) (by omega)
theorem qC {u v p:Pt} (h:aJ u v p) (hc:bO u v≤0):bO u p≤0∧bO p v≤0:=by
 obtain ⟨m,h0,h1,rfl⟩:=h
 rw [ni] at hc ⊢
 rw [ni]
 rcases hc with hc|⟨hc,hc'⟩
 ·by_cases e0:m=0
  ·subst e0;refine ⟨.inr ⟨?_,?_⟩,.inl ?_⟩<;>(unfold pt;simp only;grind)
  ·have hm:0<m:=(cf h0).resolve_right (fun e=>e0 e.symm)
   have k:=au hm (show 0<v.x-u.x by grind)
   by_cases e1:m=1
   ·subst e1;refine ⟨.inl ?_,.inr ⟨?_,?_⟩⟩<;>(unfold pt;simp only;grind)
   ·have hm1:m<1:=(cf h1).resolve_right e1
    have k2:=au (show 0<1-m by grind) (show 0<v.x-u.x by grind)
    refine ⟨.inl ?_,.inl ?_⟩<;>(unfold pt;simp only;grind)
 ·obtain ⟨y1,y2⟩:=NO (u:=u) (v:=v) (m:=m) hc' h0 h1
  refine ⟨.inr ⟨?_,y1⟩,.inr ⟨?_,y2⟩⟩<;>(unfold pt;simp only;grind)
theorem DD {s:Sg} {p:Pt} (h:aJ s.a s.b p):bO s.order.a p≤0∧bO p s.order.b≤0:=by
 have h0:=Gt s
 unfold Sg.order at*
 split at h0<;>rename_i h1
 ·rw [if_pos h1];exact qC (cH h) h0
 ·rw [if_neg h1];exact qC h h0
theorem Jm {t:Rat} (h0:0≤t) (h1:t≤1):unit t=true:=by
 unfold unit
 rw [an (yV.2 h0),an (sE.2 h1)];rfl
theorem yZ (a b:Pt) (m:Rat):a.at b m=pt a b m:=by
 refine Pt.ext ?_ ?_<;>(unfold Pt.at Pt.add Pt.smul Pt.sub pt;simp only;grind)
theorem GC {l d:Rat} (h:d≠0):l*d/d=l:=by grind
theorem q9 {p q:Pt} (h1:bO p q≤0) (h2:bO q p≤0):p=q:=by
 rw [ni] at h1 h2
 rcases h1 with h1|⟨h1,h1'⟩<;>rcases h2 with h2|⟨h2,h2'⟩
 ·exact absurd (xz h1 h2) aL
 ·rw [h2] at h1;exact absurd h1 aL
 ·rw [h1] at h2;exact absurd h2 aL
 ·exact Pt.ext h1 (Rat.le_antisymm h1' h2')
theorem zA {s t:Sg} (hs:s.ok) (ht:t.ok) {P:Pt} (h1:aJ s.a s.b P) (h2:aJ t.a t.b P):∃ m,iI s t=some m∧(m.a=m.b→P=m.a):=by
 obtain ⟨l,l0,l1,e1⟩:=id h1
 obtain ⟨k,k0,k1,e2⟩:=id h2
 have ex:s.a.x+l*(s.b.x-s.a.x)=t.a.x+k*(t.b.x-t.a.x):=congrArg Pt.x (e1.symm.trans e2)
 have ey:s.a.y+l*(s.b.y-s.a.y)=t.a.y+k*(t.b.y-t.a.y):=congrArg Pt.y (e1.symm.trans e2)
 rw [iI,if_pos ⟨hs,ht⟩]
 unfold qB
 by_cases hd:cross s.dir t.dir=0
 ·rw [if_neg (fun h=>h hd)]
  have hw:cross s.dir (t.a.sub s.a)=0:=by
   revert hd;simp only [Sg.dir,cross,Pt.sub];intro hd;grind
  rw [if_neg (fun h=>h hw)]
  obtain ⟨o1,o2⟩:=DD h1
  obtain ⟨o3,o4⟩:=DD h2
  have g1:bO (greater s.order.a t.order.a) P≤0:=by unfold greater;split<;>assumption
  have g2:bO P (lesser s.order.b t.order.b)≤0:=by unfold lesser;split<;>assumption
  have g3:=je g1 g2
  rw [if_neg (by omega)]
  refine ⟨_,rfl,fun e=> ?_⟩
  simp only at e ⊢
  rw [←e] at g2
  exact q9 g2 g1
 ·rw [if_pos hd]
  have q1:cross (t.a.sub s.a) t.dir=l*cross s.dir t.dir:=by simp only [Sg.dir,cross,Pt.sub];grind
  have q2:cross (t.a.sub s.a) s.dir=k*cross s.dir t.dir:=by simp only [Sg.dir,cross,Pt.sub];grind
  rw [q1,q2,GC hd,GC hd,Jm l0 l1,Jm k0 k1,if_pos (show (true&&true)=true from rfl)]
  exact ⟨_,rfl,fun _=>by simp only;rw [yZ];exact e1⟩
theorem vC {s t:Sg} (hs:s.ok) (ht:t.ok) (hb:mG s t=false) {l:Rat} (h0:0<l) (h1:l<1):¬aJ t.a t.b (pt s.a s.b l):=by
 intro h2
 obtain ⟨m,hm,hp⟩:=zA hs ht ⟨l,ai h0,ai h1,rfl⟩ h2
 unfold mG at hb
 rw [hm] at hb
 simp only [Option.isSome_some,bG,Bool.true_and,Bool.or_eq_false_iff,aG,Bool.and_eq_false_iff,ne_eq,Decidable.not_not] at hb
 obtain ⟨e1,e2⟩:=hb
 have e3:=hp e1
 have hne:s.a≠s.b:=fun e=>hs (c7.2 e)
 have hxy:s.b.x-s.a.x≠0∨s.b.y-s.a.y≠0:=by
  by_cases hx:s.b.x-s.a.x=0
  ·right;intro hy;exact hne (Pt.ext (by grind) (by grind))
  ·exact .inl hx
 rcases e2 with e2|e2
 ·rw [e2] at e3
  have ex:=congrArg Pt.x e3
  have ey:=congrArg Pt.y e3
  unfold pt at ex ey
  simp only at ex ey
  rcases hxy with h|h<;>grind
 ·rw [e2] at e3
  have ex:=congrArg Pt.x e3
  have ey:=congrArg Pt.y e3
  unfold pt at ex ey
  simp only at ex ey
  rcases hxy with h|h<;>grind
theorem pn (u v:Pt) (a b m:Rat):pt (pt u v a) (pt u v b) m=pt u v (a+m*(b-a)):=by
 refine Pt.ext ?_ ?_<;>(unfold pt;simp only;grind)
theorem HX {R:List Pt} (hR:jo R) {s:Sg} (hs:s.ok) (hb:∀ j,j<R.length→mG s (b9 R j)=false) {x y:Rat} (x0:0<x) (x1:x<1) (y0:0<y) (y1:y<1):
 fI R (pt s.a s.b x)=fI R (pt s.a s.b y):=by
 have non:∀ {z:Rat},0<z→z<1→onB R (pt s.a s.b z)=false:=fun {z} z0 z1=>xr fun i hi=>by
  cases hc:gY (R.getD i default) (nx R i) (pt s.a s.b z) with
  |false=>rfl
  |true=>exact absurd (k9 hc) (vC hs (hR.seg_ok hi) (hb i hi) z0 z1)
 have ho:bW R (pt s.a s.b x) R.length=bW R (pt s.a s.b y) R.length:=by
  refine qf fun j hj hc=> ?_
  obtain ⟨p,⟨m,m0,m1,rfl⟩,h2⟩:=hc
  rw [pn] at h2
  have k1:=aj m0 (ai y0)
  have k2:=aj (show 0≤1-m by grind) (ai x0)
  have k3:=aj m0 (show 0≤1-y by grind)
  have k4:=aj (show 0≤1-m by grind) (show 0≤1-x by grind)
  have hz0:0<x+m*(y-x):=by
   by_cases e:m=1
   ·subst e;grind
   ·have:=au (show 0<1-m by grind) x0;grind
  have hz1:x+m*(y-x)<1:=by
   by_cases e:m=1
   ·subst e;grind
   ·have:=au (show 0<1-m by grind) (show 0<1-x by grind);grind
  exact vC hs (hR.seg_ok hj) (hb j hj) hz0 hz1 h2
 unfold fI
 rw [non x0 x1,non y0 y1,ho]
theorem xu {Ls:List (List Pt)} {i j:Nat} (hj:j<(Ls.getD i []).length):∀ {n},i<n→b9 (Ls.getD i []) j∈eN Ls n
 |0,h=>by omega
 |n+1,h=>by
  rw [eN,aF]
  rcases am i n with h1|h1
  ·exact .inl (xu hj h1)
  ·right
   rw [show n=i by omega]
   exact av.2 ⟨j,by simpa using hj,rfl⟩
theorem yW {E:List Sg} {s t:Sg} (h:pe E s=false) (ht:t∈E):mG s t=false:=by
 obtain ⟨i,hi,rfl⟩:=bK.1 ht
 have:=mP h hi
 rwa [ae,af hi] at this
theorem yO {n:Nat} {f:Nat→Int} (h:0<qF n f):∀ i,i<n→0<f i:=by
 intro i hi
 unfold qF at h
 cases hf:(List.range n).find? (fun i=>decide (f i≤0)) with
 |some k=>
  rw [hf] at h
  have:=List.find?_some hf
  simp at this
  simp only at h
  omega
 |none=>
  rw [List.find?_eq_none] at hf
  have:=hf i (by simpa using hi)
  simp at this
  exact this
theorem Kn {L:List Pt} {Hs:List (List Pt)} (hg:Rgs L Hs) {s:Sg} (h:kN L Hs s=(true,0)) {t:Rat} (t0:0<t) (t1:t<1):gE L Hs (s.a.at s.b t)=1:=by
 unfold kN at h
 split at h
 ·cases h
 ·rename_i hz
  have hs:s.ok:=hz
  split at h
  ·simp only [Prod.mk.injEq,Bool.and_eq_true,Bool.not_eq_true',aE,and_true] at h
   obtain ⟨hb,hw⟩:=h
   unfold gE at hw ⊢
   have hp:=yO hw
   refine pM fun i hi=> ?_
   have:=hp i hi
   have hR:=hg.get (i:=i) (by omega)
   have e:fI ((L::Hs).getD i []) (s.a.at s.b t)=fI ((L::Hs).getD i []) (s.a.at s.b (1/2)):=by
    rw [yZ,yZ]
    exact HX hR hs (fun j hj=>yW hb (xu hj (show i<Hs.length+1 by omega))) t0 t1 (by decide+kernel) (by decide+kernel)
   unfold lX at this ⊢
   rw [e];exact this
  ·cases h
def Sg.rev (s:Sg):Sg:=⟨s.b,s.a⟩
end Go.Av
