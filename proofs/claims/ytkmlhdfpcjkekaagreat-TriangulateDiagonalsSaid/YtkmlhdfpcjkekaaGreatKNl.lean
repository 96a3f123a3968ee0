/- Helping texts: Nl, Nm, Nn. -/
import Derived.Test.YtkmlhdfpcjkekaaGreatKLq
import Derived.Test.YtkmlhdfpcjkekaaGreatKMm
set_option linter.unusedSimpArgs false
set_option linter.unusedVariables false
set_option maxRecDepth 100000
set_option maxHeartbeats 16000000
namespace Go.Av
variable {C:List Pt} {S:List Sg} {I:Pt→Prop} {a b:Pt}
def RTri (C:List Pt) (S:List Sg) (I:Pt→Prop) (v:Pt):Prop:=∃ b c,Dir S I v b∧TrS C S v b c∧b.y<v.y∧v.y<c.y
def LTri (C:List Pt) (S:List Sg) (I:Pt→Prop) (v:Pt):Prop:=∃ b c,Dir S I v b∧TrS C S v b c∧v.y<b.y∧c.y<v.y
theorem mid3 {x y z:Rat} (h1:x≠y) (h2:y≠z) (h3:x≠z):(bp (y<x∧x<z∨x<y∧z<x)).toNat+(bp (z<y∧y<x∨y<z∧x<y)).toNat+(bp (x<z∧z<y∨z<x∧y<z)).toNat=1:=by
 have one:∀ {p q r:Prop},p→¬q→¬r→(bp p).toNat+(bp q).toNat+(bp r).toNat=1:=fun {p q r} h1 h2 h3=>by rw [dD.2 h1,jp.2 h2,jp.2 h3];rfl
 have two:∀ {p q r:Prop},¬p→q→¬r→(bp p).toNat+(bp q).toNat+(bp r).toNat=1:=fun {p q r} h1 h2 h3=>by rw [jp.2 h1,dD.2 h2,jp.2 h3];rfl
 have three:∀ {p q r:Prop},¬p→¬q→r→(bp p).toNat+(bp q).toNat+(bp r).toNat=1:=fun {p q r} h1 h2 h3=>by rw [jp.2 h1,jp.2 h2,dD.2 h3];rfl
 rcases eH x y with k1|k1|k1
 ·rcases eH y z with k2|k2|k2
  ·exact two (by grind) (by grind) (by grind)
  ·exact absurd k2 h2
  ·rcases eH x z with k3|k3|k3
   ·exact three (by grind) (by grind) (by grind)
   ·exact absurd k3 h3
   ·exact one (by grind) (by grind) (by grind)
 ·exact absurd k1 h1
 ·rcases eH y z with k2|k2|k2
  ·rcases eH x z with k3|k3|k3
   ·exact one (by grind) (by grind) (by grind)
   ·exact absurd k3 h3
   ·exact three (by grind) (by grind) (by grind)
  ·exact absurd k2 h2
  ·exact two (by grind) (by grind) (by grind)
theorem D2 {α:Type} (p q r:α→Bool):∀ L:List α,(∀ x∈L,(p x).toNat=(q x).toNat+(r x).toNat)→L.countP p=L.countP q+L.countP r
 |[],_=>rfl
 |x::L,h=>by
  have ih:=D2 p q r L fun y hy=>h y (ag _ hy)
  have hx:=h x (ah ..)
  rw [List.countP_cons,List.countP_cons,List.countP_cons]
  cases h1:p x<;>cases h2:q x<;>cases h3:r x<;>rw [h1,h2,h3] at hx<;>simp at hx ⊢<;>omega
theorem Region.count (R:Region C S I) {D:List Sg} (nd:D.Nodup) (hD:∀ s,s∈D↔Dir S I s.a s.b) (hC:C.Nodup) (hy:∀ c∈C,∀ d∈C,c≠d→c.y≠d.y):
 D.length=3*(C.map fun v=>(bp (RTri C S I v)).toNat+(bp (LTri C S I v)).toNat).sum:=by
 have hth:∃ th:Sg→Pt,∀ s,s∈D→TrS C S s.a s.b (th s):=by
  refine Classical.axiomOfChoice (r:=fun s c=>s∈D→TrS C S s.a s.b c) fun s=> ?_
  by_cases hs:s∈D
  ·obtain ⟨c,hc,_⟩:=R.tri ((hD s).1 hs)
   exact ⟨c,fun _=>hc⟩
  ·exact ⟨s.a,fun k=>absurd k hs⟩
 obtain ⟨th,hth⟩:=hth
 have f1:∀ s∈D,(⟨s.b,th s⟩:Sg)∈D:=fun s hs=>(hD _).2 (R.tri' ((hD s).1 hs) (hth s hs)).1
 have f2:∀ s∈D,th ⟨s.b,th s⟩=s.a:=fun s hs=>TrS.third R.net (hth s hs).rot (hth _ (f1 s hs))
 have f3:∀ s∈D,th ⟨th s,s.a⟩=s.b:=fun s hs=>by
  have:=f2 _ (f1 s hs)
  rw [f2 s hs] at this;exact this
 have hne:∀ s∈D,s.a.y≠s.b.y∧s.b.y≠(th s).y∧s.a.y≠(th s).y:=fun s hs=>by
  have T:=hth s hs
  have hA:=T.pos
  refine ⟨hy _ T.mp _ T.mq fun e=> ?_,hy _ T.mq _ T.mr fun e=> ?_,hy _ T.mp _ T.mr fun e=> ?_⟩
  ·have z:ar s.b s.b (th s)=0:=by unfold ar;grind
   rw [e,z] at hA;exact aL hA
  ·rw [e,cw] at hA;exact aL hA
  ·rw [e,cL] at hA;exact aL hA
 have key:=SL nd (fun s=>⟨s.b,th s⟩) f1 (fun s hs=>by
  show (⟨th ⟨s.b,th s⟩,th ⟨th s,th ⟨s.b,th s⟩⟩⟩:Sg)=s
  rw [f2 s hs,f3 s hs]) (fun s=>bp (s.b.y<s.a.y∧s.a.y<(th s).y∨s.a.y<s.b.y∧(th s).y<s.a.y)) (fun s hs=>by
  simp only [f2 s hs,f3 s hs]
  obtain ⟨n1,n2,n3⟩:=hne s hs
  exact mid3 n1 n2 n3)
 rw [←key]
 congr 1
 rw [Hg Sg.a _ hC fun s hs=>(hth s hs).mp]
 congr 1
 refine List.map_congr_left fun v hv=> ?_
 rw [D2 _ (fun s=>bp (s.a=v∧s.b.y<s.a.y∧s.a.y<(th s).y)) (fun s=>bp (s.a=v∧s.a.y<s.b.y∧(th s).y<s.a.y)) D (fun s hs=>by
  have three:∀ {p q r:Prop},(q→¬r)→(bp (s.a=v)&&bp (q∨r)).toNat=(bp (s.a=v∧q)).toNat+(bp (s.a=v∧r)).toNat:=fun {p q r} h=>by
   by_cases e:s.a=v
   ·by_cases h1:q
    ·have g1:bp (s.a=v∧q)=true:=dD.2 ⟨e,h1⟩
     have g2:bp (s.a=v∧r)=false:=jp.2 fun k=>h h1 k.2
     have g3:bp (q∨r)=true:=dD.2 (.inl h1)
     rw [dD.2 e,g1,g2,g3];rfl
    ·by_cases h2:r
     ·have g1:bp (s.a=v∧q)=false:=jp.2 fun k=>h1 k.2
      have g2:bp (s.a=v∧r)=true:=dD.2 ⟨e,h2⟩
      have g3:bp (q∨r)=true:=dD.2 (.inr h2)
      rw [dD.2 e,g1,g2,g3];rfl
     ·have g1:bp (s.a=v∧q)=false:=jp.2 fun k=>h1 k.2
      have g2:bp (s.a=v∧r)=false:=jp.2 fun k=>h2 k.2
      have g3:bp (q∨r)=false:=jp.2 fun k=>k.elim h1 h2
      rw [g1,g2,g3,Bool.and_false];rfl
   ·have g1:bp (s.a=v∧q)=false:=jp.2 fun k=>e k.1
    have g2:bp (s.a=v∧r)=false:=jp.2 fun k=>e k.1
    rw [jp.2 e,g1,g2,Bool.false_and];rfl
  exact three (p:=True) (by grind))]
 have sg_eq:∀ {s s':Sg},s.a=s'.a→s.b=s'.b→s=s':=fun {s s'} h1 h2=>by
  cases s;cases s';simp only at h1 h2;rw [h1,h2]
 congr 1
 ·rw [Fm _ nd (fun s hs s' hs' k k'=>by
   obtain ⟨e,k1,k2⟩:=dD.1 k
   obtain ⟨e',k1',k2'⟩:=dD.1 k'
   have T:=hth s hs
   have T':=hth s' hs'
   rw [e] at T k1 k2
   rw [e'] at T' k1' k2'
   have:=R.around1 (t:=1) T (by grind) (by grind) T' (by grind) (by grind)
   exact sg_eq (e.trans e'.symm) this.1.symm)]
  congr 1
  rw [Bool.eq_iff_iff,dD,dD]
  constructor
  ·rintro ⟨s,hs,k⟩
   obtain ⟨e,k1,k2⟩:=dD.1 k
   have T:=hth s hs
   have hd:=(hD s).1 hs
   rw [e] at T k1 k2 hd
   exact ⟨s.b,th s,hd,T,k1,k2⟩
  ·rintro ⟨b,c,hd,T,k1,k2⟩
   have hs:(⟨v,b⟩:Sg)∈D:=(hD ⟨v,b⟩).2 hd
   have:=T.third R.net (hth _ hs)
   refine ⟨⟨v,b⟩,hs,dD.2 ⟨rfl,k1,?_⟩⟩
   rw [this];exact k2
 ·rw [Fm _ nd (fun s hs s' hs' k k'=>by
   obtain ⟨e,k1,k2⟩:=dD.1 k
   obtain ⟨e',k1',k2'⟩:=dD.1 k'
   have T:=hth s hs
   have T':=hth s' hs'
   rw [e] at T k1 k2
   rw [e'] at T' k1' k2'
   have:=R.around1 (t:= -1) T (by grind) (by grind) T' (by grind) (by grind)
   exact sg_eq (e.trans e'.symm) this.1.symm)]
  congr 1
  rw [Bool.eq_iff_iff,dD,dD]
  constructor
  ·rintro ⟨s,hs,k⟩
   obtain ⟨e,k1,k2⟩:=dD.1 k
   have T:=hth s hs
   have hd:=(hD s).1 hs
   rw [e] at T k1 k2 hd
   exact ⟨s.b,th s,hd,T,k1,k2⟩
  ·rintro ⟨b,c,hd,T,k1,k2⟩
   have hs:(⟨v,b⟩:Sg)∈D:=(hD ⟨v,b⟩).2 hd
   have:=T.third R.net (hth _ hs)
   refine ⟨⟨v,b⟩,hs,dD.2 ⟨rfl,k1,?_⟩⟩
   rw [this];exact k2
theorem Region.rt (R:Region C S I) {v:Pt} {t:Rat} (ht:0<t) (hv:v∈C) (hd:∀ c∈C,c≠v→c.y≠v.y) (ho:zn S v (lN v t)):RTri C S I v↔I (lN v t):=by
 rw [R.around (by grind) hv hd ho]
 constructor
 ·rintro ⟨b,c,h1,h2,h3,h4⟩
  exact ⟨b,c,h1,h2,au ht (by grind),au ht (by grind)⟩
 ·rintro ⟨b,c,h1,h2,h3,h4⟩
  refine ⟨b,c,h1,h2,?_,?_⟩
  ·rcases qlt b.y v.y with k|k
   ·exact k
   ·have:=aj (ai ht) (show 0≤b.y-v.y by grind);grind
  ·rcases qlt v.y c.y with k|k
   ·exact k
   ·have:=aj (ai ht) (show 0≤v.y-c.y by grind);grind
theorem Region.lf (R:Region C S I) {v:Pt} {t:Rat} (ht:t<0) (hv:v∈C) (hd:∀ c∈C,c≠v→c.y≠v.y) (ho:zn S v (lN v t)):LTri C S I v↔I (lN v t):=by
 have hn:0< -t:=by grind
 rw [R.around (by grind) hv hd ho]
 constructor
 ·rintro ⟨b,c,h1,h2,h3,h4⟩
  have p1:=au hn (show 0<b.y-v.y by grind)
  have p2:=au hn (show 0<v.y-c.y by grind)
  exact ⟨b,c,h1,h2,by grind,by grind⟩
 ·rintro ⟨b,c,h1,h2,h3,h4⟩
  refine ⟨b,c,h1,h2,?_,?_⟩
  ·rcases qlt v.y b.y with k|k
   ·exact k
   ·have:=aj (ai hn) (show 0≤v.y-b.y by grind);grind
  ·rcases qlt c.y v.y with k|k
   ·exact k
   ·have:=aj (ai hn) (show 0≤c.y-v.y by grind);grind
theorem yX (n:Net C S) {v:Pt} (hv:v∈C) (hd:∀ c∈C,c≠v→c.y≠v.y) {t:Rat} (ht:t≠0):∃ l,0<l∧l<1∧∀ k,0<k→k≤l→zn S v (lN v (k*t)):=by
 have hne:v≠lN v t:=(Fz ht).symm
 obtain ⟨l,l0,l1,hf,_⟩:=rJ hne S n.ne (fun s hs ho e=>by
  rcases n.on s hs v hv ho with k|k
  ·have hb:s.b≠v:=fun j=>n.ne s hs (by rw [←k,j])
   rw [←k,rQ] at e
   rcases br.1 e with j|j
   ·exact ht j
   ·exact hd _ (n.eb s hs) hb (by grind)
  ·have ha:s.a≠v:=fun j=>n.ne s hs (by rw [←k,j])
   rw [←k,t9] at e
   rcases br.1 e with j|j
   ·exact ht j
   ·exact hd _ (n.ea s hs) ha (by grind))
 refine ⟨l/2,by grind,by grind,fun k k0 k1 s hs P h1 h2=> ?_⟩
 have e:lN v (k*t)=pt v (lN v t) k:=by refine Pt.ext ?_ ?_<;>(unfold lN pt;simp only;grind)
 rw [e] at h2
 obtain ⟨j,j0,j1,ej⟩:=EK (ai k0) (by grind) h2
 rcases cf j0 with g|g
 ·exact absurd (by rw [←ej];exact h1) (hf s hs j g (by grind))
 ·rw [ej,←g,iH]
end Go.Av
namespace Go.Av
noncomputable def lW (v:Pt) (s:Sg):Bool:=bp (s.a=v∧v.y<s.b.y∨s.b=v∧v.y<s.a.y)
theorem R8 {v w:Pt} {t:Rat} (ht:t≠0) (hy:w.y≠v.y):cr (lN v t) v w=(decide (t<0)&&decide (v.y<w.y)):=by
 have e:(lN v t).y=v.y:=rfl
 rcases eH v.y w.y with k|k|k
 ·rw [qH (by rw [e];exact aL) (by rw [e];exact k),rQ,an k,Bool.and_true,decide_eq_decide]
  constructor
  ·intro h
   rcases qlt t 0 with g|g
   ·exact g
   ·have:=aj g (show 0≤w.y-v.y by grind);grind
  ·intro h
   have:=au (show 0< -t by grind) (show 0<w.y-v.y by grind);grind
 ·exact absurd k.symm hy
 ·rw [po (by rw [e];exact aL) (by rw [e];grind),ak (show ¬v.y<w.y by grind),Bool.and_false]
theorem L9 {v:Pt} {s:Sg} {t:Rat} (ht:t≠0) (hon:aJ s.a s.b v→s.a=v∨s.b=v) (hy:s.a.y≠s.b.y) (ho:∀ P,aJ s.a s.b P→aJ v (lN v t) P→P=v):
 cr (lN v t) s.a s.b=(cr v s.a s.b^^(decide (t<0)&&lW v s)):=by
 by_cases hv:aJ s.a s.b v
 ·rw [o9 (iv hv),Bool.false_xor]
  rcases hon hv with e|e
  ·have:lW v s=decide (v.y<s.b.y):=by
    unfold lW
    rw [Bool.eq_iff_iff,dD,aE]
    constructor
    ·rintro (⟨_,k⟩|⟨k,k2⟩)
     ·exact k
     ·exfalso;rw [e] at hy;rw [k] at hy;exact hy rfl
    ·intro k;exact .inl ⟨e,k⟩
   rw [this,←R8 ht (by rw [←e];exact hy.symm),e]
  ·have:lW v s=decide (v.y<s.a.y):=by
    unfold lW
    rw [Bool.eq_iff_iff,dD,aE]
    constructor
    ·rintro (⟨k,k2⟩|⟨_,k⟩)
     ·exfalso;rw [e] at hy;rw [k] at hy;exact hy rfl
     ·exact k
    ·intro k;exact .inr ⟨e,k⟩
   rw [this,←R8 ht (by rw [←e];exact hy),e,mL]
 ·have hup:lW v s=false:=by
   unfold lW
   refine jp.2 ?_
   rintro (⟨k,_⟩|⟨k,_⟩)
   ·exact hv (by rw [←k];exact j8 _ _)
   ·exact hv (by rw [←k];exact mI _ _)
  have hc:¬ez v (lN v t) s.a s.b:=fun ⟨P,k1,k2⟩=>by
   have:=ho P k2 k1
   rw [this] at k2;exact hv k2
  have h:=tZ hc
  have z:∀ w,mN v (lN v t) w=false:=fun w=>by
   have e:(lN v t).y=v.y:=rfl
   unfold mN
   rw [if_pos (by rw [e];exact Rat.le_refl)]
   refine ak fun k=> ?_
   obtain ⟨k1,k2,_⟩:=k
   rw [e] at k2;grind
  rw [z,z] at h
  rw [hup,Bool.and_false,Bool.xor_false]
  cases h1:cr v s.a s.b<;>cases h2:cr (lN v t) s.a s.b<;>rw [h1,h2] at h<;>first|rfl|cases h
theorem Ig {E:List Sg} {v:Pt} {t:Rat} (ht:t≠0) (hon:∀ s∈E,aJ s.a s.b v→s.a=v∨s.b=v) (hy:ud E) (ho:zn E v (lN v t)):
 bV (fun s=>cr (lN v t) s.a s.b) E=(bV (fun s=>cr v s.a s.b) E^^(decide (t<0)&&bV (lW v) E)):=by
 rw [jl (g:=fun s=>cr v s.a s.b^^(decide (t<0)&&lW v s)) (fun s hs=>L9 ht (hon s hs) (hy s hs) (ho s hs)),m6]
 congr 1
 cases decide (t<0) with
 |true=>simp
 |false=>exact lZ fun s _=>rfl
noncomputable def wt (E:List Sg) (v:Pt):Nat:=(bV (fun s=>cr v s.a s.b) E).toNat+(bV (fun s=>cr v s.a s.b) E^^bV (lW v) E).toNat
variable {C:List Pt} {S E:List Sg} {I:Pt→Prop}
theorem Region.count_wt (R:Region C S I) {D:List Sg} (nd:D.Nodup) (hD:∀ s,s∈D↔Dir S I s.a s.b) (hC:C.Nodup) (hy:∀ c∈C,∀ d∈C,c≠d→c.y≠d.y) (hE:∀ s∈E,s∈S)
 (hI:∀ q,(∀ s∈S,¬aJ s.a s.b q)→(I q↔bV (fun s=>cr q s.a s.b) E=true)):D.length=3*(C.map (wt E)).sum:=by
 rw [R.count nd hD hC hy]
 congr 2
 refine List.map_congr_left fun v hv=> ?_
 have hd:∀ c∈C,c≠v→c.y≠v.y:=fun c hc hne=>hy c hc v hv hne
 have one:∀ t:Rat,t≠0→zn S v (lN v t)→(I (lN v t)↔(bV (fun s=>cr v s.a s.b) E^^(decide (t<0)&&bV (lW v) E))=true):=fun t ht ho=>by
  rw [hI _ fun s hs k=>Fz ht (ho s hs _ k (mI _ _)),Ig ht (fun s hs k=> ?_) (fun s hs=> ?_) (fun s hs=>ho s (hE s hs))]
  ·rcases R.net.on s (hE s hs) v hv k with g|g
   ·exact .inl g.symm
   ·exact .inr g.symm
  ·exact hy _ (R.net.ea s (hE s hs)) _ (R.net.eb s (hE s hs)) (R.net.ne s (hE s hs))
 obtain ⟨l,l0,_,hl⟩:=yX R.net hv hd (t:=1) (by decide+kernel)
 obtain ⟨m,m0,_,hm⟩:=yX R.net hv hd (t:= -1) (by decide+kernel)
 have o1:=hl l l0 Rat.le_refl
 have o2:=hm m m0 Rat.le_refl
 have l1:0<l*1:=by grind
 have m1:m* -1<0:=by grind
 have n1:¬l*1<0:=by grind
 have b:∀ {p:Prop} {x:Bool},(p↔x=true)→bp p=x:=fun {p x} h=>by
  rw [Bool.eq_iff_iff,dD];exact h
 unfold wt
 rw [b ((R.rt l1 hv hd o1).trans (one _ (by grind) o1)),b ((R.lf m1 hv hd o2).trans (one _ (by grind) o2)),an m1,ak n1,Bool.true_and,Bool.false_and,Bool.xor_false]
end Go.Av
namespace Go.Av
variable {C:List Pt} {S E:List Sg}
theorem Net.sub (n:Net C S) {C':List Pt} {S':List Sg} (hC:∀ c∈C',c∈C) (hS:∀ s∈S',s∈S) (ha:∀ s∈S',s.a∈C') (hb:∀ s∈S',s.b∈C'):Net C' S':=
 ⟨fun s hs=>n.ne s (hS s hs),ha,hb,fun s hs t ht=>n.cross s (hS s hs) t (hS t ht),fun s hs c hc=>n.on s (hS s hs) c (hC c hc)⟩
theorem Net.add (n:Net C S) {u v:Pt} (hu:u∈C) (hv:v∈C) (hne:u≠v) (hf:nL S u v) (ho:∀ c∈C,aJ u v c→c=u∨c=v):Net C (⟨u,v⟩::S):=by
 have hl:=tH n hu hv hf
 refine ⟨fun s hs=> ?_,fun s hs=> ?_,fun s hs=> ?_,fun s hs t ht P h1 h2=> ?_,fun s hs c hc h=> ?_⟩
 ·rcases ay.1 hs with rfl|hs
  ·exact hne
  ·exact n.ne s hs
 ·rcases ay.1 hs with rfl|hs
  ·exact hu
  ·exact n.ea s hs
 ·rcases ay.1 hs with rfl|hs
  ·exact hv
  ·exact n.eb s hs
 ·rcases ay.1 hs with rfl|hs
  ·rcases ay.1 ht with rfl|ht
   ·exact .inl (.inl rfl)
   ·rcases hl t ht P h2 h1 with k|⟨k1,k2⟩
    ·left
     rcases k with rfl|rfl
     ·exact .inl rfl
     ·exact .inr rfl
    ·exact .inr ⟨k2,k1⟩
  ·rcases ay.1 ht with rfl|ht
   ·exact hl s hs P h1 h2
   ·exact n.cross s hs t ht P h1 h2
 ·rcases ay.1 hs with rfl|hs
  ·exact ho c hc h
  ·exact n.on s hs c hc h
theorem TrE.onLeg {p q r:Pt} (h:TrE C S p q r) {f:Pt} (hf:f∈C) (ho:aJ p q f):f=p∨f=q:=by
 rcases h.emp f hf (uA h.pos ho) with k|k|k
 ·exact .inl k
 ·exact .inr k
 ·exfalso
  have:=iv ho
  have g:=h.pos
  rw [←k,this] at g;exact aL g
def ko:Pt→List Pt→List Sg
 |_,[]=>[]
 |a,b::l=>⟨a,b⟩::ko b l
theorem m8:∀ (a:Pt) (A:List Pt) (c:Pt) (B:List Pt),ko a (A++c::B)=ko a (A++[c])++ko c B
 |_,[],_,_=>rfl
 |_,b::A,c,B=>by
  show _::ko b (A++c::B)=_::(ko b (A++[c])++ko c B)
  rw [m8 b A c B]
theorem Al {s:Sg}:∀ {a:Pt} {l:List Pt},s∈ko a l→s.a∈a::l∧s.b∈l
 |a,b::l,h=>by
  rcases ay.1 h with rfl|h
  ·exact ⟨ah ..,ah ..⟩
  ·have:=Al h
   exact ⟨ag _ this.1,ag _ this.2⟩
def be (v:Pt) (M:List Pt):List Sg:=ko v (M++[v])
theorem iA {v:Pt} {M:List Pt} {s:Sg} (h:s∈be v M):s.a∈v::M∧s.b∈v::M:=by
 have:=Al h
 simp only [ay,aF,List.not_mem_nil,or_false] at this ⊢
 refine ⟨?_,?_⟩
 ·rcases this.1 with k|k|k
  ·exact .inl k
  ·exact .inr k
  ·exact .inl k
 ·rcases this.2 with k|k
  ·exact .inr k
  ·exact .inl k
theorem jE (v:Pt) (A:List Pt) (c:Pt) (B:List Pt):be v (A++c::B)=ko v (A++[c])++ko c (B++[v]):=by
 unfold be
 rw [bE,List.cons_append,m8]
theorem v8 (v:Pt) (A:List Pt) (c:Pt):be v (A++[c])=ko v (A++[c])++[⟨c,v⟩]:=by
 unfold be
 rw [bE,List.cons_append,m8];rfl
theorem v7 (v:Pt) (c:Pt) (B:List Pt):be v (c::B)=⟨v,c⟩::ko c (B++[v]):=rfl
theorem ol {f:Sg→Bool} {v c:Pt} (hf:f ⟨c,v⟩=f ⟨v,c⟩) (A B:List Pt):bV f (be v (A++c::B))=(bV f (be v (A++[c]))^^bV f (be v (c::B))):=by
 rw [jE,v8,v7,kn,kn]
 show _=((bV f (ko v (A++[c]))^^(f ⟨c,v⟩^^false))^^(f ⟨v,c⟩^^bV f (ko c (B++[v]))))
 rw [hf]
 cases f ⟨v,c⟩<;>cases bV f (ko v (A++[c]))<;>cases bV f (ko c (B++[v]))<;>rfl
theorem Net.cut {v c:Pt} {A B:List Pt} (n:Net (v::(A++c::B)) (be v (A++c::B))) (hne:v≠c) (hf:nL (be v (A++c::B)) v c) (ho:∀ x∈v::(A++c::B),aJ v c x→x=v∨x=c):
 Net (v::(A++[c])) (be v (A++[c]))∧Net (v::c::B) (be v (c::B)):=by
 have hc:c∈v::(A++c::B):=by simp
 have n1:=n.add (ah ..) hc hne hf ho
 have n2:=n.add hc (ah ..) hne.symm (fun s hs P h1 h2=>(hf s hs P h1 (cH h2)).symm) (fun x hx h=>(ho x hx (cH h)).symm)
 refine ⟨n2.sub (fun x hx=> ?_) (fun s hs=> ?_) (fun s hs=>(iA hs).1) (fun s hs=>(iA hs).2),n1.sub (fun x hx=> ?_) (fun s hs=> ?_) (fun s hs=>(iA hs).1) (fun s hs=>(iA hs).2)⟩
 ·simp only [ay,aF,List.not_mem_nil,or_false] at hx ⊢
  rcases hx with k|k|k
  ·exact .inl k
  ·exact .inr (.inl k)
  ·exact .inr (.inr (.inl k))
 ·rw [v8,aF] at hs
  rw [jE]
  rcases hs with k|k
  ·exact ag _ (bg _ k)
  ·rw [bH.1 k];exact ah ..
 ·simp only [ay,aF] at hx ⊢
  rcases hx with k|k|k
  ·exact .inl k
  ·exact .inr (.inr (.inl k))
  ·exact .inr (.inr (.inr k))
 ·rw [v7] at hs
  rw [jE]
  rcases ay.1 hs with k|k
  ·rw [k];exact ah ..
  ·exact ag _ (bC _ k)
end Go.Av
