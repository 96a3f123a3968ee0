/- Helping texts: Lq, Nj, Nk. -/
import Derived.Test.YtkmlhdfpcjkekaaGreatKLk
import Derived.Test.YtkmlhdfpcjkekaaGreatKNg
set_option linter.unusedSimpArgs false
set_option linter.unusedVariables false
set_option maxRecDepth 100000
set_option maxHeartbeats 16000000
namespace Go.Av
open Go.RowKit
open Go.Proofs.Tryz (prog)
theorem Kj (s t:Sg):eqA (aD prog) 9 39 (.agg [.prim (.bool (can s.a.x).neg),.prim (.string (bs ((can s.a.x).num))),.prim (.string (bs ((can s.a.x).den))),.prim (.bool (can s.a.y).neg),.prim (.string (bs ((can s.a.y).num))),.prim (.string (bs ((can s.a.y).den))),.prim (.bool (can s.b.x).neg),.prim (.string (bs ((can s.b.x).num))),.prim (.string (bs ((can s.b.x).den))),.prim (.bool (can s.b.y).neg),.prim (.string (bs ((can s.b.y).num))),.prim (.string (bs ((can s.b.y).den)))])
 (.agg [.prim (.bool (can t.a.x).neg),.prim (.string (bs ((can t.a.x).num))),.prim (.string (bs ((can t.a.x).den))),.prim (.bool (can t.a.y).neg),.prim (.string (bs ((can t.a.y).num))),.prim (.string (bs ((can t.a.y).den))),.prim (.bool (can t.b.x).neg),.prim (.string (bs ((can t.b.x).num))),.prim (.string (bs ((can t.b.x).den))),.prim (.bool (can t.b.y).neg),.prim (.string (bs ((can t.b.y).num))),.prim (.string (bs ((can t.b.y).den)))])=some (decide (s=t)):=IM s t
theorem Iw (l:List Sg) (q:Sg) (hn:l.length<2^40):PC prog 69 [ssV l,sgV q] (.prim (.int .i64 (oa l.length fun i=>decide (q=l.getD i sg0)))):=by
 have hlen:(l.map sgc).length=l.length:=az ..
 refine PCi ?_
 conv in bL _ _=>cbv
 simp only [bM,RN,simprocAttr]
 simp (disch:=omega) only [↓RS,RZ,simprocAttr,ssV,hlen,sgV,s4V]
 refine eG (fun (i:Nat) J=>ov [(0,ssV l),(3,.ptr 0 0 0),(4,.prim (.int .i64 (0))),(6,ssV l),(7,.prim (.int .i64 ((l.length:Nat):Int))),(8,.prim (.int .i64 ((i:Nat):Int)))] J 0 19) (fun i H=>(i≤l.length∧∀ j,j<i→decide (q=l.getD j sg0)=false)∧H=[some (.row 12 true [sgc q])]) (fun i=>l.length-i) 0 rfl ⟨⟨bh _,fun j hj=>absurd hj (Nat.not_lt_zero j)⟩,rfl⟩ ?_
 rintro i J _ ⟨⟨hi,hp⟩,rfl⟩
 try conv in ov _ _ _ _=>simp only [ov,List.lookup,RO,simprocAttr]
 rcases am i l.length with hlt|hge
 ·have g:=nF hlt
  have e:=Kj q (l.getD i sg0)
  by_cases hz:q=l.getD i sg0
  ·rw [lT hlt (an hz) hp]
   rw [an hz] at e
   simp (disch:=omega) only [↓RS,RZ,simprocAttr,ssV,hlen,g,sgc,e]
  ·rw [ak hz] at e
   simp (disch:=omega) only [↓RS,RZ,simprocAttr,ssV,hlen,g,sgc,e]
   exact bl (i+1) rfl ⟨⟨hlt,fun j hj=>by
    rcases am j i with h|h
    ·simpa using hp j h
    ·rw [show j=i by omega];simpa using hz⟩,rfl⟩ (by omega)
 ·have hia:i=l.length:=by omega
  subst hia
  rw [ki hp]
  simp (disch:=omega) only [↓RS,RZ,simprocAttr,ssV,hlen,sgc]
theorem GH (l:List Sg) (H:Hp):view H 9 (lsV l)=some (lsV l):=by
 unfold lsV;split<;>simp [view,ssV]
theorem Ix (l:List Sg) (q:Sg) (hn:l.length<2^40):PC prog 69 [lsV l,sgV q] (.prim (.int .i64 (oa l.length fun i=>decide (q=l.getD i sg0)))):=by
 unfold lsV
 by_cases h:l=[]
 ·rw [if_pos h]
  subst h
  have e:oa ([]:List Sg).length (fun i=>decide (q=([]:List Sg).getD i sg0))= -1:=ki fun j hj=>absurd hj (Nat.not_lt_zero j)
  rw [e]
  refine PCi ?_
  conv in bL _ _=>cbv
  simp only [bM,RN,simprocAttr]
  simp (disch:=omega) only [↓RS,RZ,simprocAttr,sgV,s4V]
  refine eG (fun (i:Nat) J=>ov [(0,.prim (.slice none 0 0)),(3,.ptr 0 0 0),(4,.prim (.int .i64 (0))),(6,.prim (.slice none 0 0)),(7,.prim (.int .i64 ((0:Nat):Int))),(8,.prim (.int .i64 ((i:Nat):Int)))] J 0 19) (fun i H=>i=0∧H=[some (.row 12 true [sgc q])]) (fun i=>0) 0 rfl ⟨rfl,rfl⟩ ?_
  rintro i J _ ⟨rfl,rfl⟩
  try conv in ov _ _ _ _=>simp only [ov,List.lookup,RO,simprocAttr]
  simp (disch:=omega) only [↓RS,RZ,simprocAttr,sgc]
 ·rw [if_neg h];exact Iw l q hn
theorem Ip (L:List Sg) (q:Sg):((List.range L.length).any fun i=>decide (q=L.getD i sg0))=decide (q∈L):=by
 rw [Bool.eq_iff_iff,List.any_eq_true,aE]
 constructor
 ·rintro ⟨i,hi,h⟩
  have hi:i<L.length:=by simpa using hi
  rw [of_decide_eq_true h,ae,af hi];exact bx hi
 ·intro h
  obtain ⟨i,hi,rfl⟩:=bK.1 h
  exact ⟨i,by simpa using hi,an (by rw [ae,af hi];rfl)⟩
theorem B7 (L:List Sg) (q:Sg) (hn:L.length<2^40):PC prog 18 [lsV L,sgV q] (.prim (.bool (decide (q∈L)))):=by
 refine PCi ?_
 conv in bL _ _=>cbv
 simp only [bM,RN,simprocAttr]
 have h:=Ix L q hn
 rw [←Ip,←kX]
 have hw:=GH L
 generalize lsV L=v at*
 simp (disch:=omega) only [↓RS,RZ,simprocAttr,sgV,s4V,sgc,hw]
 refine cX h ?_
 simp (disch:=omega) only [↓RS,RZ,simprocAttr]
theorem GO (l:List Sg) (f:FuncId) (cap:List V) (p:Nat→Bool) {H:Hp} {K:V→Hp→Prop} (hn:l.length<2^40)
 (hf:FG f cap l.length (fun i=>sgV (l.getD i sg0)) p H) (hK:∀ H',Ext H H'→K (.prim (.int .i64 (oa l.length p))) H'):
 SC prog 70 [ssV l,.clo f [] cap] H K:=by
 have hlen:(l.map sgc).length=l.length:=az ..
 refine SCi ?_
 conv in bL _ _=>cbv
 simp only [bM,RN,simprocAttr]
 simp (disch:=omega) only [↓RS,RZ,simprocAttr,ssV,hlen]
 refine eG (fun (i:Nat) J=>ov [(0,ssV l),(1,.clo f [] cap),(4,.prim (.int .i64 (0))),(6,ssV l),(7,.prim (.int .i64 ((l.length:Nat):Int))),(8,.prim (.int .i64 ((i:Nat):Int)))] J 0 19) (fun i H'=>(i≤l.length∧∀ j,j<i→p j=false)∧Ext H H') (fun i=>l.length-i) 0 rfl ⟨⟨bh _,fun j hj=>absurd hj (Nat.not_lt_zero j)⟩,Ext.refl⟩ ?_
 rintro i J H1 ⟨⟨hi,hp⟩,hE⟩
 try conv in ov _ _ _ _=>simp only [ov,List.lookup,RO,simprocAttr]
 rcases am i l.length with hlt|hge
 ·have g:=nF hlt
  simp (disch:=omega) only [↓RS,RZ,simprocAttr,ssV,hlen,g,sgc]
  refine bI (hf i _ _ hlt hE ?_)
  intro H2 hE2
  have hE3:=hE.trans hE2
  cases hpi:p i with
  |true=>
   rw [lT hlt hpi hp] at hK
   simp (disch:=omega) only [↓RS,RZ,simprocAttr]
   exact hK _ hE3
  |false=>
   simp (disch:=omega) only [↓RS,RZ,simprocAttr]
   exact bl (i+1) rfl ⟨⟨hlt,fun j hj=>by
    rcases am j i with h|h
    ·exact hp j h
    ·rw [show j=i by omega];exact hpi⟩,hE3⟩ (by omega)
 ·have hia:i=l.length:=by omega
  subst hia
  rw [ki hp] at hK
  simp (disch:=omega) only [↓RS,RZ,simprocAttr,ssV,hlen]
  exact hK _ hE
theorem Iy (l:List Sg) (f:FuncId) (cap:List V) (p:Nat→Bool) {H:Hp} {K:V→Hp→Prop} (hn:l.length<2^40)
 (hf:FG f cap l.length (fun i=>sgV (l.getD i sg0)) p H) (hK:∀ H',Ext H H'→K (.prim (.int .i64 (oa l.length p))) H'):
 SC prog 70 [lsV l,.clo f [] cap] H K:=by
 unfold lsV
 by_cases h:l=[]
 ·rw [if_pos h]
  subst h
  have e:oa ([]:List Sg).length p= -1:=ki fun j hj=>absurd hj (Nat.not_lt_zero j)
  rw [e] at hK
  refine SCi ?_
  conv in bL _ _=>cbv
  simp only [bM,RN,simprocAttr]
  simp (disch:=omega) only [↓RS,RZ,simprocAttr]
  refine eG (fun (i:Nat) J=>ov [(0,.prim (.slice none 0 0)),(1,.clo f [] cap),(4,.prim (.int .i64 (0))),(6,.prim (.slice none 0 0)),(7,.prim (.int .i64 ((0:Nat):Int))),(8,.prim (.int .i64 ((i:Nat):Int)))] J 0 19) (fun i H'=>i=0∧H'=H) (fun i=>0) 0 rfl ⟨rfl,rfl⟩ ?_
  rintro i J _ ⟨rfl,rfl⟩
  try conv in ov _ _ _ _=>simp only [ov,List.lookup,RO,simprocAttr]
  simp (disch:=omega) only [↓RS,RZ,simprocAttr]
  exact hK _ Ext.refl
 ·rw [if_neg h];exact GO l f cap p hn hf hK
theorem B8 (l:List Sg) (f:FuncId) (cap:List V) (p:Nat→Bool) {H:Hp} {K:V→Hp→Prop} (hn:l.length<2^40)
 (hf:FG f cap l.length (fun i=>sgV (l.getD i sg0)) p H) (hK:∀ H',Ext H H'→K (.prim (.bool (jI l.length p))) H'):
 SC prog 19 [lsV l,.clo f [] cap] H K:=by
 unfold jI at hK
 rw [←kX] at hK
 have hi:= @Iy l f cap p H
 generalize lsV l=v at*
 refine SCi ?_
 conv in bL _ _=>cbv
 simp only [bM,RN,simprocAttr]
 simp (disch:=omega) only [↓RS,RZ,simprocAttr]
 refine bI (hi hn hf ?_)
 intro H' hE
 by_cases h:0≤oa l.length p
 ·rw [an h] at hK
  simp (disch:=omega) only [↓RS,RZ,simprocAttr]
  exact hK _ hE
 ·rw [ak h] at hK
  simp (disch:=omega) only [↓RS,RZ,simprocAttr]
  exact hK _ hE
theorem Pc (s t:Sg) (h1:hs s≤2^20) (h2:hs t≤2^20) {b:Nat} {H:Hp} {K:V→Hp→Prop} (hb:get H b=some (.row 12 true [sgc s])) (hK:∀ H',Ext H H'→K (.prim (.bool (jJ s t))) H'):
 SC prog 20 [sgV t,.ptr b 0 0] H K:=by
 have c:=xS s t h1 h2
 have w1:∀ x,get (H++[x]) b=some (.row 12 true [sgc s]):=fun x=>aO hb
 have k:=hK _ (Ext.app [some (.row 12 true [sgc t])])
 refine SCi ?_
 conv in bL _ _=>cbv
 simp only [bM,RN,simprocAttr]
 simp (disch:=omega) only [↓RS,RZ,simprocAttr,sgV,s4V,w1,sgc]
 refine cX c ?_
 simp (disch:=omega) only [↓RS,RZ,simprocAttr]
 exact k
end Go.Av
namespace Go.Av
variable {C:List Pt} {S:List Sg} {I:Pt→Prop} {a b:Pt}
theorem Region.tri' (R:Region C S I) {c:Pt} (h:Dir S I a b) (hT:TrS C S a b c):Dir S I b c∧Dir S I c a∧∀ x,InO a b c x→I x:=by
 obtain ⟨c',h1,h2,h3,h4⟩:=R.tri h
 have:=hT.third R.net h1
 subst this
 exact ⟨h2,h3,h4⟩
def lN (v:Pt) (t:Rat):Pt:=⟨v.x+t,v.y⟩
theorem rQ (v b:Pt) (t:Rat):ar v b (lN v t)=t*(v.y-b.y):=by unfold ar lN;simp only;grind
theorem t9 (v c:Pt) (t:Rat):ar c v (lN v t)=t*(c.y-v.y):=by unfold ar lN;simp only;grind
theorem Fz {v:Pt} {t:Rat} (h:t≠0):lN v t≠v:=fun e=>h (by have:=congrArg Pt.x e;unfold lN at this;simp only at this;grind)
theorem uA {p q r u:Pt} (hA:0<ar p q r) (h:aJ p q u):InT p q r u:=by
 obtain ⟨n,n0,n1,e⟩:=h
 rw [e];exact EC hA n0 n1
theorem Region.around (R:Region C S I) {v:Pt} {t:Rat} (ht:t≠0) (hv:v∈C) (hd:∀ c∈C,c≠v→c.y≠v.y) (ho:zn S v (lN v t)):
 I (lN v t)↔∃ b c,Dir S I v b∧TrS C S v b c∧0<t*(v.y-b.y)∧0<t*(c.y-v.y):=by
 have hne:=Fz (v:=v) ht
 constructor
 ·intro hI
  have hC:lN v t∉C:=fun k=>hd _ k hne rfl
  have hoff:∀ s∈S,¬aJ s.a s.b (lN v t):=fun s hs k=>hne (ho s hs _ k (mI _ _))
  obtain ⟨p,q,r,hD,hT,hi⟩:=R.cover hI hC hoff
  obtain ⟨hD2,hD3,_⟩:=R.tri' hD hT
  have hA:=hT.pos
  have hin:InT p q r v:=by
   refine Classical.byContradiction fun hn=> ?_
   have no:∀ {i j},(∃ s∈S,eF s ⟨i,j⟩)→(aJ i j v→InT p q r v)→¬ez (lN v t) v i j:=fun {i j} ⟨s,hs,k⟩ hg ⟨P,k1,k2⟩=>by
    have:=ho s hs P ((kH k).2 k2) (cH k1)
    rw [this] at k2
    exact hn (hg k2)
   exact hn (exit hi (no hT.s1 fun k=>uA hA k) (no hT.s2 fun k=>(uA (r:=p) (by rw [ld];exact hA) k).rot.rot) (no hT.s3 fun k=>(uA (r:=q) (by rw [iu];exact hA) k).rot)).le
  have fin:∀ {b c},Dir S I v b→TrS C S v b c→InO v b c (lN v t)→∃ b c,Dir S I v b∧TrS C S v b c∧0<t*(v.y-b.y)∧0<t*(c.y-v.y):=fun {b c} h1 h2 h3=>⟨b,c,h1,h2,by rw [←rQ];exact h3.a,by rw [←t9];exact h3.c⟩
  rcases hT.emp v hv hin with rfl|rfl|rfl
  ·exact fin hD hT hi
  ·exact fin hD2 hT.rot hi.rot
  ·exact fin hD3 hT.rot.rot hi.rot.rot
 ·rintro ⟨b,c,hD,hT,h1,h2⟩
  obtain ⟨_,_,hall⟩:=R.tri' hD hT
  obtain ⟨e,e0,e1,ep⟩:=zk (ar b c (lN v t)) (show 0<ar b c v by rw [ld v b c];exact hT.pos)
  have hi:InO v b c (pt v (lN v t) e):=by
   refine ⟨?_,?_,?_⟩
   ·rw [bm,cL,rQ];have:=au e0 h1;grind
   ·rw [bm];exact ep e (ai e0) Rat.le_refl
   ·rw [bm,cw,t9];have:=au e0 h2;grind
  refine R.stay _ _ (fun s hs ⟨P,k1,k2⟩=> ?_) (hall _ hi)
  obtain ⟨n,n0,n1,eP⟩:=k1
  have e3:P=pt v (lN v t) (e+n*(1-e)):=by rw [eP];exact EJ _ _ _ _
  have p1:=aj n0 (show 0≤1-e by grind)
  have p2:=aj (show 0≤1-n by grind) (show 0≤1-e by grind)
  have:=ho s hs P k2 ⟨_,by grind,by grind,e3⟩
  rw [this] at e3
  have:=jt hne.symm ((iH v (lN v t)).trans e3)
  grind
theorem Region.around1 (R:Region C S I) {v b c b' c':Pt} {t:Rat} (h:TrS C S v b c) (h1:0<t*(v.y-b.y)) (h2:0<t*(c.y-v.y)) (k:TrS C S v b' c') (k1:0<t*(v.y-b'.y)) (k2:0<t*(c'.y-v.y)):b'=b∧c'=c:=by
 obtain ⟨e1,e10,e11,e1p⟩:=zk (ar b c (lN v t)) (show 0<ar b c v by rw [ld v b c];exact h.pos)
 obtain ⟨e2,e20,e21,e2p⟩:=zk (ar b' c' (lN v t)) (show 0<ar b' c' v by rw [ld v b' c'];exact k.pos)
 have hmin:∃ e,0<e∧e≤e1∧e≤e2:=by
  rcases qlt e1 e2 with k|k
  ·exact ⟨e1,e10,Rat.le_refl,ai k⟩
  ·exact ⟨e2,e20,k,Rat.le_refl⟩
 obtain ⟨e,e0,el1,el2⟩:=hmin
 have i1:InO v b c (pt v (lN v t) e):=by
  refine ⟨?_,?_,?_⟩
  ·rw [bm,cL,rQ];have:=au e0 h1;grind
  ·rw [bm];exact e1p e (ai e0) el1
  ·rw [bm,cw,t9];have:=au e0 h2;grind
 have i2:InO v b' c' (pt v (lN v t) e):=by
  refine ⟨?_,?_,?_⟩
  ·rw [bm,cL,rQ];have:=au e0 k1;grind
  ·rw [bm];exact e2p e (ai e0) el2
  ·rw [bm,cw,t9];have:=au e0 k2;grind
 have hA:=h.pos
 rcases h.same R.net k i1 i2 with ⟨_,g1,g2⟩|⟨g,_,_⟩|⟨g,_,_⟩
 ·exact ⟨g1,g2⟩
 ·exfalso
  have z:ar v v c=0:=by unfold ar;grind
  rw [←g,z] at hA;exact aL hA
 ·exfalso
  rw [←g,cL] at hA;exact aL hA
end Go.Av
namespace Go.Av
variable {C:List Pt} {S:List Sg} {I:Pt→Prop} {a b:Pt}
noncomputable def bp (p:Prop):Bool:= @decide p (Classical.propDecidable p)
theorem dD {p:Prop}:bp p=true↔p:=by
 unfold bp;exact @decide_eq_true_iff p (Classical.propDecidable p)
theorem jp {p:Prop}:bp p=false↔¬p:=by
 constructor
 ·intro h k;rw [dD.2 k] at h;cases h
 ·intro h
  cases e:bp p with
  |false=>rfl
  |true=>exact absurd (dD.1 e) h
theorem F1 {α:Type}:∀ C:List α,(C.map fun _=>0).sum=0
 |[]=>rfl
 |_::C=>by rw [aY,List.sum_cons,F1 C]
theorem Il {α:Type} {L M:List α} (h1:L.Nodup) (h2:M.Nodup) (h:∀ x,x∈L↔x∈M):L.Perm M:=by
 induction L generalizing M with
 |nil=>
  cases M with
  |nil=>exact .nil
  |cons y M=>exact absurd ((h y).2 (ah ..)) (by simp)
 |cons x L ih=>
  obtain ⟨s,t,rfl⟩:=List.append_of_mem ((h x).1 (ah ..))
  refine List.Perm.trans (.cons x (ih (M:=s++t) (cV.1 h1).2 ?_ fun y=> ?_)) List.perm_middle.symm
  ·exact (cV.1 (List.perm_middle.nodup_iff.1 h2)).2
  ·have hx:=(cV.1 h1).1
   have hx2:=(cV.1 (List.perm_middle.nodup_iff.1 h2)).1
   have:=h y
   constructor
   ·intro hy
    have:=this.1 (ag _ hy)
    rcases ay.1 (List.perm_middle.mem_iff.1 this) with rfl|k
    ·exact absurd hy hx
    ·exact k
   ·intro hy
    have:=this.2 (List.perm_middle.mem_iff.2 (ag _ hy))
    rcases ay.1 this with rfl|k
    ·exact absurd hy hx2
    ·exact k
theorem Pm {α:Type} {L:List α} (nd:L.Nodup) (f:α→α) (hf:∀ x∈L,f x∈L) (h3:∀ x∈L,f (f (f x))=x):(L.map f).Perm L:=by
 refine Il ?_ nd fun x=> ?_
 ·unfold List.Nodup at nd ⊢
  rw [List.pairwise_map]
  refine List.Pairwise.imp_of_mem (fun {x y} hx hy hne e=>hne ?_) nd
  rw [←h3 x hx,←h3 y hy,e]
 ·rw [av]
  constructor
  ·rintro ⟨y,hy,rfl⟩;exact hf y hy
  ·intro hx;exact ⟨_,hf _ (hf _ hx),h3 x hx⟩
theorem JS {α:Type} (p q r:α→Bool):∀ L:List α,(∀ x∈L,(p x).toNat+(q x).toNat+(r x).toNat=1)→L.countP p+L.countP q+L.countP r=L.length
 |[],_=>rfl
 |x::L,h=>by
  have ih:=JS p q r L fun y hy=>h y (ag _ hy)
  have hx:=h x (ah ..)
  rw [List.countP_cons,List.countP_cons,List.countP_cons,aC]
  cases h1:p x<;>cases h2:q x<;>cases h3:r x<;>rw [h1,h2,h3] at hx<;>simp at hx ⊢<;>omega
theorem SL {α:Type} {L:List α} (nd:L.Nodup) (f:α→α) (hf:∀ x∈L,f x∈L) (h3:∀ x∈L,f (f (f x))=x) (p:α→Bool) (h1:∀ x∈L,(p x).toNat+(p (f x)).toNat+(p (f (f x))).toNat=1):3*L.countP p=L.length:=by
 have hp:=Pm nd f hf h3
 have e1:L.countP (fun x=>p (f x))=L.countP p:=by
  have:=hp.countP_eq p
  rw [List.countP_map] at this;exact this
 have e2:L.countP (fun x=>p (f (f x)))=L.countP (fun x=>p (f x)):=by
  have:=hp.countP_eq fun x=>p (f x)
  rw [List.countP_map] at this;exact this
 have:=JS p (fun x=>p (f x)) (fun x=>p (f (f x))) L h1
 omega
theorem Fm {α:Type} (p:α→Bool):∀ {L:List α},L.Nodup→(∀ x∈L,∀ y∈L,p x=true→p y=true→x=y)→L.countP p=(bp (∃ x∈L,p x=true)).toNat
 |[],_,_=>by
  have:bp (∃ x∈([]:List α),p x=true)=false:=jp.2 (by rintro ⟨x,hx,_⟩;cases hx)
  rw [this];rfl
 |x::L,nd,h=>by
  have ih:=Fm p (cV.1 nd).2 fun y hy z hz=>h y (ag _ hy) z (ag _ hz)
  rw [List.countP_cons,ih]
  cases hx:p x with
  |true=>
   have k1:bp (∃ y∈L,p y=true)=false:=jp.2 (by
    rintro ⟨y,hy,k⟩
    have:=h x (ah ..) y (ag _ hy) hx k
    exact (cV.1 nd).1 (by rw [this];exact hy))
   have k2:bp (∃ y∈x::L,p y=true)=true:=dD.2 ⟨x,ah ..,hx⟩
   rw [k1,k2];rfl
  |false=>
   have:bp (∃ y∈x::L,p y=true)=bp (∃ y∈L,p y=true):=by
    rw [Bool.eq_iff_iff,dD,dD]
    constructor
    ·rintro ⟨y,hy,k⟩
     rcases ay.1 hy with rfl|hy
     ·rw [hx] at k;cases k
     ·exact ⟨y,hy,k⟩
    ·rintro ⟨y,hy,k⟩;exact ⟨y,ag _ hy,k⟩
   rw [this];simp
theorem Hg {α:Type} (g:α→Pt) (p:α→Bool):∀ {C:List Pt} {L:List α},C.Nodup→(∀ x∈L,g x∈C)→L.countP p=(C.map fun v=>L.countP fun x=>bp (g x=v)&&p x).sum
 |C,[],_,_=>by
  simp only [List.countP_nil]
  exact (F1 C).symm
 |C,x::L,nd,h=>by
  have ih:=Hg g p (C:=C) (L:=L) nd fun y hy=>h y (ag _ hy)
  rw [List.countP_cons,ih]
  have hx:=h x (ah ..)
  clear ih h
  induction C with
  |nil=>cases hx
  |cons v C ih=>
   have nd':=cV.1 nd
   simp only [aY,List.sum_cons,List.countP_cons]
   rcases ay.1 hx with e|hx
   ·have z:(C.map fun v=>L.countP (fun x=>bp (g x=v)&&p x)+if (bp (g x=v)&&p x)=true then 1 else 0)=C.map fun v=>L.countP fun x=>bp (g x=v)&&p x:=by
     refine List.map_congr_left fun u hu=> ?_
     have:bp (g x=u)=false:=jp.2 fun k=>nd'.1 (by rw [←e,k];exact hu)
     rw [this];rfl
    have e1:bp (g x=v)=true:=dD.2 e
    have:=congrArg List.sum z
    rw [e1,Bool.true_and]
    omega
   ·have:=ih nd'.2 hx
    simp only [List.countP_cons] at this
    have e1:bp (g x=v)=false:=jp.2 fun k=>nd'.1 (by rw [←k];exact hx)
    rw [e1,Bool.false_and]
    have z:(if false=true then 1 else 0)=0:=rfl
    rw [z]
    omega
end Go.Av
