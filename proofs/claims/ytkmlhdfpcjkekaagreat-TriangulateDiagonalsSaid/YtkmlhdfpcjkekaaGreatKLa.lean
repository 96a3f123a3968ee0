/- Helping texts: La, Le, Lf, Ob. -/
import Derived.Test.YtkmlhdfpcjkekaaGreatKDv
import Derived.Test.YtkmlhdfpcjkekaaGreatKDa
import Derived.Test.YtkmlhdfpcjkekaaGreatKNa
import Derived.Test.YtkmlhdfpcjkekaaGreatKMm
set_option linter.unusedSimpArgs false
set_option linter.unusedVariables false
set_option maxRecDepth 100000
set_option maxHeartbeats 16000000
namespace Go.Av
open Go.RowKit
open Go.Proofs.Tryz (prog)
def FG (f:FuncId) (cap:List V) (n:Nat) (x:Nat→V) (p:Nat→Bool) (H:Hp):Prop:=
 ∀ i H' K,i<n→Ext H H'→(∀ H'',Ext H' H''→K (.prim (.bool (p i))) H'')→SC prog f (x i::cap) H' K
theorem Iz (l:List Pt) (f:FuncId) (cap:List V) (p:Nat→Bool) {H:Hp} {K:V→Hp→Prop} {b c:Nat} {fx:Bool} (hb:get H b=some (.row 6 true (l.map pc))) (hn:l.length<2^40)
 (hf:FG f cap l.length (fun i=>pV (l.getD i default)) p H) (hK:∀ H',Ext H H'→K (.prim (.int .i64 (oa l.length p))) H'):
 SC prog 128 [.sref b 0 l.length c 6 fx,.clo f [] cap] H K:=by
 refine SCi ?_
 conv in bL _ _=>cbv
 simp only [bM,RN,simprocAttr]
 simp (disch:=omega) only [↓RS,RZ,simprocAttr]
 refine eG (fun (i:Nat) J=>ov [(0,.sref b 0 l.length c 6 fx),(1,.clo f [] cap),(4,.prim (.int .i64 (0))),(6,.sref b 0 l.length c 6 fx),(7,.prim (.int .i64 ((l.length:Nat):Int))),(8,.prim (.int .i64 ((i:Nat):Int)))] J 0 19) (fun i H'=>(i≤l.length∧∀ j,j<i→p j=false)∧Ext H H') (fun i=>l.length-i) 0 rfl ⟨⟨bh _,fun j hj=>absurd hj (Nat.not_lt_zero j)⟩,Ext.refl⟩ ?_
 rintro i J H1 ⟨⟨hi,hp⟩,hE⟩
 try conv in ov _ _ _ _=>simp only [ov,List.lookup,RO,simprocAttr]
 rcases am i l.length with hlt|hge
 ·have g:(l.map pc)[i]? =some (pc (l.getD i default)):=by rw [aW,ae,af hlt];rfl
  have g1:=hE.get hb
  have hl:i<(l.map pc).length:=by rw [az];exact hlt
  simp (disch:=omega) only [↓RS,RZ,simprocAttr,g1,g,pc,aX]
  refine bI (hf i _ _ hlt hE ?_)
  intro H2 hE2
  have hE3:=hE.trans hE2
  cases hpi:p i with
  |true=>
   rw [lT hlt hpi hp] at hK
   simp (disch:=omega) only [↓RS,RZ,simprocAttr]
   exact hK _ hE3
  |false=>
   simp (disch:=omega) only [↓RS,RZ,simprocAttr]
   exact bl (i+1) rfl ⟨⟨hlt,fun j hj=>by
    rcases am j i with h|h
    ·exact hp j h
    ·rw [show j=i by omega];exact hpi⟩,hE3⟩ (by omega)
 ·have hia:i=l.length:=by omega
  subst hia
  rw [ki hp] at hK
  simp (disch:=omega) only [↓RS,RZ,simprocAttr]
  exact hK _ hE
theorem B9 (l:List Pt) (f:FuncId) (cap:List V) (p:Nat→Bool) {H:Hp} {K:V→Hp→Prop} {b c:Nat} {fx:Bool} (hb:get H b=some (.row 6 true (l.map pc))) (hn:l.length<2^40)
 (hf:FG f cap l.length (fun i=>pV (l.getD i default)) p H) (hK:∀ H',Ext H H'→K (.prim (.bool (jI l.length p))) H'):
 SC prog 60 [.sref b 0 l.length c 6 fx,.clo f [] cap] H K:=by
 unfold jI at hK
 rw [←kX] at hK
 refine SCi ?_
 conv in bL _ _=>cbv
 simp only [bM,RN,simprocAttr]
 simp (disch:=omega) only [↓RS,RZ,simprocAttr]
 refine bI (Iz l f cap p hb hn hf ?_)
 intro H' hE
 by_cases h:0≤oa l.length p
 ·rw [an h] at hK
  simp (disch:=omega) only [↓RS,RZ,simprocAttr]
  exact hK _ hE
 ·rw [ak h] at hK
  simp (disch:=omega) only [↓RS,RZ,simprocAttr]
  exact hK _ hE
def jJ (s t:Sg):Bool:=match iI s t with
 |some x=>decide (x.a=x.b)&& !jI 4 fun i=>decide (([s.a,s.b,t.a,t.b].getD i default)=x.a)
 |none=>false
theorem OQ {s t x:Sg} (h1:hs s≤2^20) (h2:hs t≤2^20) (h:iI s t=some x):hs x≤2^30:=by
 unfold iI at h
 split at h
 ·unfold qB at h
  have a1:=E4 s;have a2:=E4 t;have a3:=vr t.a s.a;have a4:=sO s;have a5:=sO t;have a6:=tK s;have a7:=tK t
  have a8:=ob s.dir t.dir
  have a9:=ob (t.a.sub s.a) t.dir
  have a12:=xF (cross (t.a.sub s.a) t.dir) (cross s.dir t.dir)
  have a13:=RV s.a s.b (cross (t.a.sub s.a) t.dir/cross s.dir t.dir)
  have b1:=tJ s;have b2:=tJ t
  have b3:=sO s.order;have b4:=tK s.order;have b5:=sO t.order;have b6:=tK t.order
  have b7:=AM s.order.a t.order.a
  have b8:=DM s.order.b t.order.b
  split at h
  ·split at h
   ·simp only [bu] at h
    subst h
    exact wz (by omega) (by omega)
   ·cases h
  ·split at h
   ·cases h
   ·split at h
    ·cases h
    ·simp only [bu] at h
     subst h
     exact wz (by omega) (by omega)
 ·cases h
theorem L8 (p:Pt) (x:Sg) (h1:hp p≤2^32) (h2:hs x≤2^32) {b:Nat} {H:Hp} {K:V→Hp→Prop} (hb:get H b=some (.row 12 true [sgc x])) (hK:∀ H',Ext H H'→K (.prim (.bool (decide (p=x.a)))) H'):
 SC prog 59 [pV p,.ptr b 0 0] H K:=by
 have c:=kT p x.a h1 (bi (sO x) h2)
 have w1:∀ y,get (H++[y]) b=some (.row 12 true [sgc x]):=fun y=>aO hb
 refine SCi ?_
 conv in bL _ _=>cbv
 simp only [bM,RN,simprocAttr]
 simp (disch:=omega) only [↓RS,RZ,simprocAttr,pV,ptV,hb,w1,sgc]
 refine cX c ?_
 have e:decide (bO p x.a=0)=decide (p=x.a):=by
  by_cases h:p=x.a
  ·rw [an h,an (c7.2 h)]
  ·rw [ak h,ak (fun k=>h (c7.1 k))]
 cases hd:decide (p=x.a) with
 |true=>
  have:=of_decide_eq_true (e.trans hd)
  rw [hd] at hK
  simp (disch:=omega) only [↓RS,RZ,simprocAttr]
  exact hK _ (Ext.app _)
 |false=>
  have:=of_decide_eq_false (e.trans hd)
  rw [hd] at hK
  simp (disch:=omega) only [↓RS,RZ,simprocAttr]
  exact hK _ (Ext.app _)
theorem xS (s t:Sg) (h1:hs s≤2^20) (h2:hs t≤2^20):PC prog 15 [sgV s,sgV t] (.prim (.bool (jJ s t))):=by
 have w:=CR s t h1 h2
 have m:=F8 s t h1 h2
 have hx:= @OQ s t
 have hC:jJ s t=match iI s t with
  |some x=>decide (x.a=x.b)&& !jI 4 fun i=>decide (([s.a,s.b,t.a,t.b].getD i default)=x.a)
  |none=>false:=rfl
 unfold iI at hx hC
 refine PCi ?_
 conv in bL _ _=>cbv
 simp only [bM,RN,simprocAttr]
 by_cases hok:s.ok∧t.ok
 ·have e:(!(decide s.ok&&decide t.ok))=false:=by simp [hok.1,hok.2]
  rw [e] at w
  rw [if_pos hok] at hx hC
  generalize qB s t=o at*
  simp (disch:=omega) only [↓RS,RZ,simprocAttr,sgV,s4V]
  refine cX w ?_
  simp (disch:=omega) only [↓RS,RZ,simprocAttr,sgV,s4V]
  refine cX m ?_
  cases o with
  |none=>
   rw [hC]
   simp (disch:=omega) only [↓RS,RZ,simprocAttr,Ii,sgV,s4V,Option.isSome,Option.getD]
  |some x=>
   have hx:=hx h1 h2 rfl
   simp only at hC
   by_cases e1:x.a=x.b
   ·have d1:decide (x.a=x.b)=true:=an e1
    rw [d1,Bool.true_and] at hC
    rw [hC]
    have d2:decide (x.a=x.b)=true:=an e1
    simp (disch:=omega) only [↓RS,RZ,simprocAttr,Ii,sgV,s4V,Option.isSome,Option.getD,DU,d2]
    refine bI (B9 [s.a,s.b,t.a,t.b] 59 [.ptr 2 0 0] (fun i=>decide (([s.a,s.b,t.a,t.b].getD i default)=x.a)) rfl (by simp only [aC,aI];omega) ?_ ?_)
    ·intro i H' K hi hE hK
     refine L8 _ x ?_ (bi hx (by omega)) (hE.get rfl) hK
     have q1:=sO s;have q2:=tK s;have q3:=sO t;have q4:=tK t
     match i,hi with
     |0,_=>show hp s.a≤_;omega
     |1,_=>show hp s.b≤_;omega
     |2,_=>show hp t.a≤_;omega
     |3,_=>show hp t.b≤_;omega
    ·intro H' hE
     show _
     generalize jI [s.a,s.b,t.a,t.b].length (fun i=>decide (([s.a,s.b,t.a,t.b].getD i default)=x.a))=r
     cases r with
     |true=>simp (disch:=omega) only [↓RS,RZ,simprocAttr]
     |false=>simp (disch:=omega) only [↓RS,RZ,simprocAttr]
   ·have d1:decide (x.a=x.b)=false:=ak e1
    rw [d1,Bool.false_and] at hC
    rw [hC]
    simp (disch:=omega) only [↓RS,RZ,simprocAttr,Ii,sgV,s4V,Option.isSome,Option.getD,DU,d1]
 ·have e:(!(decide s.ok&&decide t.ok))=true:=by
   by_cases k1:s.ok
   ·have k2:¬t.ok:=fun h=>hok ⟨k1,h⟩
    simp [k1,k2]
   ·simp [k1]
  rw [e] at w
  rw [if_neg hok] at hC
  rw [hC]
  simp (disch:=omega) only [↓RS,RZ,simprocAttr,sgV,s4V]
  refine cX w ?_
  simp (disch:=omega) only [↓RS,RZ,simprocAttr]
end Go.Av
namespace Go.Av
open Go.RowKit
open Go.Proofs.Tryz (prog)
theorem kP.appendW {H:Hp} {P:Program} {K:V→Hp→Prop} {n0:Nat} {v:V} {ei:TyI} {es ys:List (List V)} (h:kP n0 H v ei.sz es) (hy:∀ y∈ys,∀ v∈y,ku v=true) (h1:(es.length+ys.length)*ei.bytes≤2^47) (h2:es.length+ys.length≤2^60)
 (hK:∀ v' H',kP n0 H' v' ei.sz (es++ys)→(∀ b k,(b<n0∨∀ es,k≠ .row ei.sz true es)→get H b=some k→get H' b=some k)→H.length≤H'.length→K v' H'):nP P H ei v ys K:=by
 have hN:=h.1
 refine ⟨hy,?_⟩
 rcases h.2 with ⟨rfl,rfl⟩|⟨b,hb,rfl,hg⟩
 ·simp only [aI,aX] at h1 h2
  refine ⟨fun e=>hK _ _ (by subst e;exact ⟨hN,.inl ⟨rfl,rfl⟩⟩) (fun _ _ _ h=>h) (ax _),fun _=>⟨h1,h2,hK _ _ ⟨by rw [aK];omega,.inr ⟨H.length,hN,by simp,by rw [bo];simp⟩⟩ (fun _ _ _ h=>aO h) (by rw [aK];omega)⟩⟩
 ·simp only [hg]
  refine ⟨trivial,by omega,?_⟩
  rcases Nat.eq_zero_or_pos ys.length with h0|h0
  ·left
   have:ys=[]:=List.length_eq_zero_iff.1 h0
   subst this
   refine ⟨by simp,by simp,trivial,?_⟩
   have e:kG es (0+es.length) []=es:=by simp [kG]
   rw [e,CZ hg]
   exact hK _ _ ⟨hN,.inr ⟨b,hb,by simp,by simpa using hg⟩⟩ (fun _ _ _ h=>h) (ax _)
  ·right;right
   have hl:(H.set b none).length=H.length:=by simp
   refine ⟨by simp,by simp,h1,h2,hK _ _ ⟨by rw [aK,hl];omega,.inr ⟨H.length,hN,by simp,?_⟩⟩ ?_ (by rw [aK,hl];omega)⟩
   ·rw [←hl,bo];simp
   ·intro c k hc hg'
    refine aO ?_
    rw [mF];exact hg'
    rintro rfl
    rcases hc with hc|hc
    ·omega
    ·rw [hg] at hg';cases hg';exact hc _ rfl
theorem SY {P:Program} {f:FuncId} {vs:List V} {r r':V} (hv:∀ I w x,VR (fun _=>none) I w r x→VR (fun _=>none) I w r' x) (h:PC P f vs r):PC P f vs r':=fun I w xs hI hxs=>
 ⟨(h I w xs hI hxs).1,(h I w xs hI hxs).2.mono fun _ _ ⟨x,h1,h2,h3⟩=>⟨x,h1,hv _ _ _ h2,h3⟩⟩
theorem SZ {P:Program} {f:FuncId} {vs:List V} {sz:Nat} (h:PC P f vs (.prim (.slice none 0 0))):PC P f vs (.lst sz []):=SY (fun I w x h=>by
 have:=h.prim_inv.1;subst this;exact .lnil) h
theorem Qa {l:List Sg} {i:Nat} (h:i<l.length):(l.map sgc)[i]? =some (sgc (l.getD i sg0)):=by
 rw [aW,ae,af h];rfl
theorem LQ (l:List Sg) (f:FuncId) (cap:List V) (p:Nat→Bool) {H:Hp} {K:V→Hp→Prop} {n0:Nat} {v:V} (hv:kP n0 H v 12 (l.map sgc)) (hn:l.length<2^40)
 (hf:FG f cap l.length (fun i=>sgV (l.getD i sg0)) p H) (hK:∀ H',Ext H H'→K (.prim (.int .i64 (oa l.length p))) H'):
 SC prog 70 [v,.clo f [] cap] H K:=by
 rcases hv.2 with ⟨h0,rfl⟩|⟨b,hb,rfl,hg⟩
 ·have h0:l=[]:=List.map_eq_nil_iff.1 h0
  subst h0
  have hk:=hK H Ext.refl
  rw [show oa ([]:List Sg).length p= -1 from ki (fun j hj=>absurd hj (Nat.not_lt_zero j))] at hk
  refine SCi ?_
  conv in bL _ _=>cbv
  simp only [bM,RN,simprocAttr]
  simp (disch:=omega) only [↓RS,RZ,simprocAttr]
  refine pD 1 ?_
  simp (disch:=omega) only [↓RS,RZ,simprocAttr,mJ,j5,lK,mK]
  exact hk
 ·have hlen:(l.map sgc).length=l.length:=az ..
  rw [hlen]
  refine SCi ?_
  conv in bL _ _=>cbv
  simp only [bM,RN,simprocAttr]
  simp (disch:=omega) only [↓RS,RZ,simprocAttr]
  refine eG (fun (i:Nat) J=>ov [(0,.sref b 0 l.length l.length 12 false),(1,.clo f [] cap),(4,.prim (.int .i64 (0))),(6,.sref b 0 l.length l.length 12 false),(7,.prim (.int .i64 ((l.length:Nat):Int))),(8,.prim (.int .i64 ((i:Nat):Int)))] J 0 19) (fun i H'=>(i≤l.length∧∀ j,j<i→p j=false)∧Ext H H') (fun i=>l.length-i) 0 rfl ⟨⟨bh _,fun j hj=>absurd hj (Nat.not_lt_zero j)⟩,Ext.refl⟩ ?_
  rintro i J H1 ⟨⟨hi,hp⟩,hE⟩
  try conv in ov _ _ _ _=>simp only [ov,List.lookup,RO,simprocAttr]
  rcases am i l.length with hlt|hge
  ·have g:=Qa hlt
   have g1:=hE.get hg
   simp (disch:=omega) only [↓RS,RZ,simprocAttr,g1,g,sgc,aX]
   refine bI (hf i _ _ hlt hE ?_)
   intro H2 hE2
   have hE3:=hE.trans hE2
   cases hpi:p i with
   |true=>
    rw [lT hlt hpi hp] at hK
    simp (disch:=omega) only [↓RS,RZ,simprocAttr]
    exact hK _ hE3
   |false=>
    simp (disch:=omega) only [↓RS,RZ,simprocAttr]
    exact bl (i+1) rfl ⟨⟨hlt,fun j hj=>by
     rcases am j i with h|h
     ·exact hp j h
     ·rw [show j=i by omega];exact hpi⟩,hE3⟩ (by omega)
  ·have hia:i=l.length:=by omega
   subst hia
   rw [ki hp] at hK
   simp (disch:=omega) only [↓RS,RZ,simprocAttr]
   exact hK _ hE
theorem Fp (l:List Sg) (f:FuncId) (cap:List V) (p:Nat→Bool) {H:Hp} {K:V→Hp→Prop} {n0:Nat} {v:V} (hv:kP n0 H v 12 (l.map sgc)) (hn:l.length<2^40)
 (hf:FG f cap l.length (fun i=>sgV (l.getD i sg0)) p H) (hK:∀ H',Ext H H'→K (.prim (.bool (jI l.length p))) H'):
 SC prog 19 [v,.clo f [] cap] H K:=by
 unfold jI at hK
 rw [←kX] at hK
 refine SCi ?_
 conv in bL _ _=>cbv
 simp only [bM,RN,simprocAttr]
 simp (disch:=omega) only [↓RS,RZ,simprocAttr]
 refine bI (LQ l f cap p hv hn hf ?_)
 intro H' hE
 by_cases h:0≤oa l.length p
 ·rw [an h] at hK
  simp (disch:=omega) only [↓RS,RZ,simprocAttr]
  exact hK _ hE
 ·rw [ak h] at hK
  simp (disch:=omega) only [↓RS,RZ,simprocAttr]
  exact hK _ hE
theorem L6 (s t:Sg) (h1:hs s≤2^20) (h2:hs t≤2^20) {b:Nat} {H:Hp} {K:V→Hp→Prop} (hb:get H b=some (.row 12 true [sgc s])) (hK:∀ H',Ext H H'→K (.prim (.bool (jJ s t))) H'):
 SC prog 115 [sgV t,.ptr b 0 0] H K:=by
 have c:=xS s t h1 h2
 have w1:∀ x,get (H++[x]) b=some (.row 12 true [sgc s]):=fun x=>aO hb
 have k:=hK _ (Ext.app [some (.row 12 true [sgc t])])
 refine SCi ?_
 conv in bL _ _=>cbv
 simp only [bM,RN,simprocAttr]
 simp (disch:=omega) only [↓RS,RZ,simprocAttr,sgV,s4V,w1,sgc]
 refine cX c ?_
 simp (disch:=omega) only [↓RS,RZ,simprocAttr]
 exact k
def nK (D:Sg→Bool×Int) (out:List Sg) (s:Sg):List Sg:=
 if (D s).2=0∧(D s).1=true∧(jI out.length fun j=>jJ s (out.getD j sg0))=false then out++[s] else out
def prS (l:List Pt) (x:Nat×Nat):Sg:=⟨l.getD x.1 default,l.getD x.2 default⟩
def jL (D:Sg→Bool×Int) (l:List Pt) (m:List (Nat×Nat)):List Sg:=m.foldl (fun out x=>nK D out (prS l x)) []
theorem Fk (D:Sg→Bool×Int) (l:List Pt) (m:List (Nat×Nat)) (x:Nat×Nat):jL D l (m++[x])=nK D (jL D l m) (prS l x):=by
 unfold jL;rw [List.foldl_append];rfl
theorem ID {l:List Pt} {k:Nat} (h:hl l k) {i j:Nat} (hi:i<l.length) (hj:j<l.length):hs (prS l (i,j))≤k:=
 wz (xH h i hi) (xH h j hj)
end Go.Av
namespace Go.Av
open Go.RowKit
open Go.Proofs.Tryz (prog)
theorem HE (D:Sg→Bool×Int) (out:List Sg) (s:Sg):(nK D out s).length≤out.length+1:=by
 unfold nK;split<;>simp
theorem tV (D:Sg→Bool×Int) (l:List Pt):∀ m,(jL D l m).length≤m.length:=by
 intro m
 have:∀ (m:List (Nat×Nat)) (out:List Sg),(m.foldl (fun out x=>nK D out (prS l x)) out).length≤out.length+m.length:=by
  intro m
  induction m with
  |nil=>intro out;simp
  |cons x m ih=>intro out;have:=ih (nK D out (prS l x));have:=HE D out (prS l x);simp only [List.foldl_cons,aC];omega
 have:=this m []
 simpa [jL] using this
def lsV (l:List Sg):V:=if l=[] then .prim (.slice none 0 0) else ssV l
theorem Fl (L:List Pt) (Hs:List (List Pt)) (l:List Pt) (G:Sg→Bool×Int) (hD:∀ s,hs s≤2^16→PC prog 17 [cgV L Hs,sgV s] (.tup [.prim (.bool (G s).1),.prim (.int .i64 ((G s).2))]))
 (hl0:hl l (2^16)) (hn:l.length≤12):PC prog 53 [cgV L Hs,psV l] (lsV (jL G l (fL l.length l.length))):=by
 refine PCi ?_
 conv in bL _ _=>cbv
 simp only [bM,RN,simprocAttr]
 simp (disch:=omega) only [↓RS,RZ,simprocAttr,cgV,psV]
 refine bI (Gp l ?_)
 simp (disch:=omega) only [↓RS,RZ,simprocAttr,psV]
 refine vI rE (n:=3) (k:=1) rfl rfl rfl (by kernel_rfl) ?_
 conv in lcC _=>cbv
 conv in lcC _=>cbv
 intro R B D hR hyc
 simp only [List.nil_append,List.cons_append] at hyc ⊢
 refine C5 l (by omega) (fun m H=>∃ v,get H 0=some (.row 2 true [[psV L,.lst 1 ((Hs.map psV).map fun v=>[v])]])∧get H 1=some (.row 1 true [[v]])∧get H 2=some (.row 1 true [[psV l]])∧get H 3=some R∧kP 4 H v 12 ((jL G l m).map sgc)∧(jL G l m=[]→v= .prim (.slice none 0 0))∧∀ t∈jL G l m,hs t≤2^16) ?_ ?_ ?_ ?_ ?_
 ·rintro m H ⟨v,i0,i1,i2,i3,i4,_⟩
  exact ⟨i2,bF i2⟩
 ·rintro m H k ⟨v,i0,i1,i2,i3,i4,i5⟩
  exact ⟨v,aO i0,aO i1,aO i2,aO i3,i4.app _,i5⟩
 ·rintro m i k H c hik hk hm ⟨v,i0,i1,i2,i3,i4,i6,i5⟩ hbc hc
  have hs1:hs (prS l (i,k))≤2^16:=ID hl0 (by omega) hk
  have dg:=hD _ hs1
  have hml:=tV G l m
  have hm2:m.length≤144:=bi hm (Nat.mul_le_mul hn hn)
  have hsn:jL G l (m++[(i,k)])=nK G (jL G l m) (prS l (i,k)):=Fk G l m (i,k)
  rw [hsn]
  have hadd:nK G (jL G l m) (prS l (i,k))=if (G (prS l (i,k))).2=0∧(G (prS l (i,k))).1=true∧(jI (jL G l m).length fun j=>jJ (prS l (i,k)) ((jL G l m).getD j sg0))=false then jL G l m++[prS l (i,k)] else jL G l m:=rfl
  have hc4:3<c:=by
   rcases am 3 c with h|h
   ·exact h
   ·have:c=3:=by omega
    subst this;rw [i3] at hc;cases hc;exact absurd rfl (hR _ _ _)
  have hpr:sgV ⟨l.getD i default,l.getD k default⟩=sgV (prS l (i,k)):=rfl
  rw [hpr]
  generalize prS l (i,k)=s at*
  generalize hdm:jL G l m=dl at*
  refine hyc _ _ _ rfl i3 ?_
  clear hyc
  have hN:=bF i3
  have hcl:=bF hc
  simp (disch:=omega) only [↓RS,RZ,simprocAttr,kR,lR,sgV,s4V,aZ]
  rw [lV]
  refine ⟨aO i3,?_⟩
  obtain ⟨H1,e,f,k2,k3,k4⟩:=Gy (H:=H) (b:=3) (x:=some (.row 12 true [sgc s])) (z:=some B) hN
  have q0:get H1 0=some (.row 2 true [[psV L,.lst 1 ((Hs.map psV).map fun v=>[v])]]):=by rw [f 0 (by omega) (by omega)];exact i0
  have q1:get H1 1=some (.row 1 true [[v]]):=by rw [f 1 (by omega) (by omega)];exact i1
  have q2:get H1 2=some (.row 1 true [[psV l]]):=by rw [f 2 (by omega) (by omega)];exact i2
  have qc:get H1 c=some (.row 6 true [pc (l.getD i default)]):=by rw [f c hcl (by omega)];exact hc
  have q4:kP 4 H1 v 12 (dl.map sgc):=by rw [←e];exact (i4.app _).set (by omega)
  have k3':get H1 H.length=some (.row 12 true [sgc s]):=k3
  simp only [sgc] at e k3
  rw [e]
  have skip:∀ T H2,Ext H1 H2→nK G dl s=dl→rdQ 3 R B D (yQ (fun H'=>(∃ v,get H' 0=some (.row 2 true [[psV L,.lst 1 ((Hs.map psV).map fun v=>[v])]])∧get H' 1=some (.row 1 true [[v]])∧get H' 2=some (.row 1 true [[psV l]])∧get H' 3=some R∧kP 4 H' v 12 ((nK G dl s).map sgc)∧(nK G dl s=[]→v= .prim (.slice none 0 0))∧∀ t∈nK G dl s,hs t≤2^16)∧get H' c=some (.row 6 true [pc (l.getD i default)])) fun _=>False) .normal T H2:=by
   intro T H2 hE he
   rw [k6,he]
   have:=hE.len
   refine ⟨hE.get k2,.inl ⟨rfl,⟨v,?_,?_,?_,?_,?_,i6,i5⟩,?_⟩⟩
   ·rw [bd (by omega)];exact hE.get q0
   ·rw [bd (by omega)];exact hE.get q1
   ·rw [bd (by omega)];exact hE.get q2
   ·rw [dF (by omega)]
   ·exact (hE.buf q4).set (by omega)
   ·rw [bd (by omega)];exact hE.get qc
  by_cases he:(G s).2=0
  ·cases hp:(G s).1 with
   |false=>
    rw [hp] at dg
    simp (disch:=omega) only [↓RS,RZ,simprocAttr,q0,k3,psV]
    refine cX dg ?_
    simp (disch:=omega) only [↓RS,RZ,simprocAttr]
    exact skip _ _ Ext.refl (by rw [hadd,if_neg (fun h=>by rw [hp] at h;exact absurd h.2.1 (by decide))])
   |true=>
    rw [hp] at dg
    simp (disch:=omega) only [↓RS,RZ,simprocAttr,q0,k3,psV]
    refine cX dg ?_
    simp (disch:=omega) only [↓RS,RZ,simprocAttr,q1]
    refine bI (Fp dl _ [.ptr H.length 0 0] (fun j=>jJ s (dl.getD j sg0)) q4 (by omega) ?_ ?_)
    ·intro j H' K hj hE hK
     refine L6 s (dl.getD j sg0) (by omega) ?_ (hE.get k3') hK
     rw [ae,af hj]
     exact bi (i5 _ (bx hj)) (by omega)
    ·intro H2 hE
     cases hany:jI dl.length fun j=>jJ s (dl.getD j sg0) with
     |true=>
      simp (disch:=omega) only [↓RS,RZ,simprocAttr]
      exact skip _ _ hE (by rw [hadd,if_neg (fun h=>by rw [hany] at h;exact absurd h.2.2 (by decide))])
     |false=>
      have hyes:nK G dl s=dl++[s]:=by rw [hadd,if_pos ⟨he,hp,hany⟩]
      have p1:=hE.get q1
      have p3:=hE.get k3
      have hl2:=hE.len
      simp (disch:=omega) only [↓RS,RZ,simprocAttr,p1,p3]
      refine kP.appendW ((hE.buf q4).app _) (by simp [ku]) (by simp only [aC,aI,az];omega) (by simp only [aC,aI,az];omega) ?_
      intro v' H3 hb hk2 hlen3
      rw [aK] at hlen3
      have r0:=hk2 0 _ (.inl (by omega)) (aO (hE.get q0))
      have r1:=hk2 1 _ (.inl (by omega)) (aO p1)
      have r2:=hk2 2 _ (.inl (by omega)) (aO (hE.get q2))
      have r3:=hk2 3 _ (.inl (by omega)) (aO (hE.get k2))
      have rc:=hk2 c _ (.inr fun es h=>by cases h) (aO (hE.get qc))
      have c1:=hb.one
      have c2:=hb.cel
      simp (disch:=omega) only [↓RS,RZ,simprocAttr,r1,c1,c2]
      rw [k6]
      rw [hyes]
      refine ⟨by rw [bd (by omega)];exact r3,.inl ⟨rfl,⟨v',?_,?_,?_,?_,?_,fun h=>by simp at h,?_⟩,?_⟩⟩
      ·rw [bd (by omega),bd (by omega)];exact r0
      ·rw [bd (by omega),dF (by omega)]
      ·rw [bd (by omega),bd (by omega)];exact r2
      ·rw [dF (by rw [cO];omega)]
      ·rw [bz]
       exact (hb.set (by omega)).set (by omega)
      ·intro t ht
       rcases aF.1 ht with ht|ht
       ·exact i5 t ht
       ·rw [bH.1 ht];exact hs1
      ·rw [bd (by omega),bd (by omega)];exact rc
  ·simp (disch:=omega) only [↓RS,RZ,simprocAttr,q0,k3,psV]
   refine cX dg ?_
   simp (disch:=omega) only [↓RS,RZ,simprocAttr]
   exact skip _ _ Ext.refl (by rw [hadd,if_neg (fun h=>he h.1)])
 ·exact ⟨_,rfl,rfl,rfl,rfl,.nil (by simp),fun _=>rfl,fun t ht=>by simp [jL] at ht⟩
 ·rintro v H ⟨u,h0,h1,h2,h3,h4,h6,h5⟩
  refine .inl ⟨h3,?_⟩
  have e0:get (H.set 3 none) 1=some (.row 1 true [[u]]):=by rw [bd (by omega)];exact h1
  generalize jL G l (fL l.length l.length)=dl at*
  by_cases hz:dl=[]
  ·subst hz
   have hu:=h6 rfl
   subst hu
   rw [lsV,if_pos rfl]
   simp (disch:=omega) only [↓RS,RZ,simprocAttr,e0]
  ·rw [lsV,if_neg hz]
   obtain ⟨b,hb,rfl,hg⟩:=h4.cases (by simpa using hz)
   have e1:get (H.set 3 none) b=some (.row 12 true (dl.map sgc)):=by rw [bd (by omega)];exact hg
   have hvl:= @kB (H.set 3 none) 7 _ (uw dl)
   have hlen:(dl.map sgc).length=dl.length:=az ..
   have htk:(dl.map sgc).take dl.length=dl.map sgc:=by rw [List.take_of_length_le (by omega)]
   simp (disch:=omega) only [↓RS,RZ,simprocAttr,e0,hlen]
   rw [e1]
   simp only [hlen,ax,if_true,htk]
   rw [hvl]
   rfl
end Go.Av
namespace Go.Av
theorem IR {L:List Pt} (h:mj L) {e f:Sg} (he:e∈aU L) (hf:f∈aU L) {q:Pt} (q1:aJ e.a e.b q) (q2:aJ f.a f.b q):e=f∨(q=e.a∨q=e.b)∧(q=f.a∨q=f.b):=by
 obtain ⟨i,hi,rfl⟩:=av.1 he
 obtain ⟨k,hk,rfl⟩:=av.1 hf
 have hi:=dz.1 hi
 have hk:=dz.1 hk
 rw [kU hi] at q1
 rw [kU hk] at q2
 have ei:=kU hi
 have ek:=kU hk
 by_cases h0:i=k
 ·subst h0;exact .inl rfl
 right
 rw [ei,ek]
 simp only at q1 q2 ⊢
 have hlo:=h.lo
 by_cases h1:sc L.length i=k
 ·subst h1
  have fl:=h.fl i hi
  obtain ⟨m,_,_,rfl⟩:=q1
  obtain ⟨t,_,_,e⟩:=q2
  have e1:ar (L.getD i default) (L.getD (sc L.length i) default) (pt (L.getD i default) (L.getD (sc L.length i) default) m)=0:=by unfold ar pt;simp only;grind
  rw [e,wd] at e1
  rcases br.1 e1 with e2|e2
  ·have:pt (L.getD i default) (L.getD (sc L.length i) default) m=L.getD (sc L.length i) default:=by rw [e,e2];refine Pt.ext ?_ ?_<;>(unfold pt;simp only;grind)
   exact ⟨.inr this,.inl this⟩
  ·exact absurd e2 fl
 ·by_cases h2:sc L.length k=i
  ·subst h2
   have fl:=h.fl k hk
   obtain ⟨m,_,_,rfl⟩:=q1
   obtain ⟨t,_,_,e⟩:=q2
   have e1:ar (L.getD k default) (L.getD (sc L.length k) default) (pt (L.getD k default) (L.getD (sc L.length k) default) t)=0:=by unfold ar pt;simp only;grind
   rw [←e,wd] at e1
   rcases br.1 e1 with e2|e2
   ·have:pt (L.getD (sc L.length k) default) (L.getD (sc L.length (sc L.length k)) default) m=L.getD (sc L.length k) default:=by rw [e2];refine Pt.ext ?_ ?_<;>(unfold pt;simp only;grind)
    exact ⟨.inl this,.inr this⟩
   ·exact absurd e2 fl
  ·exact absurd ⟨q,q1,q2⟩ (h.cr i k hi hk h0 h1 h2)
variable {L:List Pt} {Hs:List (List Pt)}
def dE (L:List Pt) (Hs:List (List Pt)):List Pt:=bP (L::Hs) (Hs.length+1)
def kr (L:List Pt) (Hs:List (List Pt)):List Sg:=eN (L::Hs) (Hs.length+1)
theorem nI {s:Sg} (h:s∈kr L Hs):∃ l∈L::Hs,s∈aU l:=yy (by simp) h
theorem kY {s:Sg} {l:List Pt} (hl:l∈L::Hs) (h:s∈aU l):s∈kr L Hs:=by
 obtain ⟨i,hi,rfl⟩:=bK.1 hl
 obtain ⟨j,hj,rfl⟩:=av.1 h
 have e:(L::Hs).getD i []=(L::Hs)[i]:=by rw [ae,af hi];rfl
 have:=xu (Ls:=L::Hs) (i:=i) (j:=j) (by rw [e];exact dz.1 hj) (n:=Hs.length+1) (by simpa using hi)
 rw [e] at this
 exact this
theorem uH {c:Pt} (h:c∈dE L Hs):∃ t∈kr L Hs,t.a=c:=by
 unfold dE at h
 rw [←pX] at h
 exact av.1 h
theorem QS {s:Sg} (h:s∈kr L Hs):s.a∈dE L Hs:=by
 unfold dE;rw [←pX];exact av.2 ⟨s,h,rfl⟩
theorem QR {s:Sg} (h:s∈kr L Hs):s.b∈dE L Hs:=(xM (L::Hs) (Hs.length+1)).mem_iff.1 (av.2 ⟨s,h,rfl⟩)
theorem CO (h:da L Hs) {l m:List Pt} (hl:l∈L::Hs) (hm:m∈L::Hs):l=m∨jC l m:=by
 have inH:∀ {l m:List Pt},l∈Hs→m∈Hs→l=m∨jC l m:=by
  intro l m hl hm
  obtain ⟨i,hi,rfl⟩:=bK.1 hl
  obtain ⟨j,hj,rfl⟩:=bK.1 hm
  rcases Nat.lt_trichotomy i j with k|k|k
  ·exact .inr (bN.1 h.pw i j hi hj k).nm
  ·subst k;exact .inl rfl
  ·exact .inr (bN.1 h.pw j i hj hi k).nm.symm
 rcases ay.1 hl with e1|e1<;>rcases ay.1 hm with e2|e2
 ·exact .inl (e1.trans e2.symm)
 ·rw [e1];exact .inr (h.mo _ e2).symm
 ·rw [e2];exact .inr (h.mo _ e1)
 ·exact inH e1 e2
theorem o8 (h:da L Hs) {e f:Sg} (he:e∈kr L Hs) (hf:f∈kr L Hs) {q:Pt} (q1:aJ e.a e.b q) (q2:aJ f.a f.b q):e=f∨(q=e.a∨q=e.b)∧(q=f.a∨q=f.b):=by
 obtain ⟨l,hl,he⟩:=nI he
 obtain ⟨m,hm,hf⟩:=nI hf
 rcases CO h hl hm with rfl|nm
 ·exact IR (oT h hl).good he hf q1 q2
 ·exact absurd ⟨q,q1,q2⟩ (nm e he f hf)
theorem uG (h:da L Hs) {e:Sg} (he:e∈kr L Hs):e.a≠e.b:=by
 obtain ⟨l,hl,he⟩:=nI he
 exact (oT h hl).good.seg_ne e he
theorem Fj (h:da L Hs) {e:Sg} (he:e∈kr L Hs) {c:Pt} (hc:c∈dE L Hs) (q:aJ e.a e.b c):c=e.a∨c=e.b:=by
 obtain ⟨t,ht,rfl⟩:=uH hc
 rcases o8 h he ht q (j8 _ _) with rfl|k
 ·exact .inl rfl
 ·exact k.1
theorem kK {s:Sg} (h:kN L Hs s=(true,0)):s.ok∧s.a∈dE L Hs∧s.b∈dE L Hs∧pe (kr L Hs) s=false∧0<gE L Hs (s.a.at s.b (1/2)):=by
 unfold kN at h
 split at h
 ·cases h
 ·rename_i hz
  split at h
  ·rename_i hc
   simp only [Prod.mk.injEq,Bool.and_eq_true,Bool.not_eq_true',aE,and_true] at h
   exact ⟨hz,hc.1,hc.2,h.1,h.2⟩
  ·cases h
theorem Ay {s:Sg}:s.ok↔s.a≠s.b:=⟨fun h e=>h (c7.2 e),fun h e=>h (c7.1 e)⟩
theorem qZ (h:da L Hs) {s e:Sg} (hs:kN L Hs s=(true,0)) (he:e∈kr L Hs) {P:Pt} (h1:aJ s.a s.b P) (h2:aJ e.a e.b P):P=s.a∨P=s.b:=by
 obtain ⟨ho,_,_,hb,_⟩:=kK hs
 obtain ⟨m,m0,m1,rfl⟩:=h1
 by_cases k0:m=0
 ·left;subst k0;refine Pt.ext ?_ ?_<;>(unfold pt;simp only;grind)
 by_cases k1:m=1
 ·right;subst k1;refine Pt.ext ?_ ?_<;>(unfold pt;simp only;grind)
 exact absurd h2 (vC ho (Ay.2 (uG h he)) (yW hb he) (by grind) (by grind))
theorem sD (h:da L Hs) {s:Sg} (hs:kN L Hs s=(true,0)) {c:Pt} (hc:c∈dE L Hs) (q:aJ s.a s.b c):c=s.a∨c=s.b:=by
 obtain ⟨t,ht,rfl⟩:=uH hc
 exact qZ h hs ht q (j8 _ _)
theorem Gl (u v:Pt):pt u v 0=u:=Pt.ext (by unfold pt;simp only;grind) (by unfold pt;simp only;grind)
theorem Ic (u v:Pt):pt u v 1=v:=Pt.ext (by unfold pt;simp only;grind) (by unfold pt;simp only;grind)
theorem te {u v:Pt} (hne:u≠v) {m n:Rat} (h:pt u v m=pt u v n):m=n:=by
 have h1:(m-n)*(v.x-u.x)=0:=by have:=congrArg Pt.x h;unfold pt at this;simp only at this;grind
 have h2:(m-n)*(v.y-u.y)=0:=by have:=congrArg Pt.y h;unfold pt at this;simp only at this;grind
 rcases br.1 h1 with k|k
 ·grind
 ·rcases br.1 h2 with k'|k'
  ·grind
  ·exact absurd (Pt.ext (by grind) (by grind)) hne
theorem K3 {s t:Sg} (hs:s.a≠s.b) (ht:t.a≠t.b) (on1:∀ c,(c=t.a∨c=t.b)→aJ s.a s.b c→c=s.a∨c=s.b) (on2:∀ c,(c=s.a∨c=s.b)→aJ t.a t.b c→c=t.a∨c=t.b)
 {P Q:Pt} (hPQ:P≠Q) (p1:aJ s.a s.b P) (p2:aJ t.a t.b P) (q1:aJ s.a s.b Q) (q2:aJ t.a t.b Q):eF s t:=by
 obtain ⟨m,m0,m1,rfl⟩:=p1
 obtain ⟨n,n0,n1,rfl⟩:=q1
 obtain ⟨m',m'0,m'1,e1⟩:=p2
 obtain ⟨n',n'0,n'1,e2⟩:=q2
 have hmn:m≠n:=fun h=>hPQ (by rw [h])
 have hmn':m'≠n':=fun h=>hPQ (by rw [e1,e2,h])
 have hd:n'-m'≠0:=fun h=>hmn' (by grind)
 have ea:∃ α,t.a=pt s.a s.b α:=⟨m-m'/(n'-m')*(n-m),by
  have h1:=congrArg Pt.x e1;have h2:=congrArg Pt.y e1;have h3:=congrArg Pt.x e2;have h4:=congrArg Pt.y e2
  unfold pt at h1 h2 h3 h4 ⊢
  simp only at h1 h2 h3 h4
  have hr:m'/(n'-m')*(n'-m')=m':=Rat.div_mul_cancel hd
  generalize m'/(n'-m')=r at hr ⊢
  refine Pt.ext ?_ ?_
  ·try simp only
   have:(n'-m')*(t.a.x-(s.a.x+(m-r*(n-m))*(s.b.x-s.a.x)))=0:=by grind
   rcases br.1 this with k|k
   ·exact absurd k hd
   ·grind
  ·try simp only
   have:(n'-m')*(t.a.y-(s.a.y+(m-r*(n-m))*(s.b.y-s.a.y)))=0:=by grind
   rcases br.1 this with k|k
   ·exact absurd k hd
   ·grind⟩
 have eb:∃ β,t.b=pt s.a s.b β:=⟨m+(1-m')/(n'-m')*(n-m),by
  have h1:=congrArg Pt.x e1;have h2:=congrArg Pt.y e1;have h3:=congrArg Pt.x e2;have h4:=congrArg Pt.y e2
  unfold pt at h1 h2 h3 h4 ⊢
  simp only at h1 h2 h3 h4
  have hr:(1-m')/(n'-m')*(n'-m')=1-m':=Rat.div_mul_cancel hd
  generalize (1-m')/(n'-m')=r at hr ⊢
  refine Pt.ext ?_ ?_
  ·try simp only
   have:(n'-m')*(t.b.x-(s.a.x+(m+r*(n-m))*(s.b.x-s.a.x)))=0:=by grind
   rcases br.1 this with k|k
   ·exact absurd k hd
   ·grind
  ·try simp only
   have:(n'-m')*(t.b.y-(s.a.y+(m+r*(n-m))*(s.b.y-s.a.y)))=0:=by grind
   rcases br.1 this with k|k
   ·exact absurd k hd
   ·grind⟩
 obtain ⟨α,ha⟩:=ea
 obtain ⟨β,hb⟩:=eb
 have hab:α≠β:=fun h=>ht (by rw [ha,hb,h])
 have em:m=α+m'*(β-α):=te hs (by rw [e1,ha,hb,pn])
 have en:n=α+n'*(β-α):=te hs (by rw [e2,ha,hb,pn])
 have fa:¬(0<α∧α<1):=fun h=>by
  rcases on1 t.a (.inl rfl) ⟨α,ai h.1,ai h.2,ha⟩ with k|k
  ·have:=te hs (show pt s.a s.b α=pt s.a s.b 0 by rw [←ha,k,Gl]);grind
  ·have:=te hs (show pt s.a s.b α=pt s.a s.b 1 by rw [←ha,k,Ic]);grind
 have fb:¬(0<β∧β<1):=fun h=>by
  rcases on1 t.b (.inr rfl) ⟨β,ai h.1,ai h.2,hb⟩ with k|k
  ·have:=te hs (show pt s.a s.b β=pt s.a s.b 0 by rw [←hb,k,Gl]);grind
  ·have:=te hs (show pt s.a s.b β=pt s.a s.b 1 by rw [←hb,k,Ic]);grind
 have back:∀ {r:Rat},(r=0∨r=1)→(α<r∧r<β∨β<r∧r<α)→False:=by
  intro r hr hbt
  have hk:∃ k,0<k∧k<1∧r=α+k*(β-α):=by
   have hd:β-α≠0:=fun h=>hab (by grind)
   refine ⟨(r-α)/(β-α),?_,?_,by rw [Rat.div_mul_cancel hd];grind⟩
   ·rcases hbt with ⟨h1,h2⟩|⟨h1,h2⟩
    ·rw [Rat.lt_div_iff (by grind)];grind
    ·have e:(r-α)/(β-α)=(α-r)/(α-β):=by
      have h3:(r-α)/(β-α)*(β-α)=r-α:=Rat.div_mul_cancel hd
      have h4:(α-r)/(α-β)*(α-β)=α-r:=Rat.div_mul_cancel (by grind)
      have:((r-α)/(β-α)-(α-r)/(α-β))*(β-α)=0:=by grind
      rcases br.1 this with k|k
      ·grind
      ·exact absurd k hd
     rw [e,Rat.lt_div_iff (by grind)];grind
   ·rcases hbt with ⟨h1,h2⟩|⟨h1,h2⟩
    ·rw [Rat.div_lt_iff (by grind)];grind
    ·have e:(r-α)/(β-α)=(α-r)/(α-β):=by
      have h3:(r-α)/(β-α)*(β-α)=r-α:=Rat.div_mul_cancel hd
      have h4:(α-r)/(α-β)*(α-β)=α-r:=Rat.div_mul_cancel (by grind)
      have:((r-α)/(β-α)-(α-r)/(α-β))*(β-α)=0:=by grind
      rcases br.1 this with k|k
      ·grind
      ·exact absurd k hd
     rw [e,Rat.div_lt_iff (by grind)];grind
  obtain ⟨k,k0,k1,ek⟩:=hk
  have hc:pt s.a s.b r=s.a∨pt s.a s.b r=s.b:=by
   rcases hr with rfl|rfl
   ·exact .inl (Gl _ _)
   ·exact .inr (Ic _ _)
  have he:pt s.a s.b r=pt t.a t.b k:=by rw [ha,hb,pn,ek]
  rcases on2 _ hc ⟨k,ai k0,ai k1,he⟩ with j|j
  ·have:=te ht (show pt t.a t.b k=pt t.a t.b 0 by rw [←he,j,Gl]);grind
  ·have:=te ht (show pt t.a t.b k=pt t.a t.b 1 by rw [←he,j,Ic]);grind
 have b0:=fun h=>back (r:=0) (.inl rfl) h
 have b1:=fun h=>back (r:=1) (.inr rfl) h
 have key:(α=0∧β=1)∨(α=1∧β=0):=by
  have mm:(m-α)*(m-β)≤0:=by
   have e:(m-α)*(m-β)= -(m'*(1-m')*((β-α)*(β-α))):=by rw [em];grind
   have:=aj (aj m'0 (show 0≤1-m' by grind)) (Jy (β-α))
   grind
  have nn:(n-α)*(n-β)≤0:=by
   have e:(n-α)*(n-β)= -(n'*(1-n')*((β-α)*(β-α))):=by rw [en];grind
   have:=aj (aj n'0 (show 0≤1-n' by grind)) (Jy (β-α))
   grind
  have btw:∀ {x:Rat},(x-α)*(x-β)≤0→(α≤x∧x≤β)∨(β≤x∧x≤α):=by
   intro x hx
   by_cases k1:α≤x
   ·by_cases k2:x≤β
    ·exact .inl ⟨k1,k2⟩
    ·by_cases k3:x=α
     ·exact .inr ⟨by grind,by grind⟩
     ·have:=au (show 0<x-α by grind) (show 0<x-β by grind);grind
   ·by_cases k2:β≤x
    ·exact .inr ⟨k2,by grind⟩
    ·have:=au (show 0<α-x by grind) (show 0<β-x by grind);grind
  have tm:=btw mm
  have tn:=btw nn
  clear mm nn btw em en
  grind
 rcases key with ⟨rfl,rfl⟩|⟨rfl,rfl⟩
 ·left
  rw [Gl] at ha;rw [Ic] at hb
  exact Sg.ext ha.symm hb.symm
 ·right
  rw [Ic] at ha;rw [Gl] at hb
  exact Sg.ext hb.symm ha.symm
end Go.Av
