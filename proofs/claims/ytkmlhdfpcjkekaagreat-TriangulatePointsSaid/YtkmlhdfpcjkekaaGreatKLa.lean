/- Helping texts: La, Le. -/
import Derived.Test.YtkmlhdfpcjkekaaGreatKDv
import Derived.Test.YtkmlhdfpcjkekaaGreatKDa
import Derived.Test.YtkmlhdfpcjkekaaGreatKNa
set_option linter.unusedSimpArgs false
set_option linter.unusedVariables false
set_option maxRecDepth 100000
set_option maxHeartbeats 16000000
namespace Go.Av
open Go.RowKit
open Go.Proofs.Tryz (prog)
def Asks (f:FuncId) (cap:List V) (n:Nat) (x:Nat→V) (p:Nat→Bool) (H:Hp):Prop:=
 ∀ i H' K,i<n→Ext H H'→(∀ H'',Ext H' H''→K (.prim (.bool (p i))) H'')→SC prog f (x i::cap) H' K
theorem indexPR_sc (l:List Pt) (f:FuncId) (cap:List V) (p:Nat→Bool) {H:Hp} {K:V→Hp→Prop} {b c:Nat} {fx:Bool} (hb:get H b=some (.row 6 true (l.map pc))) (hn:l.length<2^40)
 (hf:Asks f cap l.length (fun i=>pV (l.getD i default)) p H) (hK:∀ H',Ext H H'→K (.prim (.int .i64 (idxP l.length p))) H'):
 SC prog 128 [.sref b 0 l.length c 6 fx,.clo f [] cap] H K:=by
 refine SCi ?_
 conv in trip _ _=>cbv
 simp only [runT,RN,simprocAttr]
 simp (disch:=omega) only [↓RS,RZ,simprocAttr]
 refine wp_lp (fun (i:Nat) J=>ov [(0,.sref b 0 l.length c 6 fx),(1,.clo f [] cap),(4,.prim (.int .i64 (0))),(6,.sref b 0 l.length c 6 fx),(7,.prim (.int .i64 ((l.length:Nat):Int))),(8,.prim (.int .i64 ((i:Nat):Int)))] J 0 19) (fun i H'=>(i≤l.length∧∀ j,j<i→p j=false)∧Ext H H') (fun i=>l.length-i) 0 rfl ⟨⟨Nat.zero_le _,fun j hj=>absurd hj (Nat.not_lt_zero j)⟩,Ext.refl⟩ ?_
 rintro i J H1 ⟨⟨hi,hp⟩,hE⟩
 try conv in ov _ _ _ _=>simp only [ov,List.lookup,RO,simprocAttr]
 rcases Nat.lt_or_ge i l.length with hlt|hge
 ·have g:(l.map pc)[i]? =some (pc (l.getD i default)):=by rw [List.getElem?_map,List.getD_eq_getElem?_getD,List.getElem?_eq_getElem hlt];rfl
  have g1:=hE.get hb
  have hl:i<(l.map pc).length:=by rw [List.length_map];exact hlt
  simp (disch:=omega) only [↓RS,RZ,simprocAttr,g1,g,pc,Nat.zero_add]
  refine call_sc (hf i _ _ hlt hE ?_)
  intro H2 hE2
  have hE3:=hE.trans hE2
  cases hpi:p i with
  |true=>
   rw [idxP_found hlt hpi hp] at hK
   simp (disch:=omega) only [↓RS,RZ,simprocAttr]
   exact hK _ hE3
  |false=>
   simp (disch:=omega) only [↓RS,RZ,simprocAttr]
   exact lp_next (i+1) rfl ⟨⟨hlt,fun j hj=>by
    rcases Nat.lt_or_ge j i with h|h
    ·exact hp j h
    ·rw [show j=i by omega];exact hpi⟩,hE3⟩ (by omega)
 ·have hia:i=l.length:=by omega
  subst hia
  rw [idxP_none hp] at hK
  simp (disch:=omega) only [↓RS,RZ,simprocAttr]
  exact hK _ hE
theorem containsPR_sc (l:List Pt) (f:FuncId) (cap:List V) (p:Nat→Bool) {H:Hp} {K:V→Hp→Prop} {b c:Nat} {fx:Bool} (hb:get H b=some (.row 6 true (l.map pc))) (hn:l.length<2^40)
 (hf:Asks f cap l.length (fun i=>pV (l.getD i default)) p H) (hK:∀ H',Ext H H'→K (.prim (.bool (anyTo l.length p))) H'):
 SC prog 60 [.sref b 0 l.length c 6 fx,.clo f [] cap] H K:=by
 unfold anyTo at hK
 rw [←idxP_nonneg] at hK
 refine SCi ?_
 conv in trip _ _=>cbv
 simp only [runT,RN,simprocAttr]
 simp (disch:=omega) only [↓RS,RZ,simprocAttr]
 refine call_sc (indexPR_sc l f cap p hb hn hf ?_)
 intro H' hE
 by_cases h:0≤idxP l.length p
 ·rw [decide_eq_true h] at hK
  simp (disch:=omega) only [↓RS,RZ,simprocAttr]
  exact hK _ hE
 ·rw [decide_eq_false h] at hK
  simp (disch:=omega) only [↓RS,RZ,simprocAttr]
  exact hK _ hE
def crossS (s t:Sg):Bool:=match meetM s t with
 |some x=>decide (x.a=x.b)&& !anyTo 4 fun i=>decide (([s.a,s.b,t.a,t.b].getD i default)=x.a)
 |none=>false
theorem hs_meetM {s t x:Sg} (h1:hs s≤2^20) (h2:hs t≤2^20) (h:meetM s t=some x):hs x≤2^30:=by
 unfold meetM at h
 split at h
 ·unfold meetS at h
  have a1:=hp_dir s;have a2:=hp_dir t;have a3:=hp_sub t.a s.a;have a4:=hs_a s;have a5:=hs_a t;have a6:=hs_b s;have a7:=hs_b t
  have a8:=ht_cross s.dir t.dir
  have a9:=ht_cross (t.a.sub s.a) t.dir
  have a12:=ht_div (cross (t.a.sub s.a) t.dir) (cross s.dir t.dir)
  have a13:=hp_at s.a s.b (cross (t.a.sub s.a) t.dir/cross s.dir t.dir)
  have b1:=hs_order s;have b2:=hs_order t
  have b3:=hs_a s.order;have b4:=hs_b s.order;have b5:=hs_a t.order;have b6:=hs_b t.order
  have b7:=hp_greater s.order.a t.order.a
  have b8:=hp_lesser s.order.b t.order.b
  split at h
  ·split at h
   ·simp only [Option.some.injEq] at h
    subst h
    exact hs_mk (by omega) (by omega)
   ·cases h
  ·split at h
   ·cases h
   ·split at h
    ·cases h
    ·simp only [Option.some.injEq] at h
     subst h
     exact hs_mk (by omega) (by omega)
 ·cases h
theorem cross1_sc (p:Pt) (x:Sg) (h1:hp p≤2^32) (h2:hs x≤2^32) {b:Nat} {H:Hp} {K:V→Hp→Prop} (hb:get H b=some (.row 12 true [sgc x])) (hK:∀ H',Ext H H'→K (.prim (.bool (decide (p=x.a)))) H'):
 SC prog 59 [pV p,.ptr b 0 0] H K:=by
 have c:=vcmp_pc p x.a h1 (Nat.le_trans (hs_a x) h2)
 have w1:∀ y,get (H++[y]) b=some (.row 12 true [sgc x]):=fun y=>get_app hb
 refine SCi ?_
 conv in trip _ _=>cbv
 simp only [runT,RN,simprocAttr]
 simp (disch:=omega) only [↓RS,RZ,simprocAttr,pV,ptV,hb,w1,sgc]
 refine cX c ?_
 have e:decide (cmpP p x.a=0)=decide (p=x.a):=by
  by_cases h:p=x.a
  ·rw [decide_eq_true h,decide_eq_true (cmpP_zero.2 h)]
  ·rw [decide_eq_false h,decide_eq_false (fun k=>h (cmpP_zero.1 k))]
 cases hd:decide (p=x.a) with
 |true=>
  have:=of_decide_eq_true (e.trans hd)
  rw [hd] at hK
  simp (disch:=omega) only [↓RS,RZ,simprocAttr]
  exact hK _ (Ext.app _)
 |false=>
  have:=of_decide_eq_false (e.trans hd)
  rw [hd] at hK
  simp (disch:=omega) only [↓RS,RZ,simprocAttr]
  exact hK _ (Ext.app _)
theorem crossS_pc (s t:Sg) (h1:hs s≤2^20) (h2:hs t≤2^20):PC prog 15 [sgV s,sgV t] (.prim (.bool (crossS s t))):=by
 have w:=swrong_pc s t h1 h2
 have m:=smeet_pc s t h1 h2
 have hx:= @hs_meetM s t
 have hC:crossS s t=match meetM s t with
  |some x=>decide (x.a=x.b)&& !anyTo 4 fun i=>decide (([s.a,s.b,t.a,t.b].getD i default)=x.a)
  |none=>false:=rfl
 unfold meetM at hx hC
 refine PCi ?_
 conv in trip _ _=>cbv
 simp only [runT,RN,simprocAttr]
 by_cases hok:s.ok∧t.ok
 ·have e:(!(decide s.ok&&decide t.ok))=false:=by simp [hok.1,hok.2]
  rw [e] at w
  rw [if_pos hok] at hx hC
  generalize meetS s t=o at*
  simp (disch:=omega) only [↓RS,RZ,simprocAttr,sgV,s4V]
  refine cX w ?_
  simp (disch:=omega) only [↓RS,RZ,simprocAttr,sgV,s4V]
  refine cX m ?_
  cases o with
  |none=>
   rw [hC]
   simp (disch:=omega) only [↓RS,RZ,simprocAttr,optV,sgV,s4V,Option.isSome,Option.getD]
  |some x=>
   have hx:=hx h1 h2 rfl
   simp only at hC
   by_cases e1:x.a=x.b
   ·have d1:decide (x.a=x.b)=true:=decide_eq_true e1
    rw [d1,Bool.true_and] at hC
    rw [hC]
    have d2:decide (x.a=x.b)=true:=decide_eq_true e1
    simp (disch:=omega) only [↓RS,RZ,simprocAttr,optV,sgV,s4V,Option.isSome,Option.getD,eqA_p,d2]
    refine call_sc (containsPR_sc [s.a,s.b,t.a,t.b] 59 [.ptr 2 0 0] (fun i=>decide (([s.a,s.b,t.a,t.b].getD i default)=x.a)) rfl (by simp only [List.length_cons,List.length_nil];omega) ?_ ?_)
    ·intro i H' K hi hE hK
     refine cross1_sc _ x ?_ (Nat.le_trans hx (by omega)) (hE.get rfl) hK
     have q1:=hs_a s;have q2:=hs_b s;have q3:=hs_a t;have q4:=hs_b t
     match i,hi with
     |0,_=>show hp s.a≤_;omega
     |1,_=>show hp s.b≤_;omega
     |2,_=>show hp t.a≤_;omega
     |3,_=>show hp t.b≤_;omega
    ·intro H' hE
     show _
     generalize anyTo [s.a,s.b,t.a,t.b].length (fun i=>decide (([s.a,s.b,t.a,t.b].getD i default)=x.a))=r
     cases r with
     |true=>simp (disch:=omega) only [↓RS,RZ,simprocAttr]
     |false=>simp (disch:=omega) only [↓RS,RZ,simprocAttr]
   ·have d1:decide (x.a=x.b)=false:=decide_eq_false e1
    rw [d1,Bool.false_and] at hC
    rw [hC]
    simp (disch:=omega) only [↓RS,RZ,simprocAttr,optV,sgV,s4V,Option.isSome,Option.getD,eqA_p,d1]
 ·have e:(!(decide s.ok&&decide t.ok))=true:=by
   by_cases k1:s.ok
   ·have k2:¬t.ok:=fun h=>hok ⟨k1,h⟩
    simp [k1,k2]
   ·simp [k1]
  rw [e] at w
  rw [if_neg hok] at hC
  rw [hC]
  simp (disch:=omega) only [↓RS,RZ,simprocAttr,sgV,s4V]
  refine cX w ?_
  simp (disch:=omega) only [↓RS,RZ,simprocAttr]
end Go.Av
namespace Go.Av
open Go.RowKit
open Go.Proofs.Tryz (prog)
theorem Bufn.appendW {H:Hp} {P:Program} {K:V→Hp→Prop} {n0:Nat} {v:V} {ei:TyI} {es ys:List (List V)} (h:Bufn n0 H v ei.sz es) (hy:∀ y∈ys,∀ v∈y,cellV v=true) (h1:(es.length+ys.length)*ei.bytes≤2^47) (h2:es.length+ys.length≤2^60)
 (hK:∀ v' H',Bufn n0 H' v' ei.sz (es++ys)→(∀ b k,(b<n0∨∀ es,k≠ .row ei.sz true es)→get H b=some k→get H' b=some k)→H.length≤H'.length→K v' H'):wpAppend P H ei v ys K:=by
 have hN:=h.1
 refine ⟨hy,?_⟩
 rcases h.2 with ⟨rfl,rfl⟩|⟨b,hb,rfl,hg⟩
 ·simp only [List.length_nil,Nat.zero_add] at h1 h2
  refine ⟨fun e=>hK _ _ (by subst e;exact ⟨hN,.inl ⟨rfl,rfl⟩⟩) (fun _ _ _ h=>h) (Nat.le_refl _),fun _=>⟨h1,h2,hK _ _ ⟨by rw [List.length_append];omega,.inr ⟨H.length,hN,by simp,by rw [get_app_len];simp⟩⟩ (fun _ _ _ h=>get_app h) (by rw [List.length_append];omega)⟩⟩
 ·simp only [hg]
  refine ⟨trivial,by omega,?_⟩
  rcases Nat.eq_zero_or_pos ys.length with h0|h0
  ·left
   have:ys=[]:=List.length_eq_zero_iff.1 h0
   subst this
   refine ⟨by simp,by simp,trivial,?_⟩
   have e:splice es (0+es.length) []=es:=by simp [splice]
   rw [e,set_selfP hg]
   exact hK _ _ ⟨hN,.inr ⟨b,hb,by simp,by simpa using hg⟩⟩ (fun _ _ _ h=>h) (Nat.le_refl _)
  ·right;right
   have hl:(H.set b none).length=H.length:=by simp
   refine ⟨by simp,by simp,h1,h2,hK _ _ ⟨by rw [List.length_append,hl];omega,.inr ⟨H.length,hN,by simp,?_⟩⟩ ?_ (by rw [List.length_append,hl];omega)⟩
   ·rw [←hl,get_app_len];simp
   ·intro c k hc hg'
    refine get_app ?_
    rw [get_set_ne];exact hg'
    rintro rfl
    rcases hc with hc|hc
    ·omega
    ·rw [hg] at hg';cases hg';exact hc _ rfl
theorem PC_res {P:Program} {f:FuncId} {vs:List V} {r r':V} (hv:∀ I w x,VR (fun _=>none) I w r x→VR (fun _=>none) I w r' x) (h:PC P f vs r):PC P f vs r':=fun I w xs hI hxs=>
 ⟨(h I w xs hI hxs).1,(h I w xs hI hxs).2.mono fun _ _ ⟨x,h1,h2,h3⟩=>⟨x,h1,hv _ _ _ h2,h3⟩⟩
theorem PC_nil {P:Program} {f:FuncId} {vs:List V} {sz:Nat} (h:PC P f vs (.prim (.slice none 0 0))):PC P f vs (.lst sz []):=PC_res (fun I w x h=>by
 have:=h.prim_inv.1;subst this;exact .lnil) h
theorem sgs_get {l:List Sg} {i:Nat} (h:i<l.length):(l.map sgc)[i]? =some (sgc (l.getD i sg0)):=by
 rw [List.getElem?_map,List.getD_eq_getElem?_getD,List.getElem?_eq_getElem h];rfl
theorem indexB_sc (l:List Sg) (f:FuncId) (cap:List V) (p:Nat→Bool) {H:Hp} {K:V→Hp→Prop} {n0:Nat} {v:V} (hv:Bufn n0 H v 12 (l.map sgc)) (hn:l.length<2^40)
 (hf:Asks f cap l.length (fun i=>sgV (l.getD i sg0)) p H) (hK:∀ H',Ext H H'→K (.prim (.int .i64 (idxP l.length p))) H'):
 SC prog 70 [v,.clo f [] cap] H K:=by
 rcases hv.2 with ⟨h0,rfl⟩|⟨b,hb,rfl,hg⟩
 ·have h0:l=[]:=List.map_eq_nil_iff.1 h0
  subst h0
  have hk:=hK H Ext.refl
  rw [show idxP ([]:List Sg).length p= -1 from idxP_none (fun j hj=>absurd hj (Nat.not_lt_zero j))] at hk
  refine SCi ?_
  conv in trip _ _=>cbv
  simp only [runT,RN,simprocAttr]
  simp (disch:=omega) only [↓RS,RZ,simprocAttr]
  refine wp_iter 1 ?_
  simp (disch:=omega) only [↓RS,RZ,simprocAttr,iterL_s,itQ_normal,itQ_exit,itQ_ret]
  exact hk
 ·have hlen:(l.map sgc).length=l.length:=List.length_map ..
  rw [hlen]
  refine SCi ?_
  conv in trip _ _=>cbv
  simp only [runT,RN,simprocAttr]
  simp (disch:=omega) only [↓RS,RZ,simprocAttr]
  refine wp_lp (fun (i:Nat) J=>ov [(0,.sref b 0 l.length l.length 12 false),(1,.clo f [] cap),(4,.prim (.int .i64 (0))),(6,.sref b 0 l.length l.length 12 false),(7,.prim (.int .i64 ((l.length:Nat):Int))),(8,.prim (.int .i64 ((i:Nat):Int)))] J 0 19) (fun i H'=>(i≤l.length∧∀ j,j<i→p j=false)∧Ext H H') (fun i=>l.length-i) 0 rfl ⟨⟨Nat.zero_le _,fun j hj=>absurd hj (Nat.not_lt_zero j)⟩,Ext.refl⟩ ?_
  rintro i J H1 ⟨⟨hi,hp⟩,hE⟩
  try conv in ov _ _ _ _=>simp only [ov,List.lookup,RO,simprocAttr]
  rcases Nat.lt_or_ge i l.length with hlt|hge
  ·have g:=sgs_get hlt
   have g1:=hE.get hg
   simp (disch:=omega) only [↓RS,RZ,simprocAttr,g1,g,sgc,Nat.zero_add]
   refine call_sc (hf i _ _ hlt hE ?_)
   intro H2 hE2
   have hE3:=hE.trans hE2
   cases hpi:p i with
   |true=>
    rw [idxP_found hlt hpi hp] at hK
    simp (disch:=omega) only [↓RS,RZ,simprocAttr]
    exact hK _ hE3
   |false=>
    simp (disch:=omega) only [↓RS,RZ,simprocAttr]
    exact lp_next (i+1) rfl ⟨⟨hlt,fun j hj=>by
     rcases Nat.lt_or_ge j i with h|h
     ·exact hp j h
     ·rw [show j=i by omega];exact hpi⟩,hE3⟩ (by omega)
  ·have hia:i=l.length:=by omega
   subst hia
   rw [idxP_none hp] at hK
   simp (disch:=omega) only [↓RS,RZ,simprocAttr]
   exact hK _ hE
theorem containsB_sc (l:List Sg) (f:FuncId) (cap:List V) (p:Nat→Bool) {H:Hp} {K:V→Hp→Prop} {n0:Nat} {v:V} (hv:Bufn n0 H v 12 (l.map sgc)) (hn:l.length<2^40)
 (hf:Asks f cap l.length (fun i=>sgV (l.getD i sg0)) p H) (hK:∀ H',Ext H H'→K (.prim (.bool (anyTo l.length p))) H'):
 SC prog 19 [v,.clo f [] cap] H K:=by
 unfold anyTo at hK
 rw [←idxP_nonneg] at hK
 refine SCi ?_
 conv in trip _ _=>cbv
 simp only [runT,RN,simprocAttr]
 simp (disch:=omega) only [↓RS,RZ,simprocAttr]
 refine call_sc (indexB_sc l f cap p hv hn hf ?_)
 intro H' hE
 by_cases h:0≤idxP l.length p
 ·rw [decide_eq_true h] at hK
  simp (disch:=omega) only [↓RS,RZ,simprocAttr]
  exact hK _ hE
 ·rw [decide_eq_false h] at hK
  simp (disch:=omega) only [↓RS,RZ,simprocAttr]
  exact hK _ hE
theorem diags1_sc (s t:Sg) (h1:hs s≤2^20) (h2:hs t≤2^20) {b:Nat} {H:Hp} {K:V→Hp→Prop} (hb:get H b=some (.row 12 true [sgc s])) (hK:∀ H',Ext H H'→K (.prim (.bool (crossS s t))) H'):
 SC prog 115 [sgV t,.ptr b 0 0] H K:=by
 have c:=crossS_pc s t h1 h2
 have w1:∀ x,get (H++[x]) b=some (.row 12 true [sgc s]):=fun x=>get_app hb
 have k:=hK _ (Ext.app [some (.row 12 true [sgc t])])
 refine SCi ?_
 conv in trip _ _=>cbv
 simp only [runT,RN,simprocAttr]
 simp (disch:=omega) only [↓RS,RZ,simprocAttr,sgV,s4V,w1,sgc]
 refine cX c ?_
 simp (disch:=omega) only [↓RS,RZ,simprocAttr]
 exact k
def addD (D:Sg→Bool×Int) (out:List Sg) (s:Sg):List Sg:=
 if (D s).2=0∧(D s).1=true∧(anyTo out.length fun j=>crossS s (out.getD j sg0))=false then out++[s] else out
def prS (l:List Pt) (x:Nat×Nat):Sg:=⟨l.getD x.1 default,l.getD x.2 default⟩
def diagsOf (D:Sg→Bool×Int) (l:List Pt) (m:List (Nat×Nat)):List Sg:=m.foldl (fun out x=>addD D out (prS l x)) []
theorem diagsOf_snoc (D:Sg→Bool×Int) (l:List Pt) (m:List (Nat×Nat)) (x:Nat×Nat):diagsOf D l (m++[x])=addD D (diagsOf D l m) (prS l x):=by
 unfold diagsOf;rw [List.foldl_append];rfl
theorem hs_prS {l:List Pt} {k:Nat} (h:hl l k) {i j:Nat} (hi:i<l.length) (hj:j<l.length):hs (prS l (i,j))≤k:=
 hs_mk (hl_hqP h i hi) (hl_hqP h j hj)
end Go.Av
