/- Helping texts: Ln, Lo. -/
import Derived.Test.YtkmlhdfpcjkekaaGreatKLk
set_option linter.unusedSimpArgs false
set_option linter.unusedVariables false
set_option maxRecDepth 100000
set_option maxHeartbeats 16000000
namespace Go.Av
open Go.RowKit
open Go.Proofs.Tryz (prog)
theorem indexTL_sc (l:List Tri) (f:FuncId) (cap:List V) (p:Nat→Bool) {H:Hp} {K:V→Hp→Prop} (hn:l.length<2^40)
 (hf:Asks f cap l.length (fun i=>trV (l.getD i tr0)) p H) (hK:∀ H',Ext H H'→K (.prim (.int .i64 (idxP l.length p))) H'):
 SC prog 88 [tsV l,.clo f [] cap] H K:=by
 have hlen:(l.map trc).length=l.length:=List.length_map ..
 refine SCi ?_
 conv in trip _ _=>cbv
 simp only [runT,RN,simprocAttr]
 simp (disch:=omega) only [↓RS,RZ,simprocAttr,tsV,hlen]
 refine wp_lp (fun (i:Nat) J=>ov [(0,tsV l),(1,.clo f [] cap),(4,.prim (.int .i64 (0))),(6,tsV l),(7,.prim (.int .i64 ((l.length:Nat):Int))),(8,.prim (.int .i64 ((i:Nat):Int)))] J 0 19) (fun i H'=>(i≤l.length∧∀ j,j<i→p j=false)∧Ext H H') (fun i=>l.length-i) 0 rfl ⟨⟨Nat.zero_le _,fun j hj=>absurd hj (Nat.not_lt_zero j)⟩,Ext.refl⟩ ?_
 rintro i J H1 ⟨⟨hi,hp⟩,hE⟩
 try conv in ov _ _ _ _=>simp only [ov,List.lookup,RO,simprocAttr]
 rcases Nat.lt_or_ge i l.length with hlt|hge
 ·have g:=trs_getD hlt
  simp (disch:=omega) only [↓RS,RZ,simprocAttr,tsV,hlen,g,trc]
  refine call_sc (hf i _ _ hlt hE ?_)
  intro H2 hE2
  have hE3:=hE.trans hE2
  cases hpi:p i with
  |true=>
   rw [idxP_found hlt hpi hp] at hK
   simp (disch:=omega) only [↓RS,RZ,simprocAttr]
   exact hK _ hE3
  |false=>
   simp (disch:=omega) only [↓RS,RZ,simprocAttr]
   exact lp_next (i+1) rfl ⟨⟨hlt,fun j hj=>by
    rcases Nat.lt_or_ge j i with h|h
    ·exact hp j h
    ·rw [show j=i by omega];exact hpi⟩,hE3⟩ (by omega)
 ·have hia:i=l.length:=by omega
  subst hia
  rw [idxP_none hp] at hK
  simp (disch:=omega) only [↓RS,RZ,simprocAttr,tsV,hlen]
  exact hK _ hE
theorem containsTL_sc (l:List Tri) (f:FuncId) (cap:List V) (p:Nat→Bool) {H:Hp} {K:V→Hp→Prop} (hn:l.length<2^40)
 (hf:Asks f cap l.length (fun i=>trV (l.getD i tr0)) p H) (hK:∀ H',Ext H H'→K (.prim (.bool (anyTo l.length p))) H'):
 SC prog 104 [tsV l,.clo f [] cap] H K:=by
 unfold anyTo at hK
 rw [←idxP_nonneg] at hK
 refine SCi ?_
 conv in trip _ _=>cbv
 simp only [runT,RN,simprocAttr]
 simp (disch:=omega) only [↓RS,RZ,simprocAttr,tsV]
 refine call_sc (indexTL_sc l f cap p hn hf ?_)
 intro H' hE
 by_cases h:0≤idxP l.length p
 ·rw [decide_eq_true h] at hK
  simp (disch:=omega) only [↓RS,RZ,simprocAttr]
  exact hK _ hE
 ·rw [decide_eq_false h] at hK
  simp (disch:=omega) only [↓RS,RZ,simprocAttr]
  exact hK _ hE
theorem points_pc (t:Tri):PC prog 100 [trV t] (psV [t.a,t.b,t.c]):=by
 refine PCi ?_
 conv in trip _ _=>cbv
 simp only [runT,RN,simprocAttr]
 simp (disch:=omega) only [↓RS,RZ,simprocAttr,trV,trc,psV,pc,List.map_cons,List.map_nil]
 try rfl
theorem odd_sc (p:Pt) (h:hp p≤2^20) {H:Hp} {K:V→Hp→Prop} (hK:∀ H',Ext H H'→K (.prim (.bool false)) H'):SC prog 149 [pV p] H K:=by
 have c:=vcheckP_pc p h
 have k:=hK _ (Ext.app [some (.row 6 true [pc p])])
 simp only [pc] at k
 refine SCi ?_
 conv in trip _ _=>cbv
 simp only [runT,RN,simprocAttr]
 simp (disch:=omega) only [↓RS,RZ,simprocAttr,pV,ptV]
 refine cX c ?_
 simp (disch:=omega) only [↓RS,RZ,simprocAttr]
 exact k
theorem odd2_sc (t:Tri) (h:ht3 t≤2^20) {b:Nat} {H:Hp} {K:V→Hp→Prop} (hb:get H b=some (.row 1 true [[.clo 149 [] []]])) (hK:∀ H',Ext H H'→K (.prim (.bool false)) H'):
 SC prog 150 [trV t,.ptr b 0 0] H K:=by
 have c:=points_pc t
 have w1:∀ x,get (H++[x]) b=some (.row 1 true [[.clo 149 [] []]]):=fun x=>get_app hb
 have a1:=ht3_a t;have a2:=ht3_b t;have a3:=ht3_c t
 refine SCi ?_
 conv in trip _ _=>cbv
 simp only [runT,RN,simprocAttr]
 simp (disch:=omega) only [↓RS,RZ,simprocAttr,trV,trc,w1]
 refine cX c ?_
 simp (disch:=omega) only [↓RS,RZ,simprocAttr,psV,w1]
 refine call_sc (containsPL_sc [t.a,t.b,t.c] _ _ (fun _=>false) (by simp only [List.length_cons,List.length_nil];omega) ?_ ?_)
 ·intro i H' K' hi hE hK'
  refine odd_sc _ ?_ hK'
  match i,hi with
  |0,_=>show hp t.a≤_;omega
  |1,_=>show hp t.b≤_;omega
  |2,_=>show hp t.c≤_;omega
 ·intro H' hE
  have e:anyTo [t.a,t.b,t.c].length (fun _=>false)=false:=anyTo_false fun _ _=>rfl
  rw [e]
  have k:=hK H' ((Ext.app _).trans hE)
  simp (disch:=omega) only [↓RS,RZ,simprocAttr]
  exact k
theorem checkList_pc (l:List Tri) (q:Pt) (hn:l.length<50) (hl:∀ t∈l,ht3 t≤2^20) (hq:hp q≤2^20):PC prog 87 [tsV l,psV [q]] (.prim (.int .i64 (0))):=by
 have hlen:(l.map trc).length=l.length:=List.length_map ..
 have e1:anyTo l.length (fun _=>false)=false:=anyTo_false fun _ _=>rfl
 have e2:anyTo [q].length (fun _=>false)=false:=anyTo_false fun _ _=>rfl
 refine PCi ?_
 conv in trip _ _=>cbv
 simp only [runT,RN,simprocAttr]
 simp (disch:=omega) only [↓RS,RZ,simprocAttr,tsV,hlen]
 refine call_sc (containsTL_sc l _ _ (fun _=>false) (by omega) ?_ ?_)
 ·intro i H' K hi hE hK
  refine odd2_sc _ (hl _ (by rw [List.getD_eq_getElem?_getD,List.getElem?_eq_getElem hi];exact List.getElem_mem hi)) (hE.get rfl) hK
 ·intro H' hE
  have w:=hE.get (c:=0) rfl
  rw [e1]
  simp (disch:=omega) only [↓RS,RZ,simprocAttr,w,psV]
  refine call_sc (containsPL_sc [q] _ _ (fun _=>false) (by simp only [List.length_cons,List.length_nil];omega) ?_ ?_)
  ·intro i H2 K hi hE2 hK
   refine odd_sc _ ?_ hK
   match i,hi with
   |0,_=>exact hq
  ·intro H2 hE2
   rw [e2]
   simp (disch:=omega) only [↓RS,RZ,simprocAttr]
theorem locate1_sc (t:Tri) (q:Pt) (h1:ht3 t≤2^26) (h2:hp q≤2^26) {b:Nat} {H:Hp} {K:V→Hp→Prop} (hb:get H b=some (.row 6 true [pc q])) (hK:∀ H',Ext H H'→K (.prim (.bool (decide (0≤insideT t q)))) H'):
 SC prog 89 [trV t,.ptr b 0 0] H K:=by
 have c:=insideT_pc t q h1 h2
 have w1:∀ y,get (H++[y]) b=some (.row 6 true [pc q]):=fun y=>get_app hb
 have hk:=fun y=>hK _ (Ext.app [y])
 generalize insideT t q=n at*
 refine SCi ?_
 conv in trip _ _=>cbv
 simp only [runT,RN,simprocAttr]
 simp (disch:=omega) only [↓RS,RZ,simprocAttr,trV,trc,hb,w1,pc]
 refine cX c ?_
 simp (disch:=omega) only [↓RS,RZ,simprocAttr]
 exact hk _
theorem locate_pc (l:List Tri) (q:Pt) (n:Int) (hnn:n=if 0>idxP l.length (fun i=>decide (0≤insideT (l.getD i tr0) q)) then 0 else idxP l.length fun i=>decide (0≤insideT (l.getD i tr0) q)) (hn:l.length<50) (hl:∀ t∈l,ht3 t≤2^20) (hq:hp q≤2^20):
 PC prog 31 [tsV l,pV q] (.tup [.prim (.int .i64 (n)),.prim (.bool (decide (0≤idxP l.length fun i=>decide (0≤insideT (l.getD i tr0) q)))),.prim (.int .i64 (0))]):=by
 have c:=checkList_pc l q hn hl hq
 refine PCi ?_
 conv in trip _ _=>cbv
 simp only [runT,RN,simprocAttr]
 simp (disch:=omega) only [↓RS,RZ,simprocAttr,tsV,pV,ptV]
 refine cX c ?_
 simp (disch:=omega) only [↓RS,RZ,simprocAttr,tsV,pV,ptV]
 refine call_sc (indexTL_sc l _ _ (fun i=>decide (0≤insideT (l.getD i tr0) q)) (by omega) ?_ ?_)
 ·intro i H' K hi hE hK
  refine locate1_sc _ q (Nat.le_trans (hl _ (by rw [List.getD_eq_getElem?_getD,List.getElem?_eq_getElem hi];exact List.getElem_mem hi)) (by omega)) (by omega) (hE.get rfl) hK
 ·intro H' hE
  generalize idxP l.length (fun i=>decide (0≤insideT (l.getD i tr0) q))=k at*
  by_cases hk:0≤k
  ·rw [if_neg (by omega)] at hnn
   subst hnn
   rw [decide_eq_true hk]
   have hk2:¬0>n:=by omega
   simp (disch:=omega) only [↓RS,RZ,simprocAttr,hk2]
   try rfl
  ·rw [if_pos (by omega)] at hnn
   subst hnn
   rw [decide_eq_false hk]
   have hk2:0>k:=by omega
   simp (disch:=omega) only [↓RS,RZ,simprocAttr,hk2]
   try rfl
end Go.Av
namespace Go.Av
open Go.RowKit
open Go.Proofs.Tryz (prog)
theorem halfway_pc (a b:Pt) (h1:hp a≤2^20) (h2:hp b≤2^20):PC prog 33 [pV a,pV b] (pV ((a.add b).smul (1/2))):=by
 have h0:=half_pc
 have c1:=vadd_pc a b (by omega) (by omega)
 have hb:=hp_add a b
 have hh:ht (1/2)≤3:=by have:=ht_div 1 2;have:=ht_two;have e:ht 1≤1:= @ht_int 1 (by omega);omega
 have c2:=vscale_pc (a.add b) (1/2) (by omega) (by omega)
 refine PCi ?_
 conv in trip _ _=>cbv
 simp only [runT,RN,simprocAttr]
 simp (disch:=omega) only [↓RS,RZ,simprocAttr,pV,ptV]
 refine cX c1 ?_
 simp (disch:=omega) only [↓RS,RZ,simprocAttr,pV,ptV]
 refine cX h0 ?_
 simp (disch:=omega) only [↓RS,RZ,simprocAttr,pV,ptV,qV,rV]
 refine cX c2 ?_
 simp (disch:=omega) only [↓RS,RZ,simprocAttr,pV,ptV]
theorem ptV_can {q:Rp} (h:q.x=can q.x.val∧q.y=can q.y.val):ptV q.x q.y=pV ⟨q.x.val,q.y.val⟩:=by
 unfold pV;rw [←h.1,←h.2]
theorem eqA_b (a b:Bool):eqA (tyOf prog) 9 4 (.prim (.bool a)) (.prim (.bool b))=some (a==b):=by
 unfold eqA;simp only [RT]
theorem idx_any {n:Nat} {p:Nat→Bool}:(0≤idxP n p↔∃ i,i<n∧p i=true):=by
 have:= @idxP_nonneg n p
 constructor
 ·intro h
  rw [decide_eq_true h] at this
  obtain ⟨i,hi,hp⟩:=List.any_eq_true.1 this.symm
  exact ⟨i,List.mem_range.1 hi,hp⟩
 ·rintro ⟨i,hi,hp⟩
  have h2:(List.range n).any p=true:=List.any_eq_true.2 ⟨i,List.mem_range.2 hi,hp⟩
  rw [h2] at this
  exact of_decide_eq_true this
theorem idx_lt (n:Nat) (p:Nat→Bool) (h:0<n):∃ i:Nat,i<n∧(if 0>idxP n p then 0 else idxP n p)=(i:Int):=by
 unfold idxP
 cases hf:(List.range n).find? p with
 |none=>exact ⟨0,h,by simp⟩
 |some i=>
  have:=List.mem_range.1 (List.mem_of_find?_eq_some hf)
  exact ⟨i,this,by simp;omega⟩
theorem triangulatePoints_pc (O:List Rp) (hs:List (List Rp)) (q:Rp) (hr:Read O hs) (hq:q.fit):PC prog 5 [pgV O hs,ptV q.x q.y] (.prim (.bool true)):=by
 obtain ⟨b,f,hb⟩:=fine22_pc O hs hr
 have aw:=awake22_pc
 have g:=great_pc [q] (by simp) (by intro p hp;simp at hp;subst hp;exact hq)
 cases b with
 |false=>
  refine PC_intro mixed (FnD.of (by kernel_rfl)) ?_
  simp only [lcOf,Go.Proofs.Tryz.func5,Go.Proofs.Tryz.f5,liteF]
  conv in (occs:= *) opsL _ _ _=>all_goals cbv
  conv in ntOf _ _=>cbv
  conv in rsOf _ _=>cbv
  simp only [RN,Nat.reduceAdd,Nat.reduceSub]
  simp (disch:=omega) only [↓RS,RZ,simprocAttr,pgV,hsV,rpsV,ptV]
  refine cX f ?_
  simp (disch:=omega) only [↓RS,RZ,simprocAttr]
  refine cX aw ?_
  simp (disch:=omega) only [↓RS,RZ,simprocAttr]
 |true=>
 cases hg:greatL [q] with
 |true=>
  rw [hg] at g
  refine PC_intro mixed (FnD.of (by kernel_rfl)) ?_
  simp only [lcOf,Go.Proofs.Tryz.func5,Go.Proofs.Tryz.f5,liteF]
  conv in (occs:= *) opsL _ _ _=>all_goals cbv
  conv in ntOf _ _=>cbv
  conv in rsOf _ _=>cbv
  simp only [RN,Nat.reduceAdd,Nat.reduceSub]
  simp (disch:=omega) only [↓RS,RZ,simprocAttr,pgV,hsV,rpsV,ptV]
  refine cX f ?_
  simp (disch:=omega) only [↓RS,RZ,simprocAttr]
  refine cX g ?_
  simp (disch:=omega) only [↓RS,RZ,simprocAttr]
  refine cX aw ?_
  simp (disch:=omega) only [↓RS,RZ,simprocAttr]
 |false=>
 rw [hg] at g
 have hle:=greatL_le hg q (by simp)
 have vc:=vcheck_pc q.x q.y ⟨by have:=hle.1.1;omega,by have:=hle.1.2;omega⟩ ⟨by have:=hle.2.1;omega,by have:=hle.2.2;omega⟩
 by_cases hc:q.x=can q.x.val∧q.y=can q.y.val
 ·rw [if_pos hc] at vc
  obtain ⟨hf,hn12⟩:=hb rfl
  have T:=hf.triang hn12
  have hx:ht q.x.val≤2^16:=by have:=hle.1;rw [hc.1] at this;exact ht_of_le this (by omega)
  have hy:ht q.y.val≤2^16:=by have:=hle.2;rw [hc.2] at this;exact ht_of_le this (by omega)
  have hQ:hp ⟨q.x.val,q.y.val⟩≤2^16:=hp_mk hx hy
  have g:PC prog 29 [.lst 6 [rpc q]] (.prim (.bool false)):=g
  have eq:rpc q=pc ⟨q.x.val,q.y.val⟩:=by
   have:=ptV_can hc
   simpa [ptV,pV,rpc,pc] using this
  rw [eq] at g
  have hI:=fun p h=>InsideP_pc hf p h
  rw [hf.val,ptV_can hc] at*
  clear hb hf hc hx hy hle hg eq hr hq hn12
  generalize hs.map pts=Hs at*
  generalize pts O=L at*
  generalize (⟨q.x.val,q.y.val⟩:Pt)=Q at*
  have i1:=hI Q (by omega)
  have hP:=points T.v Q
  have hin:=fun t ht=>midT_in T.v (t:=t) ht
  have hne:=trisP_ne T.v
  have h50:=trisP_few T.v T.few
  have hht:∀ t∈trisP L Hs,ht3 t≤2^16:=fun t ht=>by
   have k:=(build_inTri T.v ht).tr
   have hlC:=hl_corners T.v.rgs (Hs.length+1) (Nat.le_refl _)
   exact ht3_mk (hlC _ k.mp) (hlC _ k.mq) (hlC _ k.mr)
  have bb:=T.b
  have hperm:=srtT_perm (trisP L Hs)
  generalize trisP L Hs=Tr at*
  generalize hSd:srtT Tr=S at*
  have hSl:S.length=Tr.length:=hperm.length_eq
  have hSm:∀ t,t∈S↔t∈Tr:=fun t=>hperm.mem_iff
  have hS0:0<S.length:=by rw [hSl];exact List.length_pos_iff.2 hne
  obtain ⟨i,hi,hie⟩:=idx_lt S.length (fun i=>decide (0≤insideT (S.getD i tr0) Q)) hS0
  have lc:=locate_pc S Q (i:Int) hie.symm (by omega) (fun t ht=>Nat.le_trans (hht t ((hSm t).1 ht)) (by omega)) (by omega)
  have hfound:(0≤idxP S.length fun i=>decide (0≤insideT (S.getD i tr0) Q))↔0≤whereS L Hs Q:=by
   rw [idx_any,hP]
   constructor
   ·rintro ⟨j,hj,hp⟩
    refine ⟨S.getD j tr0,(hSm _).1 ?_,of_decide_eq_true hp⟩
    rw [List.getD_eq_getElem?_getD,List.getElem?_eq_getElem hj];exact List.getElem_mem hj
   ·rintro ⟨t,ht,hp⟩
    obtain ⟨j,hj,rfl⟩:=List.mem_iff_getElem.1 ((hSm t).2 ht)
    exact ⟨j,hj,decide_eq_true (by rw [List.getD_eq_getElem?_getD,List.getElem?_eq_getElem hj];exact hp)⟩
  have hgm:S.getD i tr0∈Tr:=(hSm _).1 (by rw [List.getD_eq_getElem?_getD,List.getElem?_eq_getElem hi];exact List.getElem_mem hi)
  have gi:=trs_getD hi
  have hlen:(S.map trc).length=S.length:=List.length_map ..
  have h3:=hht _ hgm
  have hmid:=hin _ hgm
  generalize S.getD i tr0=t at*
  have a1:=ht3_a t;have a2:=ht3_b t;have a3:=ht3_c t
  have m1:=halfway_pc t.a t.b (by omega) (by omega)
  have hh:ht (1/2)≤3:=by have:=ht_div 1 2;have:=ht_two;have e:ht 1≤1:= @ht_int 1 (by omega);omega
  have b1:=hp_add t.a t.b
  have b2:=hp_smul (t.a.add t.b) (1/2)
  have b3:=hp_add ((t.a.add t.b).smul (1/2)) t.c
  have b4:=hp_smul (((t.a.add t.b).smul (1/2)).add t.c) (1/2)
  have m2:=halfway_pc ((t.a.add t.b).smul (1/2)) t.c (by omega) (by omega)
  have i2:=hI ((((t.a.add t.b).smul (1/2)).add t.c).smul (1/2)) (by omega)
  have hmid:whereS L Hs ((((t.a.add t.b).smul (1/2)).add t.c).smul (1/2))=1:=hmid
  rw [hmid] at i2
  generalize ((((t.a.add t.b).smul (1/2)).add t.c).smul (1/2))=M2 at*
  generalize ((t.a.add t.b).smul (1/2))=M1 at*
  generalize idxP S.length (fun i=>decide (0≤insideT (S.getD i tr0) Q))=ix at*
  generalize whereS L Hs Q=z at*
  clear hI hP hin hht hne h50 hperm hSm hie hmid T
  by_cases hz:0≤z
  ·rw [decide_eq_true (hfound.2 hz)] at lc
   refine PC_intro mixed (FnD.of (by kernel_rfl)) ?_
   simp only [lcOf,Go.Proofs.Tryz.func5,Go.Proofs.Tryz.f5,liteF]
   conv in (occs:= *) opsL _ _ _=>all_goals cbv
   conv in ntOf _ _=>cbv
   conv in rsOf _ _=>cbv
   simp only [RN,Nat.reduceAdd,Nat.reduceSub]
   simp (disch:=omega) only [↓RS,RZ,simprocAttr,cgV,psV,pV,ptV]
   refine cX f ?_
   simp (disch:=omega) only [↓RS,RZ,simprocAttr,cgV,psV,pV,ptV]
   refine cX g ?_
   simp (disch:=omega) only [↓RS,RZ,simprocAttr,cgV,psV,pV,ptV]
   refine cX vc ?_
   simp (disch:=omega) only [↓RS,RZ,simprocAttr,cgV,psV,pV,ptV]
   refine cX bb ?_
   simp (disch:=omega) only [↓RS,RZ,simprocAttr,tsV,cgV,psV,pV,ptV]
   refine cX lc ?_
   simp (disch:=omega) only [↓RS,RZ,simprocAttr,tsV,cgV,psV,pV,ptV]
   refine cX i1 ?_
   simp (disch:=omega) only [↓RS,RZ,simprocAttr,tsV,hlen,gi,trc,eqA_b]
   refine cX m1 ?_
   simp (disch:=omega) only [↓RS,RZ,simprocAttr,pV,ptV,trc]
   refine cX m2 ?_
   simp (disch:=omega) only [↓RS,RZ,simprocAttr,cgV,psV,pV,ptV]
   refine cX i2 ?_
   simp (disch:=omega) only [↓RS,RZ,simprocAttr]
   refine cX aw ?_
   simp (disch:=omega) only [↓RS,RZ,simprocAttr]
  ·rw [decide_eq_false (fun k=>hz (hfound.1 k))] at lc
   refine PC_intro mixed (FnD.of (by kernel_rfl)) ?_
   simp only [lcOf,Go.Proofs.Tryz.func5,Go.Proofs.Tryz.f5,liteF]
   conv in (occs:= *) opsL _ _ _=>all_goals cbv
   conv in ntOf _ _=>cbv
   conv in rsOf _ _=>cbv
   simp only [RN,Nat.reduceAdd,Nat.reduceSub]
   simp (disch:=omega) only [↓RS,RZ,simprocAttr,cgV,psV,pV,ptV]
   refine cX f ?_
   simp (disch:=omega) only [↓RS,RZ,simprocAttr,cgV,psV,pV,ptV]
   refine cX g ?_
   simp (disch:=omega) only [↓RS,RZ,simprocAttr,cgV,psV,pV,ptV]
   refine cX vc ?_
   simp (disch:=omega) only [↓RS,RZ,simprocAttr,cgV,psV,pV,ptV]
   refine cX bb ?_
   simp (disch:=omega) only [↓RS,RZ,simprocAttr,tsV,cgV,psV,pV,ptV]
   refine cX lc ?_
   simp (disch:=omega) only [↓RS,RZ,simprocAttr,tsV,cgV,psV,pV,ptV]
   refine cX i1 ?_
   simp (disch:=omega) only [↓RS,RZ,simprocAttr,tsV,hlen,gi,trc,eqA_b]
   refine cX m1 ?_
   simp (disch:=omega) only [↓RS,RZ,simprocAttr,pV,ptV,trc]
   refine cX m2 ?_
   simp (disch:=omega) only [↓RS,RZ,simprocAttr,cgV,psV,pV,ptV]
   refine cX i2 ?_
   simp (disch:=omega) only [↓RS,RZ,simprocAttr]
   refine cX aw ?_
   simp (disch:=omega) only [↓RS,RZ,simprocAttr]
 ·rw [if_neg hc] at vc
  have g:PC prog 29 [.lst 6 [rpc q]] (.prim (.bool false)):=g
  refine PC_intro mixed (FnD.of (by kernel_rfl)) ?_
  simp only [lcOf,Go.Proofs.Tryz.func5,Go.Proofs.Tryz.f5,liteF]
  conv in (occs:= *) opsL _ _ _=>all_goals cbv
  conv in ntOf _ _=>cbv
  conv in rsOf _ _=>cbv
  simp only [RN,Nat.reduceAdd,Nat.reduceSub]
  simp (disch:=omega) only [↓RS,RZ,simprocAttr,pgV,hsV,rpsV,ptV]
  refine cX f ?_
  simp (disch:=omega) only [↓RS,RZ,simprocAttr,rpc]
  refine cX g ?_
  simp (disch:=omega) only [↓RS,RZ,simprocAttr]
  refine cX vc ?_
  simp (disch:=omega) only [↓RS,RZ,simprocAttr]
  refine cX aw ?_
  simp (disch:=omega) only [↓RS,RZ,simprocAttr]
end Go.Av
