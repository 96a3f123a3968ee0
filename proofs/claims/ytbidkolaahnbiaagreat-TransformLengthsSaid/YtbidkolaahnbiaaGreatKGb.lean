/- Helping texts: Gb, Gc. -/
import Derived.Test.YtbidkolaahnbiaaGreatKFh
import Derived.Test.YtbidkolaahnbiaaGreatKMh
set_option linter.unusedSimpArgs false
set_option linter.unusedVariables false
set_option maxRecDepth 100000
set_option maxHeartbeats 16000000
namespace Go.Av
open Go.RowKit
open Go.Proofs.Tryz (prog)
def Frz (K:V→Hp→Prop) (r:V) (H':Hp):Prop:=∃ b sz es u,get H' b=some (.row sz true es)∧view ((List.replicate H'.length none).set b (some (.row sz true es))) 9 r=some u∧K u (H'.set b none)
theorem SC_frozen {P:Program} {H:Hp} {f:FuncId} {args:List V} {K:V→Hp→Prop} (h:SC P f args H (Frz K)):SC P f args H K:=by
 intro φ I w xs hS hxs
 obtain ⟨h1,h2⟩:=h φ I w xs hS hxs
 refine ⟨h1,h2.mono ?_⟩
 rintro e w' ⟨x,r,H',φ',I',rfl,⟨b,sz,es,u,hb,hv,hK⟩,hx,hS',hst⟩
 have hbl:=get_lt hb
 have gM:∀ c k,get ((List.replicate H'.length none).set b (some (.row sz true es))) c=some k→c=b∧k= .row sz true es:=by
  intro c k h
  unfold get at h
  rw [List.getElem?_set] at h
  split at h
  ·rename_i e
   rw [if_pos (by rw [List.length_replicate];exact hbl)] at h
   exact ⟨e.symm,by cases h;rfl⟩
  ·rw [List.getElem?_replicate] at h
   split at h<;>cases h
 have hM:SR φ' I' ((List.replicate H'.length none).set b (some (.row sz true es))) w':=by
  refine ⟨fun c L h=>⟨by simpa using (hS'.dom c L h).1,(hS'.dom c L h).2⟩,hS'.imm,fun c L k h hk=> ?_,fun c c' L L' k k' _ _ h3 h4 _ _ _=> ?_⟩
  ·obtain ⟨rfl,rfl⟩:=gM c k hk
   exact hS'.blk c L _ h hb
  ·rw [(gM c k h3).1,(gM c' k' h4).1]
 have key:∀ J:Nat→Prop,SR φ' J (H'.set b none) w'→Step φ' I' H' w' φ' J (H'.set b none) w'→(∀ B,I' B→J B)→(∀ L,φ' b=some L→J L.B)→Ends φ I H w K (.returned x) w':=by
  intro J hJ hst2 hIJ hJb
  refine ⟨x,u,H'.set b none,φ',J,rfl,hK,?_,hJ,hst.trans hst2⟩
  refine (view_VR hIJ hM 9 r u x hv hx (.inr fun c L k h hk=> ?_)).any
  obtain ⟨rfl,_⟩:=gM c k hk
  exact hJb L h
 cases hφ:φ' b with
 |none=>
  have hse:H'.set b none=setH H' b none:=(setH_lt _ hbl).symm
  obtain ⟨k1,k2⟩:=hS'.kill hbl
  rw [←hse] at k1 k2
  exact key I' k1 k2 (fun _ h=>h) (fun L h=>by rw [hφ] at h;cases h)
 |some L=>
  obtain ⟨k1,k2⟩:=hS'.freeze hφ hb
  exact key _ k1 k2 (fun _ h=> .inl h) (fun L' h=>by rw [hφ] at h;cases h;exact .inr rfl)
theorem view_rows {n b k sz:Nat} {fx:Bool} {es:List (List V)} (hb:b<n) (hk:es.length=k) (hp:Prims es):view ((List.replicate n none).set b (some (.row sz true es))) 9 (.sref b 0 k k sz fx)=some (.lst sz es):=by
 have g:get ((List.replicate n (none:Option Blk)).set b (some (.row sz true es))) b=some (.row sz true es):=get_eq (by rw [List.length_replicate];exact hb)
 have k3:= @viewLL_prims ((List.replicate n (none:Option Blk)).set b (some (.row sz true es))) 7 es hp
 have k2:es.take k=es:=by rw [List.take_of_length_le (by omega)]
 simp only [view,g,Nat.zero_add,hk,Nat.le_refl,if_true,List.drop_zero,k2,k3,Option.map_some]
def MapsTo (F:FuncId) (caps:List V) (g:Pt→Pt) (D:Pt→Prop) (H:Hp):Prop:=
 ∀ H',Ext H H'→∀ q,D q→∀ K:V→Hp→Prop,(∀ H'',Ext H' H''→K (pV (g q)) H'')→SC prog F (pV q::caps) H' K
theorem pts_getD {l:List Pt} {i:Nat} (h:i<l.length):(l.map pc).getD i []=pc (l.getD i default):=by
 rw [List.getD_eq_getElem?_getD,pcr_get h];rfl
theorem ring_sc (l:List Pt) (hne:l≠[]) (hn:l.length≤2^20) {F:FuncId} {caps:List V} {g:Pt→Pt} {D:Pt→Prop} {bf:Nat} {H:Hp} {K:V→Hp→Prop} (hb:get H bf=some (.row 1 true [[.clo F [] caps]]))
 (hF:MapsTo F caps g D H) (hD:∀ p∈l,D p) (hK:∀ H',Ext H H'→K (psV (l.map g)) H'):SC prog 169 [psV l,.ptr bf 0 0] H K:=by
 refine SC_frozen ?_
 have hlm:(l.map pc).length=l.length:=List.length_map ..
 refine SCi ?_
 conv in trip _ _=>cbv
 simp only [runT,RN,simprocAttr]
 simp (disch:=omega) only [↓RS,RZ,simprocAttr,psV,hlm]
 refine wp_lp (fun (s:Nat×V) J=>ov [(0,.lst 6 (l.map pc)),(1,.ptr bf 0 0),(3,.prim (.slice none 0 0)),(4,s.2),(7,.lst 6 (l.map pc)),(8,.prim (.int .i64 ((l.length:Nat):Int))),(9,.prim (.int .i64 ((s.1:Nat):Int)))] J 0 21) (fun s H1=>s.1≤l.length∧Ext H H1∧Bufn H.length H1 s.2 6 ((l.take s.1).map fun p=>pc (g p))) (fun s=>l.length-s.1) (0,.prim (.slice none 0 0)) rfl ⟨Nat.zero_le _,Ext.refl,.nil (Nat.le_refl _)⟩ ?_
 rintro ⟨i,v⟩ J H1 ⟨hi,hE,hB⟩
 try conv in ov _ _ _ _=>simp only [ov,List.lookup,RO,simprocAttr]
 simp only at hi hE hB ⊢
 have d1:=hB.one
 have d2:=hB.cel
 rcases Nat.lt_or_ge i l.length with hlt|hge
 ·have q:=pts_getD hlt
  have hm:l.getD i default∈l:=by rw [List.getD_eq_getElem?_getD,List.getElem?_eq_getElem hlt];exact List.getElem_mem hlt
  have hb1:∀ x,get (H1++[x]) bf=some (.row 1 true [[.clo F [] caps]]):=fun x=>get_app (hE.get hb)
  have htl:(l.take i).length=i:=by rw [List.length_take];omega
  simp (disch:=omega) only [↓RS,RZ,simprocAttr,hlm,q,pc,set_app_len,get_app_len,hb1]
  refine call_sc (hF _ (hE.trans (Ext.app _)) (l.getD i default) (hD _ hm) _ ?_)
  intro H2 hE2
  have hB2:Bufn H.length H2 v 6 ((l.take i).map fun p=>pc (g p)):=hE2.buf (hB.app _)
  simp (disch:=omega) only [↓RS,RZ,simprocAttr,pV,ptV,d1,d2]
  refine Bufn.append (hB2.app _) (by simp [cellV]) (by simp only [List.length_cons,List.length_nil,List.length_map,htl];omega) (by simp only [List.length_cons,List.length_nil,List.length_map,htl];omega) ?_
  intro v' H3 hb3 hk
  have e1:=hb3.one
  have e2:=hb3.cel
  simp (disch:=omega) only [↓RS,RZ,simprocAttr,e1,e2]
  have hE3:Ext H H3:=⟨hb3.1,fun {c k} h=>hk _ _ (get_lt_len h) (get_app (hE2.get (get_app (hE.get h))))⟩
  refine lp_next (i+1,v') rfl ⟨hlt,hE3,?_⟩ (by simp only;omega)
  have e:(l.take (i+1)).map (fun p=>pc (g p))=(l.take i).map (fun p=>pc (g p))++[pc (g (l.getD i default))]:=by
   rw [List.take_add_one,List.getElem?_eq_getElem hlt,List.map_append,List.getD_eq_getElem?_getD,List.getElem?_eq_getElem hlt];rfl
  show Bufn H.length H3 v' 6 ((l.take (i+1)).map fun p=>pc (g p))
  rw [e]
  exact hb3
 ·have hia:i=l.length:=by omega
  subst hia
  rw [List.take_of_length_le (Nat.le_refl _)] at hB
  have hml:(l.map fun p=>pc (g p)).length=l.length:=List.length_map ..
  obtain ⟨b,hbn,rfl,hgb⟩:=hB.cases (by intro e;rw [e] at hml;exact hne (List.length_eq_zero_iff.1 hml.symm))
  have hbl:=get_lt_len hgb
  rw [hml]
  simp (disch:=omega) only [↓RS,RZ,simprocAttr,hlm]
  have em:l.map (fun p=>pc (g p))=(l.map g).map pc:=by rw [List.map_map];rfl
  rw [em] at hgb hml
  refine ⟨b,6,(l.map g).map pc,_,hgb,view_rows hbl hml (pc_prims _),?_⟩
  exact hK _ ⟨by rw [List.length_set];exact hE.len,fun {c k} h=>by
   have:=get_lt_len h
   rw [get_ne (by omega)];exact hE.get h⟩
end Go.Av
namespace Go.Av
open Go.RowKit
open Go.Proofs.Tryz (prog)
theorem Fits.can {t:Aff} {L:List Pt} {Hs:List (List Pt)} (hf:Fits t L Hs) (ht:t.det≠0) (hv:Valid L Hs):∀ l∈(L.map t.ap)::(Hs.map fun l=>l.map t.ap),Can l:=by
 have key:∀ l,l∈L::Hs→Ring l→Can (l.map t.ap):=fun l hl hr=>by
  have g:=hr.good.map ht
  exact ⟨g.lo,by rw [List.length_map];exact hr.hi,hf l hl,g.keep,g.crossB⟩
 intro l hl
 rcases List.mem_cons.1 hl with rfl|hl
 ·exact key L (List.mem_cons_self ..) hv.out
 ·obtain ⟨h,hh,rfl⟩:=List.mem_map.1 hl
  exact key h (List.mem_cons_of_mem _ hh) (hv.holes h hh)
theorem mapped_canon {t:Aff} {L:List Pt} {Hs:List (List Pt)} (hv:Valid L Hs) (h3:Hs.length≤3) (ht:Par t) (hf:Fits t L Hs):
 PC prog 72 [cgV (L.map t.ap) (Hs.map fun l=>l.map t.ap)] (.tup [cgV (imgL t L) (imgH t Hs),.prim (.int .i64 (0))]):=by
 have e:(Hs.map fun l=>l.map t.ap).map canonL=Hs.map (imgL t):=by rw [List.map_map];rfl
 exact PCanon_pc (L.map t.ap) (Hs.map fun l=>l.map t.ap) (by rw [List.length_map];omega) (hf.can ht.1 hv) (imgH t Hs) (by
  rw [e,List.length_map]
  unfold imgH sortH
  rw [List.length_map]) (hv.img h3 ht hf).check_pc
theorem mapped_sc {L:List Pt} {Hs:List (List Pt)} (hv:Valid L Hs) (h3:Hs.length≤3) {t:Aff} (ht:Par t) (hf:Fits t L Hs) {F:FuncId} {caps:List V} {B:List Nat} {H:Hp} {K:V→Hp→Prop}
 (hB:∀ H',Ext H H'→caps.flatMap (touch H' 7)=B) (hin:∀ b∈B,∃ k,get H b=some k) (hF:∀ H',H.length≤H'.length→(∀ b∈B,get H' b=get H b)→MapsTo F caps t.ap (fun q=>hp q≤2^16) H')
 (hK:∀ H',Ext H H'→K (.tup [cgV (imgL t L) (imgH t Hs),.prim (.int .i64 (0))]) H'):
 SC prog 81 [cgV L Hs,.prim (.bool true),.clo F [] caps] H K:=by
 have hlt:∀ b∈B,b<H.length:=fun b hb=>by obtain ⟨k,hk⟩:=hin b hb;exact get_lt_len hk
 have ck:=hv.check_pc
 have cn:=mapped_canon hv h3 ht hf
 have hlo:=hv.out.lo
 have hhi:=hv.out.hi
 have hle:L.map t.ap≠[]:=fun e=>hv.out.ne (List.map_eq_nil_iff.1 e)
 refine SCi ?_
 conv in trip _ _=>cbv
 simp only [runT,RN,simprocAttr]
 simp (disch:=omega) only [↓RS,RZ,simprocAttr,cgV,psV,get_app_len3,get_app_len2]
 refine cX ck ?_
 simp (disch:=omega) only [↓RS,RZ,simprocAttr,get_app_len3,get_app_len2]
 refine call_sc (ring_sc L hv.out.ne (by omega) get_app_len2 (hF _ (by simp only [List.length_append];omega) (fun b hb=>get_app3 (hlt b hb))) (fun p hp=>hv.out.ht p hp) ?_)
 intro H4 hE4
 have hE:Ext H H4:=(((Ext.app _).trans (Ext.app _)).trans (Ext.app _)).trans hE4
 have e0:=hE4.get get_app_len3
 have e1:=hE4.get get_app_len2
 have e2:=hE4.get get_app_len
 have hl4:=hE4.len
 clear hE4
 simp only [List.length_append,List.length_cons,List.length_nil,Nat.zero_add,Nat.add_assoc,Nat.reduceAdd] at e0 e1 e2 hl4 ⊢
 have k0:∀ x,get (H4++[x]) H.length=_:=fun x=>get_app e0
 have k1:∀ x,get (H4++[x]) (H.length+1)=_:=fun x=>get_app e1
 have k2:∀ x,get (H4++[x]) (H.length+2)=_:=fun x=>get_app e2
 simp (disch:=omega) only [↓RS,RZ,simprocAttr,k0,psV,set_app_len,get_app_len,one_length,pgs_length]
 clear k0 k1 k2
 refine wp_lp (fun (s:Nat×V) J=>ov [(3,.ptr H.length 0 0),(5,.ptr (H.length+1) 0 0),(6,.ptr (H.length+2) 0 0),(7,.prim (.int .i64 (0))),(8,.clo 169 [] [.ptr (H.length+1) 0 0]),(9,.ptr H4.length 0 0),(27,.lst 1 ((Hs.map psV).map fun v=>[v])),(28,.prim (.int .i64 ((Hs.length:Nat):Int))),(29,.prim (.int .i64 ((s.1:Nat):Int)))] J 0 46)
  (fun s H5=>s.1≤Hs.length∧NilTo (s.1+1) s.2∧Ext H H5∧get H5 (H.length+1)=some (.row 1 true [[.clo F [] caps]])∧get H5 (H.length+2)=some (.row 2 true [[.prim (.slice none 0 0),.prim (.slice none 0 0)]])
   ∧get H5 H4.length=some (.row 2 true [[.lst 6 ((L.map t.ap).map pc),s.2]])∧Bufn (H4.length+1) H5 s.2 1 (((Hs.take s.1).map fun l=>l.map t.ap).map hcel)) (fun s=>Hs.length-s.1) (0,.prim (.slice none 0 0)) rfl
   ⟨Nat.zero_le _,fun _=>rfl,hE.trans (Ext.app _),get_app e1,get_app e2,get_app_len,.nil (by rw [List.length_append];simp)⟩ ?_
 rintro ⟨i,v⟩ J H5 ⟨hi,hnil,hE5,g1,g2,g4,hBf⟩
 try conv in ov _ _ _ _=>simp only [ov,List.lookup,RO,simprocAttr]
 simp only at hi hnil hE5 g1 g2 g4 hBf ⊢
 have hN:=hBf.1
 have d1:=hBf.one
 have d2:=hBf.cel
 have hBt:=hB H5 hE5
 rcases Nat.lt_or_ge i Hs.length with hlt'|hge
 ·have g:=pg_getD hlt'
  have hm:Hs.getD i []∈Hs:=by rw [List.getD_eq_getElem?_getD,List.getElem?_eq_getElem hlt'];exact List.getElem_mem hlt'
  have hr:=hv.holes _ hm
  have hrlo:=hr.lo
  have hrhi:=hr.hi
  have a1:(B.any fun b=>b==H4.length)=false:=by
   rw [List.any_eq_false];intro b hb;have:=hlt b hb;simp;omega
  have a2:(H.length+1==H4.length)=false:=by rw [beq_eq_false_iff_ne];omega
  have a3:(H5.length==H4.length)=false:=by rw [beq_eq_false_iff_ne];omega
  have qc:QC prog 169 [.lst 6 ((Hs.getD i []).map pc),.ptr (H.length+1) 0 0] H5 (psV ((Hs.getD i []).map t.ap)) none ([V.lst 6 ((Hs.getD i []).map pc),.ptr (H.length+1) 0 0].flatMap (touch H5 9)):=by
   intro H0 h0
   have hmem:∀ b,b=H.length+1∨b∈B→b∈[V.lst 6 ((Hs.getD i []).map pc),.ptr (H.length+1) 0 0].flatMap (touch H5 9):=by
    intro b hb
    have e:[V.lst 6 ((Hs.getD i []).map pc),.ptr (H.length+1) 0 0].flatMap (touch H5 9)=(H.length+1)::B:=by
     simp only [List.flatMap_cons,List.flatMap_nil,touch_lst,touch_ptr,g1,touchB_row,List.getD_cons_zero,touch_clo,hBt,List.nil_append,List.append_nil]
    rw [e]
    rcases hb with rfl|hb
    ·exact List.mem_cons_self ..
    ·exact List.mem_cons_of_mem _ hb
   have q1:get H0 (H.length+1)=some (.row 1 true [[.clo F [] caps]]):=by rw [h0 _ (hmem _ (.inl rfl))];exact g1
   have ql:=get_lt_len q1
   refine ring_sc (Hs.getD i []) hr.ne (by omega) q1 (hF _ (by omega) fun b hb=> ?_) (fun p hp=>hr.ht p hp) (fun H' hE'=>⟨rfl,fun c k h=>hE'.get h⟩)
   rw [h0 _ (hmem _ (.inr hb))]
   obtain ⟨k,hk⟩:=hin b hb
   rw [hk];exact hE5.get hk
  simp (disch:=omega) only [↓RS,RZ,simprocAttr,one_length,pgs_length,g,psV,g4,d1,d2,g1,hBt,a1,a2,a3]
  refine callD_qc _ none ⟨rfl,trivial⟩ qc ?_
  simp (disch:=omega) only [↓RS,RZ,simprocAttr,setO,psV,a3]
  have htl:(Hs.take i).length=i:=by rw [List.length_take];omega
  refine Bufn.append (hBf.app _) (by simp [cellV]) (by simp only [List.length_cons,List.length_nil,List.length_map,htl];omega) (by simp only [List.length_cons,List.length_nil,List.length_map,htl];omega) ?_
  intro v' H6 hb hk
  have r1:=hk _ _ (by omega) (get_app g1)
  have r2:=hk _ _ (by omega) (get_app g2)
  have r4:=hk _ _ (by omega) (get_app g4)
  have f1:=hb.one
  have f2:=hb.cel
  have hl6:=hb.1
  simp (disch:=omega) only [↓RS,RZ,simprocAttr,r4,f1,f2]
  refine lp_next (i+1,v') rfl ⟨hlt',fun h=>absurd h (by simp only;omega),?_,?_,?_,?_,?_⟩ (by simp only;omega)
  ·refine ⟨by rw [List.length_set];omega,fun {c k} h=> ?_⟩
   have:=get_lt_len h
   rw [get_ne (by omega)]
   exact hk _ _ (by omega) (get_app (hE5.get h))
  ·rw [get_ne (by omega)];exact r1
  ·rw [get_ne (by omega)];exact r2
  ·rw [get_eq (by omega)]
  ·have e:((Hs.take (i+1)).map fun l=>l.map t.ap).map hcel=((Hs.take i).map fun l=>l.map t.ap).map hcel++[[.lst 6 (((Hs.getD i []).map t.ap).map pc)]]:=by
    rw [List.take_add_one,List.getElem?_eq_getElem hlt',List.map_append,List.map_append,List.getD_eq_getElem?_getD,List.getElem?_eq_getElem hlt'];rfl
   show Bufn (H4.length+1) _ v' 1 (((Hs.take (i+1)).map fun l=>l.map t.ap).map hcel)
   rw [e]
   exact hb.set (by omega)
 ·have hia:i=Hs.length:=by omega
  subst hia
  rw [List.take_length] at hBf
  have hml:((Hs.map fun l=>l.map t.ap).map hcel).length=Hs.length:=by rw [List.length_map,List.length_map]
  by_cases hz:Hs=[]
  ·subst hz
   have hnil:=hnil (Nat.le_refl _)
   subst hnil
   have c3:PC prog 72 [.agg [psV (L.map t.ap),.prim (.slice none 0 0)]] (.tup [cgV (imgL t L) (imgH t []),.prim (.int .i64 (0))]):=PC_nilA cn
   have s2:∀ x,get (H5.set (H.length+2) x) (H.length+2)=x:=fun x=>get_eq (get_lt_len g2)
   simp (disch:=omega) only [↓RS,RZ,simprocAttr,one_length,pgs_length,g4,psV]
   refine cX c3 ?_
   have fin:=hK (H5.set (H.length+2) (some (.row 2 true [[psV (imgL t L),.lst 1 (((imgH t []).map psV).map fun v=>[v])]]))) ⟨by rw [List.length_set];exact hE5.len,fun {c k} h=>by
    have:=get_lt_len h
    rw [get_ne (by omega)];exact hE5.get h⟩
   simp only [cgV,psV] at fin
   simp (disch:=omega) only [↓RS,RZ,simprocAttr,cgV,psV,g2,s2]
   exact fin
  ·obtain ⟨b,hb,rfl,hgb⟩:=hBf.cases (by intro e;rw [e] at hml;exact hz (List.length_eq_zero_iff.1 hml.symm))
   rw [hml] at g4
   have ec:cgV (L.map t.ap) (Hs.map fun l=>l.map t.ap)= .agg [.lst 6 ((L.map t.ap).map pc),.lst 1 ((Hs.map fun l=>l.map t.ap).map hcel)]:=by
    unfold cgV;rw [List.map_map];rfl
   rw [ec] at cn
   generalize Hs.map (fun l=>l.map t.ap)=Y at*
   have hb2:=get_lt_len hgb
   simp (disch:=omega) only [↓RS,RZ,simprocAttr,one_length,pgs_length,g4]
   refine call_sc (SC_freeze1 hgb (view_Y hb2 hml) cn ?_)
   have p2:get (H5.set b none) (H.length+2)=some (.row 2 true [[.prim (.slice none 0 0),.prim (.slice none 0 0)]]):=by rw [get_ne (by omega)];exact g2
   have hE6:Ext H (H5.set b none):=⟨by rw [List.length_set];exact hE5.len,fun {c k} h=>by
    have:=get_lt_len h
    rw [get_ne (by omega)];exact hE5.get h⟩
   generalize H5.set b none=H6 at p2 hE6 ⊢
   have s2:∀ x,get (H6.set (H.length+2) x) (H.length+2)=x:=fun x=>get_eq (get_lt_len p2)
   have fin:=hK (H6.set (H.length+2) (some (.row 2 true [[psV (imgL t L),.lst 1 (((imgH t Hs).map psV).map fun v=>[v])]]))) ⟨by rw [List.length_set];exact hE6.len,fun {c k} h=>by
    have:=get_lt_len h
    rw [get_ne (by omega)];exact hE6.get h⟩
   simp only [cgV,psV] at fin
   simp (disch:=omega) only [↓RS,RZ,simprocAttr,cgV,psV,p2,s2]
   exact fin
end Go.Av
