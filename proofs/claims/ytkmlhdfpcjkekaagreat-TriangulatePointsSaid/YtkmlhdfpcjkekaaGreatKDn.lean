/- Helping texts: Dn, Do. -/
import Derived.Test.YtkmlhdfpcjkekaaGreatKDj
set_option linter.unusedSimpArgs false
set_option linter.unusedVariables false
set_option maxRecDepth 100000
set_option maxHeartbeats 16000000
namespace Go.Av
open Go.RowKit
open Go.Proofs.Tryz (prog)
def cgV (L:List Pt) (Hs:List (List Pt)):V:= .agg [psV L,.lst 1 ((Hs.map psV).map fun v=>[v])]
theorem rings_sc (A:V) (es:List V) {H:Hp} {K:V→Hp→Prop} (hK:K (.clo 186 [] [.ptr H.length 0 0]) (H++[some (.row 2 true [[A,.lst 1 (es.map fun v=>[v])]])])):
 SC prog 116 [.agg [A,.lst 1 (es.map fun v=>[v])]] H K:=by
 refine SCi ?_
 conv in trip _ _=>cbv
 simp only [runT,RN,simprocAttr]
 simp (disch:=omega) only [↓RS,RZ,simprocAttr]
 exact hK
theorem rings1_sc (A:V) (es:List V) (hn:es.length<2^40) {yb b:Nat} {H:Hp} {K:V→Hp→Prop} (Inv:Nat→Hp→Prop) (Fin:Hp→Prop)
 (hbox:∀ i H,Inv i H→get H b=some (.row 2 true [[A,.lst 1 (es.map fun v=>[v])]]))
 (step:∀ i H,i≤es.length→Inv i H→YC prog yb [.prim (.int .i64 ((i:Nat):Int)),(A::es).getD i undefV] H (yQ (Inv (i+1)) Fin))
 (h0:Inv 0 H) (hK:∀ v H,Inv (es.length+1) H→K v H) (hF:∀ v H,Fin H→K v H):SC prog 186 [.yld yb,.ptr b 0 0] H K:=by
 refine SCi ?_
 conv in trip _ _=>cbv
 simp only [runT,RN,simprocAttr]
 have hb:=hbox 0 H h0
 simp (disch:=omega) only [↓RS,RZ,simprocAttr,hb]
 refine YC.mono ?_ (step 0 _ (Nat.zero_le _) h0)
 rintro v H1 (⟨rfl,h⟩|⟨rfl,h⟩)
 ·have hb:=hbox _ H1 h
  simp (disch:=omega) only [↓RS,RZ,simprocAttr,hb,one_length]
  refine wp_lp (fun (i:Nat) J=>ov [(0,.yld yb),(1,.ptr b 0 0),(11,.lst 1 (es.map fun v=>[v])),(12,.prim (.int .i64 ((es.length:Nat):Int))),(13,.prim (.int .i64 ((i:Nat):Int)))] J 0 25) (fun i H=>i≤es.length∧Inv (i+1) H) (fun i=>es.length-i) 0 rfl ⟨Nat.zero_le _,h⟩ ?_
  rintro i J H ⟨hi,hv⟩
  try conv in ov _ _ _ _=>simp only [ov,List.lookup,RO,simprocAttr]
  rcases Nat.lt_or_ge i es.length with hlt|hge
  ·have g:=one_getD hlt
   have st:=step (i+1) _ hlt hv
   simp (disch:=omega) only [↓RS,RZ,simprocAttr,one_length,g]
   refine YC.mono ?_ st
   rintro v H' (⟨rfl,h⟩|⟨rfl,h⟩)
   ·simp (disch:=omega) only [↓RS,RZ,simprocAttr]
    exact lp_next (i+1) rfl ⟨hlt,h⟩ (by omega)
   ·simp (disch:=omega) only [↓RS,RZ,simprocAttr]
    exact hF _ _ h
  ·have hia:i=es.length:=by omega
   subst hia
   simp (disch:=omega) only [↓RS,RZ,simprocAttr,one_length]
   exact hK _ _ hv
 ·simp (disch:=omega) only [↓RS,RZ,simprocAttr]
  exact hF _ _ h
structure Rgs (L:List Pt) (Hs:List (List Pt)):Prop where
 out:Ring L
 holes:∀ h∈Hs,Ring h
 few:Hs.length≤8
theorem Rgs.get {L:List Pt} {Hs:List (List Pt)} (h:Rgs L Hs) {i:Nat} (hi:i≤Hs.length):Ring ((L::Hs).getD i []):=by
 cases i with
 |zero=>exact h.out
 |succ i=>
  rw [List.getD_cons_succ,List.getD_eq_getElem?_getD,List.getElem?_eq_getElem hi]
  exact h.holes _ (List.getElem_mem hi)
theorem ring_val {L:List Pt} {Hs:List (List Pt)} {i:Nat} (hi:i≤Hs.length):(psV L::Hs.map psV).getD i undefV=psV ((L::Hs).getD i []):=by
 cases i with
 |zero=>rfl
 |succ i=>
  rw [List.getD_cons_succ,List.getD_cons_succ,List.getD_eq_getElem?_getD,List.getD_eq_getElem?_getD,List.getElem?_map,List.getElem?_eq_getElem hi];rfl
def cornersTo (Ls:List (List Pt)):Nat→List Pt
 |0=>[]
 |i+1=>cornersTo Ls i++Ls.getD i []
def edgesTo (Ls:List (List Pt)):Nat→List Sg
 |0=>[]
 |i+1=>edgesTo Ls i++edgesL (Ls.getD i [])
theorem cornersTo_le {L:List Pt} {Hs:List (List Pt)} (h:Rgs L Hs):∀ i,i≤Hs.length+1→(cornersTo (L::Hs) i).length≤i*64∧(edgesTo (L::Hs) i).length=(cornersTo (L::Hs) i).length
 |0,_=>by simp [cornersTo,edgesTo]
 |i+1,hi=>by
  obtain ⟨h1,h2⟩:=cornersTo_le h i (by omega)
  have:=(h.get (i:=i) (by omega)).hi
  simp only [cornersTo,edgesTo,List.length_append,edgesL_length]
  omega
theorem pc_prims (l:List Pt):Prims (l.map pc):=by
 intro e he v hv
 obtain ⟨s,_,rfl⟩:=List.mem_map.1 he
 simp only [pc,List.mem_cons,List.not_mem_nil,or_false] at hv
 rcases hv with h|h|h|h|h|h<;>exact ⟨_,h⟩
theorem prims_cell {es:List (List V)} (h:Prims es):∀ y∈es,∀ v∈y,cellV v=true:=fun y hy v hv=>by
 obtain ⟨x,rfl⟩:=h y hy v hv;rfl
theorem cornersTo_ne {L:List Pt} {Hs:List (List Pt)} (h:Rgs L Hs):∀ i,cornersTo (L::Hs) (i+1)≠[]
 |0=>by simp only [cornersTo,List.nil_append];exact h.out.ne
 |i+1=>by
  rw [cornersTo]
  intro e
  exact cornersTo_ne h i (List.append_eq_nil_iff.1 e).1
theorem corners_pc (L:List Pt) (Hs:List (List Pt)) (hg:Rgs L Hs):PC prog 54 [cgV L Hs] (psV (cornersTo (L::Hs) (Hs.length+1))):=by
 have hf:=hg.few
 refine PCi ?_
 conv in trip _ _=>cbv
 simp only [runT,RN,simprocAttr]
 simp (disch:=omega) only [↓RS,RZ,simprocAttr,cgV]
 refine call_sc (rings_sc (psV L) (Hs.map psV) ?_)
 simp (disch:=omega) only [↓RS,RZ,simprocAttr]
 refine wp_rf mixed (n:=3) (k:=2) rfl rfl rfl (by kernel_rfl) ?_
 conv in lcC _=>cbv
 conv in lcC _=>cbv
 intro R B D hR hyc
 simp only [List.nil_append,List.cons_append] at hyc ⊢
 refine rings1_sc (psV L) (Hs.map psV) (by rw [List.length_map];omega) (fun i H=>∃ v,get H 1=some (.row 1 true [[v]])∧get H 2=some (.row 2 true [[psV L,.lst 1 ((Hs.map psV).map fun v=>[v])]])∧get H 3=some R∧Bufn 4 H v 6 ((cornersTo (L::Hs) i).map pc)) (fun _=>False) ?_ ?_ ?_ ?_ ?_
 ·rintro i H ⟨v,h⟩;exact h.2.1
 ·rintro i H hlt ⟨v,h0,h1,h2,h3⟩
  rw [List.length_map] at hlt
  rw [ring_val hlt]
  have hr:=hg.get hlt
  refine hyc _ _ _ rfl h2 ?_
  clear hyc
  simp (disch:=omega) only [↓RS,RZ,simprocAttr,yieldT_cons,yieldT_nil,psV]
  rw [bgQ_normal]
  refine ⟨h2,?_⟩
  have hN:=h3.1
  have q0:get (H.set 3 (some B)) 1=some (.row 1 true [[v]]):=by rw [get_ne (by omega)];exact h0
  have q1:get (H.set 3 (some B)) 2=some (.row 2 true [[psV L,.lst 1 ((Hs.map psV).map fun v=>[v])]]):=by rw [get_ne (by omega)];exact h1
  have q2:get (H.set 3 (some B)) 3=some B:=get_eq (by omega)
  have q3:=h3.set (c:=3) (x:=some B) (by omega)
  generalize H.set 3 (some B)=H1 at q0 q1 q2 q3 ⊢
  simp (disch:=omega) only [↓RS,RZ,simprocAttr,q0]
  have hl1:=(cornersTo_le hg i (by omega)).1
  have hl2:=hr.hi
  refine Bufn.append q3 (prims_cell (pc_prims _)) (by simp only [List.length_map];omega) (by simp only [List.length_map];omega) ?_
  intro v' H2 hb hk
  have r0:=hk 1 _ (by omega) q0
  have r1:=hk 2 _ (by omega) q1
  have r2:=hk 3 _ (by omega) q2
  have c1:=hb.one
  have c2:=hb.cel
  simp (disch:=omega) only [↓RS,RZ,simprocAttr,r0,c1,c2]
  rw [rdQ_normal]
  have hl3:=hb.1
  refine ⟨by rw [get_ne (by omega)];exact r2,.inl ⟨rfl,v',?_,?_,?_,?_⟩⟩
  ·rw [get_ne (by omega),get_eq (by omega)]
  ·rw [get_ne (by omega),get_ne (by omega)];exact r1
  ·rw [get_eq (by rw [List.length_set];omega)]
  ·show Bufn 4 _ v' 6 ((cornersTo (L::Hs) i++(L::Hs).getD i []).map pc)
   rw [List.map_append]
   exact (hb.set (by omega)).set (by omega)
 ·exact ⟨_,rfl,rfl,rfl,.nil (by simp)⟩
 ·rintro v H ⟨u,h0,h1,h2,h3⟩
  rw [List.length_map] at h3
  refine .inl ⟨h2,?_⟩
  have hne:cornersTo (L::Hs) (Hs.length+1)≠[]:=cornersTo_ne hg _
  obtain ⟨b,hb,rfl,hg2⟩:=h3.cases (by simpa using hne)
  have e0:get (H.set 3 none) 1=some (.row 1 true [[.sref b 0 ((cornersTo (L::Hs) (Hs.length+1)).map pc).length ((cornersTo (L::Hs) (Hs.length+1)).map pc).length 6 false]]):=by rw [get_ne (by omega)];exact h0
  have e1:get (H.set 3 none) b=some (.row 6 true ((cornersTo (L::Hs) (Hs.length+1)).map pc)):=by rw [get_ne (by omega)];exact hg2
  have hvl:= @viewLL_prims (H.set 3 none) 7 _ (pc_prims (cornersTo (L::Hs) (Hs.length+1)))
  generalize cornersTo (L::Hs) (Hs.length+1)=C at*
  have hlen:(C.map pc).length=C.length:=List.length_map ..
  have htk:(C.map pc).take C.length=C.map pc:=by rw [List.take_of_length_le (by omega)]
  simp (disch:=omega) only [↓RS,RZ,simprocAttr,e0,hlen]
  rw [e1]
  simp only [hlen,Nat.le_refl,if_true,htk]
  rw [hvl]
  rfl
 ·exact fun _ _ h=>h.elim
theorem edges_pc (L:List Pt) (Hs:List (List Pt)) (hg:Rgs L Hs):PC prog 64 [cgV L Hs] (ssV (edgesTo (L::Hs) (Hs.length+1))):=by
 have hf:=hg.few
 refine PCi ?_
 conv in trip _ _=>cbv
 simp only [runT,RN,simprocAttr]
 simp (disch:=omega) only [↓RS,RZ,simprocAttr,cgV]
 refine call_sc (rings_sc (psV L) (Hs.map psV) ?_)
 simp (disch:=omega) only [↓RS,RZ,simprocAttr]
 refine wp_rf mixed (n:=3) (k:=2) rfl rfl rfl (by kernel_rfl) ?_
 conv in lcC _=>cbv
 conv in lcC _=>cbv
 intro R B D hR hyc
 simp only [List.nil_append,List.cons_append] at hyc ⊢
 refine rings1_sc (psV L) (Hs.map psV) (by rw [List.length_map];omega) (fun i H=>∃ v,get H 1=some (.row 1 true [[v]])∧get H 2=some (.row 2 true [[psV L,.lst 1 ((Hs.map psV).map fun v=>[v])]])∧get H 3=some R∧Bufn 4 H v 12 ((edgesTo (L::Hs) i).map sgc)) (fun _=>False) ?_ ?_ ?_ ?_ ?_
 ·rintro i H ⟨v,h⟩;exact h.2.1
 ·rintro i H hlt ⟨v,h0,h1,h2,h3⟩
  rw [List.length_map] at hlt
  rw [ring_val hlt]
  have hr:=hg.get hlt
  refine hyc _ _ _ rfl h2 ?_
  clear hyc
  simp (disch:=omega) only [↓RS,RZ,simprocAttr,yieldT_cons,yieldT_nil,psV]
  rw [bgQ_normal]
  refine ⟨h2,?_⟩
  have hN:=h3.1
  have q0:get (H.set 3 (some B)) 1=some (.row 1 true [[v]]):=by rw [get_ne (by omega)];exact h0
  have q1:get (H.set 3 (some B)) 2=some (.row 2 true [[psV L,.lst 1 ((Hs.map psV).map fun v=>[v])]]):=by rw [get_ne (by omega)];exact h1
  have q2:get (H.set 3 (some B)) 3=some B:=get_eq (by omega)
  have q3:=h3.set (c:=3) (x:=some B) (by omega)
  generalize H.set 3 (some B)=H1 at q0 q1 q2 q3 ⊢
  have ee:=Edges_pc ((L::Hs).getD i []) (by have:=hr.hi;omega) hr.ne
  simp (disch:=omega) only [↓RS,RZ,simprocAttr,q0]
  refine cX ee ?_
  simp (disch:=omega) only [↓RS,RZ,simprocAttr,ssV]
  obtain ⟨hl1,hl4⟩:=cornersTo_le hg i (by omega)
  have hl2:=hr.hi
  refine Bufn.append q3 (prims_cell (sgc_prims _)) (by simp only [List.length_map,edgesL_length];omega) (by simp only [List.length_map,edgesL_length];omega) ?_
  intro v' H2 hb hk
  have r0:=hk 1 _ (by omega) q0
  have r1:=hk 2 _ (by omega) q1
  have r2:=hk 3 _ (by omega) q2
  have c1:=hb.one
  have c2:=hb.cel
  simp (disch:=omega) only [↓RS,RZ,simprocAttr,r0,c1,c2]
  rw [rdQ_normal]
  have hl3:=hb.1
  refine ⟨by rw [get_ne (by omega)];exact r2,.inl ⟨rfl,v',?_,?_,?_,?_⟩⟩
  ·rw [get_ne (by omega),get_eq (by omega)]
  ·rw [get_ne (by omega),get_ne (by omega)];exact r1
  ·rw [get_eq (by rw [List.length_set];omega)]
  ·show Bufn 4 _ v' 12 ((edgesTo (L::Hs) i++edgesL ((L::Hs).getD i [])).map sgc)
   rw [List.map_append]
   exact (hb.set (by omega)).set (by omega)
 ·exact ⟨_,rfl,rfl,rfl,.nil (by simp)⟩
 ·rintro v H ⟨u,h0,h1,h2,h3⟩
  rw [List.length_map] at h3
  refine .inl ⟨h2,?_⟩
  have hne:edgesTo (L::Hs) (Hs.length+1)≠[]:=fun h=>cornersTo_ne hg Hs.length (List.length_eq_zero_iff.1 (by rw [←(cornersTo_le hg (Hs.length+1) (Nat.le_refl _)).2,h];rfl))
  obtain ⟨b,hb,rfl,hg2⟩:=h3.cases (by simpa using hne)
  have e0:get (H.set 3 none) 1=some (.row 1 true [[.sref b 0 ((edgesTo (L::Hs) (Hs.length+1)).map sgc).length ((edgesTo (L::Hs) (Hs.length+1)).map sgc).length 12 false]]):=by rw [get_ne (by omega)];exact h0
  have e1:get (H.set 3 none) b=some (.row 12 true ((edgesTo (L::Hs) (Hs.length+1)).map sgc)):=by rw [get_ne (by omega)];exact hg2
  have hvl:= @viewLL_prims (H.set 3 none) 7 _ (sgc_prims (edgesTo (L::Hs) (Hs.length+1)))
  generalize edgesTo (L::Hs) (Hs.length+1)=C at*
  have hlen:(C.map sgc).length=C.length:=List.length_map ..
  have htk:(C.map sgc).take C.length=C.map sgc:=by rw [List.take_of_length_le (by omega)]
  simp (disch:=omega) only [↓RS,RZ,simprocAttr,e0,hlen]
  rw [e1]
  simp only [hlen,Nat.le_refl,if_true,htk]
  rw [hvl]
  rfl
 ·exact fun _ _ h=>h.elim
end Go.Av
namespace Go.Av
open Go.RowKit
open Go.Proofs.Tryz (prog)
def bigP (p:Rp):Bool:=decide (12<p.x.num.length)||(decide (12<p.x.den.length)||(decide (12<p.y.num.length)||decide (12<p.y.den.length)))
def greatL (l:List Rp):Bool:=anyTo l.length fun i=>bigP (l.getD i default)
theorem anyTo_true {n i:Nat} {p:Nat→Bool} (hi:i<n) (h:p i=true):anyTo n p=true:=List.any_eq_true.2 ⟨i,by simpa using hi,h⟩
theorem anyTo_false {n:Nat} {p:Nat→Bool} (h:∀ i,i<n→p i=false):anyTo n p=false:=by
 unfold anyTo;rw [List.any_eq_false];intro i hi;rw [h i (by simpa using hi)];simp
theorem anyTo_get {n i:Nat} {p:Nat→Bool} (h:anyTo n p=false) (hi:i<n):p i=false:=by
 cases hp:p i with
 |false=>rfl
 |true=>rw [anyTo_true hi hp] at h;cases h
theorem great_pc (l:List Rp) (hn:l.length<2^63) (hf:∀ p∈l,p.fit):PC prog 29 [rpsV l] (.prim (.bool (greatL l))):=by
 refine PCi ?_
 conv in trip _ _=>cbv
 simp only [runT,RN,simprocAttr]
 simp (disch:=omega) only [↓RS,RZ,simprocAttr]
 refine wp_lp (fun (i:Nat) J=>ov [(0,rpsV l),(3,.prim (.int .i64 ((i:Nat):Int)))] J 0 48) (fun i H=>(i≤l.length∧∀ j,j<i→bigP (l.getD j default)=false)∧H=[]) (fun i=>l.length-i) 0 rfl ⟨⟨Nat.zero_le _,fun j hj=>absurd hj (Nat.not_lt_zero j)⟩,rfl⟩ ?_
 rintro i J _ ⟨⟨hi,hp⟩,rfl⟩
 try conv in ov _ _ _ _=>simp only [ov,List.lookup,RO,simprocAttr]
 rcases Nat.lt_or_ge i l.length with hlt|hge
 ·have g:=rpc_getD hlt
  have hmem:l.getD i default∈l:=by rw [List.getD_eq_getElem?_getD,List.getElem?_eq_getElem hlt];exact List.getElem_mem hlt
  have hfit:=hf _ hmem
  generalize hp':l.getD i default=p at g hfit
  obtain ⟨⟨f1,f2⟩,f3,f4⟩:=hfit
  have hm:maxLen<2^63:=by decide
  by_cases c1:12<p.x.num.length
  ·rw [show greatL l=true from anyTo_true hlt (by rw [hp'];simp only [bigP,decide_eq_true_eq,Bool.or_eq_true];omega)]
   simp (disch:=omega) only [↓RS,RZ,simprocAttr,rpsV,rpc_length,g,rpc,bs_size]
  ·by_cases c2:12<p.x.den.length
   ·rw [show greatL l=true from anyTo_true hlt (by rw [hp'];simp only [bigP,decide_eq_true_eq,Bool.or_eq_true];omega)]
    simp (disch:=omega) only [↓RS,RZ,simprocAttr,rpsV,rpc_length,g,rpc,bs_size]
   ·by_cases c3:12<p.y.num.length
    ·rw [show greatL l=true from anyTo_true hlt (by rw [hp'];simp only [bigP,decide_eq_true_eq,Bool.or_eq_true];omega)]
     simp (disch:=omega) only [↓RS,RZ,simprocAttr,rpsV,rpc_length,g,rpc,bs_size]
    ·by_cases c4:12<p.y.den.length
     ·rw [show greatL l=true from anyTo_true hlt (by rw [hp'];simp only [bigP,decide_eq_true_eq,Bool.or_eq_true];omega)]
      simp (disch:=omega) only [↓RS,RZ,simprocAttr,rpsV,rpc_length,g,rpc,bs_size]
     ·simp (disch:=omega) only [↓RS,RZ,simprocAttr,rpsV,rpc_length,g,rpc,bs_size]
      exact lp_next (i+1) rfl ⟨⟨hlt,fun j hj=>by
       rcases Nat.lt_or_ge j i with h|h
       ·exact hp j h
       ·rw [show j=i by omega,hp'];simp only [bigP,decide_eq_false c1,decide_eq_false c2,decide_eq_false c3,decide_eq_false c4];rfl⟩,rfl⟩ (by omega)
 ·have hia:i=l.length:=by omega
  subst hia
  have:greatL l=false:=anyTo_false hp
  rw [this]
  simp (disch:=omega) only [↓RS,RZ,simprocAttr,rpsV,rpc_length]
def greatP (O:List Rp) (hs:List (List Rp)):Bool:=
 decide (10<O.length∧O.length≤64)||(decide (67<O.length)||(greatL O||(anyTo (min hs.length 11) (fun i=>decide (6<(hs.getD i []).length)||greatL (hs.getD i []))||(decide (3<hs.length∧hs.length≤8)||decide (10<hs.length)))))
theorem greatP_pc (O:List Rp) (hs:List (List Rp)) (hn:hs.length<2^63) (nO:O.length<2^63) (kO:∀ p∈O,p.fit) (kh:∀ l∈hs,l.length<2^63∧∀ p∈l,p.fit):
 PC prog 71 [pgV O hs] (.prim (.bool (greatP O hs))):=by
 have c:=great_pc O nO kO
 have mem:∀ j,j<hs.length→hs.getD j []∈hs:=fun j hj=>by
  rw [List.getD_eq_getElem?_getD,List.getElem?_eq_getElem hj];exact List.getElem_mem hj
 refine PCi ?_
 conv in trip _ _=>cbv
 simp only [runT,RN,simprocAttr]
 by_cases c1:10<O.length∧O.length≤64
 ·obtain ⟨c1,c1'⟩:=c1
  rw [show greatP O hs=true by unfold greatP;rw [decide_eq_true (show 10<O.length∧O.length≤64 from ⟨c1,c1'⟩)];rfl]
  simp (disch:=omega) only [↓RS,RZ,simprocAttr,pgV,hsV,rpsV,rpc_length,one_length,hs_length]
 have d1:decide (10<O.length∧O.length≤64)=false:=decide_eq_false c1
 by_cases c2:67<O.length
 ·rw [show greatP O hs=true by unfold greatP;rw [decide_eq_true c2];simp]
  simp (disch:=omega) only [↓RS,RZ,simprocAttr,pgV,hsV,rpsV,rpc_length,one_length,hs_length]
 have d2:decide (67<O.length)=false:=decide_eq_false c2
 cases c3:greatL O with
 |true=>
  rw [show greatP O hs=true by unfold greatP;rw [c3];simp]
  rw [c3] at c
  rcases Nat.lt_or_ge 10 O.length with hl1|hl1
  ·have hl2:64<O.length:=by omega
   simp (disch:=omega) only [↓RS,RZ,simprocAttr,pgV,hsV,rpsV,rpc_length,one_length,hs_length]
   refine cX c ?_
   simp (disch:=omega) only [↓RS,RZ,simprocAttr]
  ·simp (disch:=omega) only [↓RS,RZ,simprocAttr,pgV,hsV,rpsV,rpc_length,one_length,hs_length]
   refine cX c ?_
   simp (disch:=omega) only [↓RS,RZ,simprocAttr]
 |false=>
  rw [c3] at c
  have fin:∀ (b:Bool),(anyTo (min hs.length 11) (fun i=>decide (6<(hs.getD i []).length)||greatL (hs.getD i []))||(decide (3<hs.length∧hs.length≤8)||decide (10<hs.length)))=b→greatP O hs=b:=by
   intro b hb;unfold greatP;rw [d1,d2,c3,hb];rfl
  rcases Nat.lt_or_ge 10 O.length with hl1|hl1
  ·have hl2:64<O.length:=by omega
   simp (disch:=omega) only [↓RS,RZ,simprocAttr,pgV,hsV,rpsV,rpc_length,one_length,hs_length]
   refine cX c ?_
   simp (disch:=omega) only [↓RS,RZ,simprocAttr]
   refine wp_lp (fun (i:Nat) J=>ov [(1,.ptr 0 0 0),(4,.prim (.int .i64 ((i:Nat):Int)))] J 0 65) (fun i H=>(i≤min hs.length 11∧∀ j,j<i→(decide (6<(hs.getD j []).length)||greatL (hs.getD j []))=false)∧H=[some (.row 2 true [[rpsV O,hsV hs]])]) (fun i=>11-i) 0 rfl ⟨⟨Nat.zero_le _,fun j hj=>absurd hj (Nat.not_lt_zero j)⟩,rfl⟩ ?_
   rintro i J _ ⟨⟨hi,hp⟩,rfl⟩
   try conv in ov _ _ _ _=>simp only [ov,List.lookup,RO,simprocAttr]
   rcases Nat.lt_or_ge i (min hs.length 11) with hlt|hge
   ·have hi1:i<hs.length:=by omega
    have hi2:i<11:=by omega
    have g:((hs.map rpsV).map fun v=>[v]).getD i []=[rpsV (hs.getD i [])]:=by rw [one_getD (by rw [hs_length];exact hi1),hs_getD hi1]
    have d:=great_pc (hs.getD i []) (kh _ (mem i hi1)).1 (kh _ (mem i hi1)).2
    have hll:=(kh _ (mem i hi1)).1
    by_cases h6:6<(hs.getD i []).length
    ·rw [fin true (by rw [anyTo_true hlt (by rw [decide_eq_true h6];rfl)];rfl)]
     simp (disch:=omega) only [↓RS,RZ,simprocAttr,pgV,hsV,rpsV,rpc_length,one_length,hs_length,g]
    ·cases hg:greatL (hs.getD i []) with
     |true=>
      rw [fin true (by rw [anyTo_true hlt (by rw [hg];simp)];rfl)]
      rw [hg] at d
      simp (disch:=omega) only [↓RS,RZ,simprocAttr,pgV,hsV,rpsV,rpc_length,one_length,hs_length,g]
      refine cX d ?_
      simp (disch:=omega) only [↓RS,RZ,simprocAttr]
     |false=>
      rw [hg] at d
      simp (disch:=omega) only [↓RS,RZ,simprocAttr,pgV,hsV,rpsV,rpc_length,one_length,hs_length,g]
      refine cX d ?_
      simp (disch:=omega) only [↓RS,RZ,simprocAttr]
      exact lp_next (i+1) rfl ⟨⟨hlt,fun j hj=>by
       rcases Nat.lt_or_ge j i with h|h
       ·exact hp j h
       ·rw [show j=i by omega,hg,decide_eq_false h6];rfl⟩,rfl⟩ (by omega)
   ·have hany:=anyTo_false (n:=min hs.length 11) (fun j hj=>hp j (by omega))
    rcases Nat.lt_or_ge 10 hs.length with hA|hA
    ·rw [fin true (by rw [hany,decide_eq_true hA];simp)]
     have hA2:8<hs.length:=by omega
     rcases Nat.lt_or_ge i hs.length with hX|hX
     ·have hX2:11≤i:=by omega
      simp (disch:=omega) only [↓RS,RZ,simprocAttr,pgV,hsV,rpsV,rpc_length,one_length,hs_length]
     ·simp (disch:=omega) only [↓RS,RZ,simprocAttr,pgV,hsV,rpsV,rpc_length,one_length,hs_length]
    ·have hX:hs.length≤i:=by omega
     by_cases hB:3<hs.length∧hs.length≤8
     ·rw [fin true (by rw [hany,decide_eq_true hB];rfl)]
      obtain ⟨hB1,hB2⟩:=hB
      simp (disch:=omega) only [↓RS,RZ,simprocAttr,pgV,hsV,rpsV,rpc_length,one_length,hs_length]
     ·rw [fin false (by rw [hany,decide_eq_false hB,decide_eq_false (Nat.not_lt.2 hA)];rfl)]
      rcases Nat.lt_or_ge 3 hs.length with hC|hC
      ·have hC2:8<hs.length:=by omega
       simp (disch:=omega) only [↓RS,RZ,simprocAttr,pgV,hsV,rpsV,rpc_length,one_length,hs_length]
      ·simp (disch:=omega) only [↓RS,RZ,simprocAttr,pgV,hsV,rpsV,rpc_length,one_length,hs_length]
  ·simp (disch:=omega) only [↓RS,RZ,simprocAttr,pgV,hsV,rpsV,rpc_length,one_length,hs_length]
   refine cX c ?_
   simp (disch:=omega) only [↓RS,RZ,simprocAttr]
   refine wp_lp (fun (i:Nat) J=>ov [(1,.ptr 0 0 0),(4,.prim (.int .i64 ((i:Nat):Int)))] J 0 65) (fun i H=>(i≤min hs.length 11∧∀ j,j<i→(decide (6<(hs.getD j []).length)||greatL (hs.getD j []))=false)∧H=[some (.row 2 true [[rpsV O,hsV hs]])]) (fun i=>11-i) 0 rfl ⟨⟨Nat.zero_le _,fun j hj=>absurd hj (Nat.not_lt_zero j)⟩,rfl⟩ ?_
   rintro i J _ ⟨⟨hi,hp⟩,rfl⟩
   try conv in ov _ _ _ _=>simp only [ov,List.lookup,RO,simprocAttr]
   rcases Nat.lt_or_ge i (min hs.length 11) with hlt|hge
   ·have hi1:i<hs.length:=by omega
    have hi2:i<11:=by omega
    have g:((hs.map rpsV).map fun v=>[v]).getD i []=[rpsV (hs.getD i [])]:=by rw [one_getD (by rw [hs_length];exact hi1),hs_getD hi1]
    have d:=great_pc (hs.getD i []) (kh _ (mem i hi1)).1 (kh _ (mem i hi1)).2
    have hll:=(kh _ (mem i hi1)).1
    by_cases h6:6<(hs.getD i []).length
    ·rw [fin true (by rw [anyTo_true hlt (by rw [decide_eq_true h6];rfl)];rfl)]
     simp (disch:=omega) only [↓RS,RZ,simprocAttr,pgV,hsV,rpsV,rpc_length,one_length,hs_length,g]
    ·cases hg:greatL (hs.getD i []) with
     |true=>
      rw [fin true (by rw [anyTo_true hlt (by rw [hg];simp)];rfl)]
      rw [hg] at d
      simp (disch:=omega) only [↓RS,RZ,simprocAttr,pgV,hsV,rpsV,rpc_length,one_length,hs_length,g]
      refine cX d ?_
      simp (disch:=omega) only [↓RS,RZ,simprocAttr]
     |false=>
      rw [hg] at d
      simp (disch:=omega) only [↓RS,RZ,simprocAttr,pgV,hsV,rpsV,rpc_length,one_length,hs_length,g]
      refine cX d ?_
      simp (disch:=omega) only [↓RS,RZ,simprocAttr]
      exact lp_next (i+1) rfl ⟨⟨hlt,fun j hj=>by
       rcases Nat.lt_or_ge j i with h|h
       ·exact hp j h
       ·rw [show j=i by omega,hg,decide_eq_false h6];rfl⟩,rfl⟩ (by omega)
   ·have hany:=anyTo_false (n:=min hs.length 11) (fun j hj=>hp j (by omega))
    rcases Nat.lt_or_ge 10 hs.length with hA|hA
    ·rw [fin true (by rw [hany,decide_eq_true hA];simp)]
     have hA2:8<hs.length:=by omega
     rcases Nat.lt_or_ge i hs.length with hX|hX
     ·have hX2:11≤i:=by omega
      simp (disch:=omega) only [↓RS,RZ,simprocAttr,pgV,hsV,rpsV,rpc_length,one_length,hs_length]
     ·simp (disch:=omega) only [↓RS,RZ,simprocAttr,pgV,hsV,rpsV,rpc_length,one_length,hs_length]
    ·have hX:hs.length≤i:=by omega
     by_cases hB:3<hs.length∧hs.length≤8
     ·rw [fin true (by rw [hany,decide_eq_true hB];rfl)]
      obtain ⟨hB1,hB2⟩:=hB
      simp (disch:=omega) only [↓RS,RZ,simprocAttr,pgV,hsV,rpsV,rpc_length,one_length,hs_length]
     ·rw [fin false (by rw [hany,decide_eq_false hB,decide_eq_false (Nat.not_lt.2 hA)];rfl)]
      rcases Nat.lt_or_ge 3 hs.length with hC|hC
      ·have hC2:8<hs.length:=by omega
       simp (disch:=omega) only [↓RS,RZ,simprocAttr,pgV,hsV,rpsV,rpc_length,one_length,hs_length]
      ·simp (disch:=omega) only [↓RS,RZ,simprocAttr,pgV,hsV,rpsV,rpc_length,one_length,hs_length]
end Go.Av
