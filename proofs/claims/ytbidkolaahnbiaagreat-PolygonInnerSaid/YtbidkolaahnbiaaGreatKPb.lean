/- Helping texts: Pb, Pc, Pd. -/
import Derived.Test.YtbidkolaahnbiaaGreatKPa
import Derived.Test.YtbidkolaahnbiaaGreatKMm
set_option linter.unusedSimpArgs false
set_option linter.unusedVariables false
set_option maxRecDepth 100000
set_option maxHeartbeats 16000000
namespace Go.Av
open Go.RowKit
open Go.Proofs.Tryz (prog)
theorem xs_getD {C:List Pt} {i:Nat} (h:i<C.length):(C.map Pt.x).getD i 0=(C.getD i default).x:=by
 rw [List.getD_eq_getElem?_getD,List.getD_eq_getElem?_getD,List.getElem?_map,List.getElem?_eq_getElem h];rfl
theorem ysL_succ {E:List Sg} {x:Rat} {i:Nat} (h:i<E.length):ysL x (E.take (i+1))=if spans x (E.getD i sg0)=true then ysL x (E.take i)++[hgt x (E.getD i sg0)] else ysL x (E.take i):=by
 unfold ysL
 rw [List.take_add_one,List.getElem?_eq_getElem h,List.filter_append,List.map_append,List.getD_eq_getElem?_getD,List.getElem?_eq_getElem h]
 simp only [Option.toList_some,Option.getD_some,List.filter_cons,List.filter_nil]
 split<;>simp
theorem ysL_le (E:List Sg) (x:Rat):(ysL x E).length≤E.length:=by
 unfold ysL;rw [List.length_map];exact List.length_filter_le ..
theorem mem_hq {l:List Rat} {k:Nat} (h:∀ y∈l,ht y≤k):hq l k:=fun i hi=>by
 rw [List.getD_eq_getElem?_getD,List.getElem?_eq_getElem hi];exact h _ (List.getElem_mem hi)
theorem ht_hgt (s:Sg) (x:Rat):ht (hgt x s)≤ht x+6*hs s+5:=by
 have a4:=hs_a s;have a5:=hs_b s
 have a6:=hp_x s.a;have a7:=hp_y s.a;have a8:=hp_x s.b;have a9:=hp_y s.b
 have b1:=ht_sub x s.a.x
 have b2:=ht_sub s.b.x s.a.x
 have b3:=ht_sub s.b.y s.a.y
 have b4:=ht_div (x-s.a.x) (s.b.x-s.a.x)
 have b5:=ht_mul ((x-s.a.x)/(s.b.x-s.a.x)) (s.b.y-s.a.y)
 have b6:=ht_add s.a.y ((x-s.a.x)/(s.b.x-s.a.x)*(s.b.y-s.a.y))
 unfold hgt
 omega
theorem compactG_sc (l:List Rat) (hn:l.length<2^20) {b:Nat} {fx:Bool} {H:Hp} {K:V→Hp→Prop} (hb:get H b=some (.row 3 true (l.map qc)))
 (hK:∀ m:List Rat,m.length=l.length→m.take (cptTo l l.length).length=cptTo l l.length→K (.sref b 0 (cptTo l l.length).length l.length 3 fx) (H.set b (some (.row 3 true (m.map qc))))):
 SC prog 128 [.sref b 0 l.length l.length 3 fx] H K:=by
 have hbl:=get_lt_len hb
 have s1:∀ x,get (H.set b x) b=x:=fun x=>get_eq hbl
 have s2:∀ x y,(H.set b x).set b y=H.set b y:=fun x y=>List.set_set ..
 have hz:qc 0=[.prim (.bool false),.prim (.string (bs ([]))),.prim (.string (bs ([])))]:=by simp only [qc,can_zero]
 have hid:cptTo l l.length=l→K (.sref b 0 l.length l.length 3 fx) H:=fun e=>by
  have:=hK l rfl (by rw [e,List.take_length])
  rwa [e,set_self hb] at this
 by_cases hl:l.length<2
 ·have e:cptTo l l.length=l:=by
   match l,hl with
   |[],_=>rfl
   |[a],_=>rfl
  have:=hid e
  refine SCi ?_
  conv in trip _ _=>cbv
  simp only [runT,RN,simprocAttr]
  simp (disch:=omega) only [↓RS,RZ,simprocAttr]
  exact this
 ·skip
  refine SCi ?_
  conv in trip _ _=>cbv
  simp only [runT,RN,simprocAttr]
  simp (disch:=omega) only [↓RS,RZ,simprocAttr]
  refine wp_lp (fun (i:Nat) J=>ov [(0,.sref b 0 l.length l.length 3 fx),(2,.prim (.slice none 0 0)),(3,.prim (.int .i64 ((i:Nat):Int)))] J 0 61) (fun i H'=>(1≤i∧i≤l.length∧cptTo l i=l.take i)∧H'=H) (fun i=>l.length-i) 1 rfl ⟨⟨Nat.le_refl _,by omega,?_⟩,rfl⟩ ?_
  ·match l,hl with
   |a::t,_=>rfl
  rintro i J H' ⟨⟨h1,h2,h3⟩,hH⟩
  try conv in ov _ _ _ _=>simp only [ov,List.lookup,RO,simprocAttr]
  rw [hH]
  clear hH
  rcases Nat.lt_or_ge i l.length with hlt|hge
  ·obtain ⟨p,rfl⟩:∃ p,i=p+1:=⟨i-1,by omega⟩
   have g1:=qc_get (l:=l) (i:=p+1) (by omega)
   have g2:=qc_get (l:=l) (i:=p) (by omega)
   by_cases e:l.getD (p+1) 0=l.getD p 0
   ·have d:=decide_eq_true e
    have hc:cptTo l (p+1+1)=l.take (p+1):=by
     rw [←h3];exact if_pos ⟨by omega,e⟩
    have h0:get H b=some (.row 3 true (l.map qc)):=hb
    simp (disch:=omega) only [↓RS,RZ,simprocAttr,hb,g1,g2,qc,eqA_q,d,Nat.add_sub_cancel,Nat.zero_add]
    refine wp_lp (fun (s:Nat×Nat) J=>ov [(0,.sref b 0 l.length l.length 3 fx),(3,.prim (.int .i64 ((s.1:Nat):Int))),(4,.sref b (p+1) (l.length-(p+1)) (l.length-(p+1)) 3 fx),(5,.prim (.int .i64 ((s.2:Nat):Int)))] J 0 61) (fun s H'=>∃ m:List Rat,(m.length=l.length∧s.1≤p+s.2∧1≤s.2∧p+1+s.2≤l.length∧(cptTo l (p+1+s.2)).length=s.1∧m.take s.1=cptTo l (p+1+s.2)∧∀ t,s.1≤t→m.getD t 0=l.getD t 0)∧H'=H.set b (some (.row 3 true (m.map qc)))) (fun s=>l.length-s.2) (p+1,1) rfl ⟨l,⟨rfl,by simp only;omega,Nat.le_refl _,by simp only;omega,by simp only;rw [hc,List.length_take];omega,by simp only;rw [hc],fun t _=>rfl⟩,(set_self hb).symm⟩ ?_
    rintro ⟨k,j⟩ J' _ ⟨m,⟨a1,a2,a3,a4,a5,a6,a7⟩,rfl⟩
    try conv in ov _ _ _ _=>simp only [ov,List.lookup,RO,simprocAttr]
    simp only at a2 a3 a4 a5 a6 a7 ⊢
    rcases Nat.lt_or_ge j (l.length-(p+1)) with jlt|jge
    ·obtain ⟨q,rfl⟩:∃ q,j=q+1:=⟨j-1,by omega⟩
     have f1:=qc_get (l:=m) (i:=p+1+(q+1)) (by omega)
     have f2:=qc_get (l:=m) (i:=p+1+q) (by omega)
     rw [a7 _ (by omega)] at f1 f2
     have hcs:cptTo l (p+1+(q+1)+1)=if p+1+(q+1)≠0∧l.getD (p+1+(q+1)) 0=l.getD (p+1+q) 0 then cptTo l (p+1+(q+1)) else cptTo l (p+1+(q+1))++[l.getD (p+1+(q+1)) 0]:=rfl
     by_cases e2:l.getD (p+1+(q+1)) 0=l.getD (p+1+q) 0
     ·have d2:=decide_eq_true e2
      rw [if_pos ⟨by omega,e2⟩] at hcs
      simp (disch:=omega) only [↓RS,RZ,simprocAttr,s1,f1,f2,qc,eqA_q,d2,Nat.add_sub_cancel,Nat.zero_add]
      exact lp_next (k,q+1+1) rfl ⟨m,⟨a1,by simp only;omega,by simp only;omega,by simp only;omega,by simp only;rw [←Nat.add_assoc,hcs];exact a5,by simp only;rw [←Nat.add_assoc (p+1),hcs];exact a6,a7⟩,rfl⟩ (by simp only;omega)
     ·have d2:=decide_eq_false e2
      rw [if_neg (fun h=>e2 h.2)] at hcs
      have es:(m.map qc).set k (qc (l.getD (p+1+(q+1)) 0))=(m.set k (l.getD (p+1+(q+1)) 0)).map qc:=by rw [List.map_set]
      simp only [qc] at es
      have f3:=qc_get (l:=m) (i:=k) (by omega)
      simp (disch:=omega) only [↓RS,RZ,simprocAttr,s1,s2,f1,f2,f3,qc,eqA_q,d2,Nat.add_sub_cancel,Nat.zero_add,es]
      refine lp_next (k+1,q+1+1) rfl ⟨m.set k (l.getD (p+1+(q+1)) 0),⟨by rw [List.length_set];exact a1,by simp only;omega,by simp only;omega,by simp only;omega,by simp only;rw [←Nat.add_assoc (p+1),hcs,List.length_append,a5];rfl,?_,fun t ht=> ?_⟩,rfl⟩ (by simp only;omega)
      ·show List.take (k+1) (m.set k (l.getD (p+1+(q+1)) 0))=cptTo l (p+1+(q+1)+1)
       rw [hcs,←a6,List.take_add_one,List.take_set_of_le (Nat.le_refl _),List.getElem?_set_self (by omega)];rfl
      ·simp only at ht
       rw [List.getD_eq_getElem?_getD,List.getElem?_set_ne (by omega),←List.getD_eq_getElem?_getD];exact a7 t (by omega)
    ·have hj:p+1+j=l.length:=by omega
     rw [hj] at a5 a6
     have er:splice (m.map qc) k (List.replicate (l.length-k) (qc 0))=(m.take k++List.replicate (l.length-k) 0).map qc:=by
      unfold splice
      rw [List.map_append,List.map_take,List.map_replicate,List.drop_of_length_le (by rw [List.length_map,List.length_replicate];omega),List.append_nil]
     rw [hz] at er
     have fin:=hK (m.take k++List.replicate (l.length-k) 0) (by rw [List.length_append,List.length_take,List.length_replicate];omega) (by rw [a5,List.take_append_of_le_length (by rw [List.length_take];omega),List.take_take,Nat.min_self,a6])
     rw [a5] at fin
     simp (disch:=omega) only [↓RS,RZ,simprocAttr,s1,s2,wpOp_clear,clearP,wpClear,Nat.zero_add,er]
     exact ⟨by rw [List.length_map];omega,fin⟩
   ·have d:=decide_eq_false e
    simp (disch:=omega) only [↓RS,RZ,simprocAttr,hb,g1,g2,qc,eqA_q,d,Nat.add_sub_cancel,Nat.zero_add]
    refine lp_next (p+1+1) rfl ⟨⟨by omega,hlt,?_⟩,rfl⟩ (by omega)
    have:cptTo l (p+1+1)=cptTo l (p+1)++[l.getD (p+1) 0]:=if_neg (fun h=>e h.2)
    rw [this,h3,List.take_add_one (i:=p+1),List.getElem?_eq_getElem hlt,List.getD_eq_getElem?_getD,List.getElem?_eq_getElem hlt];rfl
  ·have:i=l.length:=by omega
   subst this
   have:=hid (by rw [h3,List.take_length])
   simp (disch:=omega) only [↓RS,RZ,simprocAttr]
   exact this
end Go.Av
namespace Go.Av
open Go.RowKit
open Go.Proofs.Tryz (prog)
theorem xsTo_all (C:List Pt):xsTo C C.length=C.map Pt.x:=by
 unfold xsTo
 have h0:∀ j∈List.range C.length,(C.getD j default).x=(C.map Pt.x).getD j 0:=fun j hj=>(xs_getD (List.mem_range.1 hj)).symm
 rw [List.map_congr_left h0]
 refine ext_q (by simp) fun i hi=> ?_
 have hi:i<C.length:=by simpa using hi
 rw [List.getD_eq_getElem?_getD,List.getElem?_map,List.getElem?_range hi];rfl
theorem interiorG_pc {L:List Pt} {Hs:List (List Pt)} (hv:Valid L Hs) (h50:(cornersTo (L::Hs) (Hs.length+1)).length<50) {D S:List Rat} (hD:D=xsL (cornersTo (L::Hs) (Hs.length+1))) (hS:S=srtQ (ysL (inX D) (edgesTo (L::Hs) (Hs.length+1)))):
 PC prog 55 [cgV L Hs] (.tup [pV ⟨inX D,(S.getD 0 0+S.getD 1 0)/2⟩,.prim (.int .i64 (0))]):=by
 have ck:=hv.check_pc
 have cc:=corners_pc L Hs hv.rgs
 have ce:=edges_pc L Hs hv.rgs
 obtain ⟨h2,ho,l,hl,s,hs1,hsp⟩:=line_ok hv hD
 have hy2:=two_spans hl hs1 hsp
 rw [←show inX D=(D.getD 0 0+D.getD 1 0)/2 from rfl] at ho hy2
 have hlC:=hl_corners hv.rgs (Hs.length+1) (Nat.le_refl _)
 have hEs:=hs_edges hv.rgs (Hs.length+1) (Nat.le_refl _)
 have hEl:=(cornersTo_le hv.rgs (Hs.length+1) (Nat.le_refl _)).2
 have hoE:∀ s∈edgesTo (L::Hs) (Hs.length+1),offX (inX D) s:=fun s hs=>by
  rw [eTo_all] at hs
  obtain ⟨l,hl,hs⟩:=List.mem_flatMap.1 hs
  exact ho.edge hl hs
 have hDq:∀ y∈D,ht y≤2^16:=fun y hy=>by
  rw [hD] at hy
  obtain ⟨p,hp,rfl⟩:=xsL_mem.1 hy
  have:=hlC p hp
  have:=hp_x p
  omega
 clear hsp hs1 hl ho
 have hSp:S.Perm (ysL (inX D) (edgesTo (L::Hs) (Hs.length+1))):=by rw [hS];exact srtQ_perm _
 generalize edgesTo (L::Hs) (Hs.length+1)=E at*
 generalize cornersTo (L::Hs) (Hs.length+1)=C at*
 have ht0:ht (D.getD 0 0)≤2^16:=mem_hq hDq 0 (by omega)
 have ht1:ht (D.getD 1 0)≤2^16:=mem_hq hDq 1 (by omega)
 refine PCi ?_
 conv in trip _ _=>cbv
 simp only [runT,RN,simprocAttr]
 simp (disch:=omega) only [↓RS,RZ,simprocAttr,cgV,psV]
 refine cX ck ?_
 simp (disch:=omega) only [↓RS,RZ,simprocAttr,cgV,psV]
 refine cX cc ?_
 simp (disch:=omega) only [↓RS,RZ,simprocAttr,psV,pc_length]
 refine wp_lp (fun (s:Nat×V) J=>ov [(1,.ptr 0 0 0),(2,.ptr 1 0 0),(3,.prim (.int .i64 (0))),(4,s.2),(5,.prim (.slice none 0 0)),(18,psV C),(19,.prim (.int .i64 ((C.length:Nat):Int))),(20,.prim (.int .i64 ((s.1:Nat):Int)))] J 0 72)
  (fun s H=>s.1≤C.length∧get H 0=some (.row 2 true [[psV L,.lst 1 ((Hs.map psV).map fun v=>[v])]])∧get H 1=some (.row 6 true [pc pt0])∧Bufn 2 H s.2 3 ((xsTo C s.1).map qc)) (fun s=>C.length-s.1) (0,.prim (.slice none 0 0)) rfl ⟨Nat.zero_le _,rfl,?_,.nil (by simp)⟩ ?_
 ·have:pc pt0=[.prim (.bool false),.prim (.string (bs ([]))),.prim (.string (bs ([]))),.prim (.bool false),.prim (.string (bs ([]))),.prim (.string (bs ([])))]:=by simp only [pc,pt0,can_zero]
  rw [this];rfl
 rintro ⟨i,v⟩ J H ⟨hi,h0,h1,hB⟩
 try conv in ov _ _ _ _=>simp only [ov,List.lookup,RO,simprocAttr]
 simp only at hi hB ⊢
 rcases Nat.lt_or_ge i C.length with hlt|hge
 ·have g:=pc_getD hlt
  simp (disch:=omega) only [↓RS,RZ,simprocAttr,psV,pc_length,g,pc,set_app_len]
  refine Bufn.append ((hB.app _).app _) (by simp [cellV]) (by simp only [List.length_cons,List.length_nil,List.length_map,xsTo,List.length_range];omega) (by simp only [List.length_cons,List.length_nil,List.length_map,xsTo,List.length_range];omega) ?_
  intro v' H2 hb hk
  have r0:=hk 0 _ (by omega) (get_app (get_app h0))
  have r1:=hk 1 _ (by omega) (get_app (get_app h1))
  simp (disch:=omega) only [↓RS,RZ,simprocAttr]
  refine lp_next (i+1,v') rfl ⟨hlt,r0,r1,?_⟩ (by simp only;omega)
  unfold xsTo
  rw [range_map_succ,List.map_append]
  exact hb
 ·have hia:i=C.length:=by omega
  subst hia
  have hC0:C≠[]:=fun e=>by rw [hD,e] at h2;exact absurd h2 (by decide)
  rw [xsTo_all] at hB
  obtain ⟨bb,hbb,rfl,hgb⟩:=hB.cases (by simpa using hC0)
  have hml:((C.map Pt.x).map qc).length=C.length:=by rw [List.length_map,List.length_map]
  have hml1:(C.map Pt.x).length=C.length:=List.length_map ..
  rw [hml]
  have hxq:hq (C.map Pt.x) (2^30):=mem_hq fun y hy=>by
   obtain ⟨p,hp,rfl⟩:=List.mem_map.1 hy
   have:=hlC p hp
   have:=hp_x p
   omega
  have hDx:D=cptTo (srtQ (C.map Pt.x)) (srtQ (C.map Pt.x)).length:=by
   rw [hD,xsL,(srtQ_perm _).length_eq,hml1]
  have hF:CmpF 54 :=fun p q h1 h2=>cmpQ_pc p q (by omega) (by omega)
  have sc:=fun K0 hK0=> @sortG_sc 54 hF (C.map Pt.x) (by omega) hxq bb false H K0 hgb hK0
  rw [hml1] at sc
  simp (disch:=omega) only [↓RS,RZ,simprocAttr,psV,pc_length]
  refine call_sc (sc _ fun H1 hU hg1=> ?_)
  have hsl:(srtQ (C.map Pt.x)).length=C.length:=by rw [(srtQ_perm _).length_eq,hml1]
  generalize srtQ (C.map Pt.x)=X at*
  have cs:=fun K0 hK0=> @compactG_sc X (by omega) bb false H1 K0 hg1 hK0
  rw [hsl] at hDx cs
  rw [←hDx] at cs
  have u0:=hU.get 0 _ (by omega) h0
  have u1:=hU.get 1 _ (by omega) h1
  have ul:=get_lt_len hg1
  simp (disch:=omega) only [↓RS,RZ,simprocAttr]
  refine call_sc (cs _ fun m hm1 hm2=> ?_)
  have v0:get (H1.set bb (some (.row 3 true (m.map qc)))) 0=_:=(get_ne (by omega)).trans u0
  have v1:get (H1.set bb (some (.row 3 true (m.map qc)))) 1=_:=(get_ne (by omega)).trans u1
  have vb:get (H1.set bb (some (.row 3 true (m.map qc)))) bb=some (.row 3 true (m.map qc)):=get_eq ul
  have tl:bb<(H1.set bb (some (.row 3 true (m.map qc)))).length:=by rw [List.length_set];exact ul
  generalize H1.set bb (some (.row 3 true (m.map qc)))=H3 at*
  have hDl:D.length≤X.length:=by
   have:=congrArg List.length hm2
   rw [List.length_take] at this
   omega
  have e0:m.getD 0 0=D.getD 0 0:=by rw [←hm2,List.getD_eq_getElem?_getD,List.getD_eq_getElem?_getD,List.getElem?_take_of_lt (by omega)]
  have e1:m.getD 1 0=D.getD 1 0:=by rw [←hm2,List.getD_eq_getElem?_getD,List.getD_eq_getElem?_getD,List.getElem?_take_of_lt (by omega)]
  have g0:=qc_get (l:=m) (i:=0) (by omega)
  have g1:=qc_get (l:=m) (i:=1) (by omega)
  rw [e0] at g0
  rw [e1] at g1
  have m1:PC prog 129 [qV (D.getD 0 0),qV (D.getD 1 0)] (qV (inX D)):=middle_pc (D.getD 0 0) (D.getD 1 0) (by omega) (by omega)
  simp (disch:=omega) only [↓RS,RZ,simprocAttr,vb,g0,g1,qc]
  refine cX m1 ?_
  have w0:∀ x,get (H3++[x]) 0=some (.row 2 true [[psV L,.lst 1 ((Hs.map psV).map fun v=>[v])]]):=fun x=>get_app v0
  have hne:(H3.length==bb)=false:=by rw [beq_eq_false_iff_ne];omega
  have hx:=ht_add (D.getD 0 0) (D.getD 1 0)
  have hx2:=ht_div (D.getD 0 0+D.getD 1 0) 2
  have hx3:=ht_two
  have hxx:ht (inX D)≤2^20:=by unfold inX;omega
  simp (disch:=omega) only [↓RS,RZ,simprocAttr,qV,rV,set_app_len,w0,psV,hne]
  refine cX ce ?_
  simp (disch:=omega) only [↓RS,RZ,simprocAttr,ssV,sgc_length]
  clear sc cs m1 hxq hDq ht0 ht1 hD hDx hx hx2 g0 g1 e0 e1 hm1 hm2
  generalize inX D=x at*
  refine wp_lp (fun (s:Nat×V) J=>ov [(1,.ptr 0 0 0),(2,.ptr 1 0 0),(3,.prim (.int .i64 (0))),(5,s.2),(8,.ptr H3.length 0 0),(42,ssV E),(43,.prim (.int .i64 ((E.length:Nat):Int))),(44,.prim (.int .i64 ((s.1:Nat):Int)))] J 0 72)
   (fun s H=>s.1≤E.length∧get H 1=some (.row 6 true [pc pt0])∧get H H3.length=some (.row 3 true [qc x])∧Bufn (H3.length+1) H s.2 3 ((ysL x (E.take s.1)).map qc)) (fun s=>E.length-s.1) (0,.prim (.slice none 0 0)) rfl ⟨Nat.zero_le _,get_app v1,get_app_len,.nil (by simp)⟩ ?_
  clear hi h0 h1 hge w0 v0 v1
  have hn1:2≤H3.length:=by omega
  generalize H3.length=n1 at hn1 ⊢
  rintro ⟨i,v⟩ J H ⟨hi,h1,h2,hB⟩
  try conv in ov _ _ _ _=>simp only [ov,List.lookup,RO,simprocAttr]
  simp only at hi h1 h2 hB ⊢
  rcases Nat.lt_or_ge i E.length with hlt|hge
  ·have g:=sgc_getD hlt
   have hmem:E.getD i sg0∈E:=by rw [List.getD_eq_getElem?_getD,List.getElem?_eq_getElem hlt];exact List.getElem_mem hlt
   have hss:hs (E.getD i sg0)≤2^16:=hEs _ hmem
   have he:=height_pc (E.getD i sg0) x (by omega) hxx
   have w2:∀ y,get (H++[y]) n1=some (.row 3 true [qc x]):=fun y=>get_app h2
   simp (disch:=omega) only [↓RS,RZ,simprocAttr,ssV,sgc_length,g,sgc,set_app_len,w2,qc]
   refine cX he ?_
   have hyl:=ysL_le (E.take i) x
   rw [List.length_take] at hyl
   have hys:=ysL_succ (x:=x) hlt
   rcases height_spans (hoE _ hmem) with ⟨k1,k2⟩|⟨k1,k2⟩
   ·rw [if_pos k2] at hys
    rw [k1]
    simp (disch:=omega) only [↓RS,RZ,simprocAttr,qV,rV,set_app_len]
    refine Bufn.append (((hB.app _).app _).app _) (by simp [cellV]) (by simp only [List.length_cons,List.length_nil,List.length_map];omega) (by simp only [List.length_cons,List.length_nil,List.length_map];omega) ?_
    intro v' H2 hb hk
    have r1:=hk 1 _ (by omega) (get_app (get_app (get_app h1)))
    have r2:=hk n1 _ (by omega) (get_app (get_app (get_app h2)))
    simp (disch:=omega) only [↓RS,RZ,simprocAttr]
    refine lp_next (i+1,v') rfl ⟨hlt,r1,r2,?_⟩ (by simp only;omega)
    show Bufn _ _ _ 3 ((ysL x (E.take (i+1))).map qc)
    rw [hys,List.map_append]
    exact hb
   ·rw [if_neg (by rw [k2];decide)] at hys
    generalize heightS (E.getD i sg0) x=r at*
    obtain ⟨y,er⟩:=r
    simp only at k1 ⊢
    simp (disch:=omega) only [↓RS,RZ,simprocAttr,qV,rV,set_app_len]
    refine lp_next (i+1,v) rfl ⟨hlt,get_app (get_app h1),get_app (get_app h2),?_⟩ (by simp only;omega)
    show Bufn _ _ _ 3 ((ysL x (E.take (i+1))).map qc)
    rw [hys]
    exact (hB.app _).app _
  ·have hia:i=E.length:=by omega
   subst hia
   rw [List.take_length] at hB
   have hyl:=ysL_le E x
   have hyq:∀ y∈ysL x E,ht y≤2^24:=fun y hy=>by
    obtain ⟨s,hs,_,rfl⟩:=mem_ys.1 hy
    have:=ht_hgt s x;have:=hEs s hs;omega
   generalize ysL x E=ys at*
   obtain ⟨bb,hbb,rfl,hgb⟩:=hB.cases (by intro e;have h0:=congrArg List.length e;rw [List.length_map,List.length_nil] at h0;omega)
   rw [List.length_map] at*
   have sc:=fun K0 hK0=> @sortG_sc 54 hF ys (by omega) (mem_hq fun y hy=>Nat.le_trans (hyq y hy) (by omega)) bb false H K0 hgb hK0
   simp (disch:=omega) only [↓RS,RZ,simprocAttr,ssV,sgc_length]
   refine call_sc (sc _ fun H4 hU4 hg4=> ?_)
   rw [←hS] at hg4
   have hSl:S.length=ys.length:=hSp.length_eq
   have hSq:hq S (2^24):=mem_hq fun y hy=>hyq y (hSp.mem_iff.1 hy)
   have g0:=qc_get (l:=S) (i:=0) (by omega)
   have g1:=qc_get (l:=S) (i:=1) (by omega)
   have m2:=middle_pc (S.getD 0 0) (S.getD 1 0) (Nat.le_trans (hSq 0 (by omega)) (by omega)) (Nat.le_trans (hSq 1 (by omega)) (by omega))
   have q1:=hU4.get 1 _ (by omega) h1
   have q2:=hU4.get n1 _ (by omega) h2
   have ql:=get_lt_len hg4
   have s3:∀ y,get (H4.set 1 y) 1=y:=fun y=>get_eq (H:=H4) (Nat.lt_of_lt_of_le (by omega:1<bb) (Nat.le_of_lt ql))
   simp (disch:=omega) only [↓RS,RZ,simprocAttr,q2,hg4,g0,g1,qc]
   refine cX m2 ?_
   simp (disch:=omega) only [↓RS,RZ,simprocAttr,qV,rV,q1,s3,pc]
   rfl
end Go.Av
namespace Go.Av
open Go.RowKit
open Go.Proofs.Tryz (prog)
theorem fineG_pc (O:List Rp) (hs:List (List Rp)) (hr:Read O hs):∃ b,PC prog 51 [pgV O hs] (.prim (.bool b))∧(b=true→Fine O hs∧greatP O hs=false):=by
 have hm:maxLen<2^63:=by decide
 have g:=greatP_pc O hs (by have:=hr.n;omega) (by have:=hr.o.1;omega) hr.o.2 (fun l hl=>⟨by have:=(hr.h l hl).1;omega,(hr.h l hl).2⟩)
 cases hg:greatP O hs with
 |true=>
  rw [hg] at g
  refine ⟨false,?_,fun h=>by cases h⟩
  refine PCi ?_
  conv in trip _ _=>cbv
  simp only [runT,RN,simprocAttr]
  simp (disch:=omega) only [↓RS,RZ,simprocAttr,pgV,hsV,rpsV]
  refine cX g ?_
  simp (disch:=omega) only [↓RS,RZ,simprocAttr]
 |false=>
  rw [hg] at g
  obtain ⟨h1,h2,h3,h4⟩:=greatP_small hg
  have c:=Pcheck_pc O hs (by omega) (by omega) h2 h4
  by_cases hz:chkP O hs=0
  ·rw [hz] at c
   refine ⟨true,?_,fun _=>⟨⟨hz,h2,h4⟩,rfl⟩⟩
   refine PCi ?_
   conv in trip _ _=>cbv
   simp only [runT,RN,simprocAttr]
   simp (disch:=omega) only [↓RS,RZ,simprocAttr,pgV,hsV,rpsV]
   refine cX g ?_
   simp (disch:=omega) only [↓RS,RZ,simprocAttr,pgV,hsV,rpsV]
   refine cX c ?_
   simp (disch:=omega) only [↓RS,RZ,simprocAttr]
  ·refine ⟨false,?_,fun h=>by cases h⟩
   refine PCi ?_
   conv in trip _ _=>cbv
   simp only [runT,RN,simprocAttr]
   simp (disch:=omega) only [↓RS,RZ,simprocAttr,pgV,hsV,rpsV]
   refine cX g ?_
   simp (disch:=omega) only [↓RS,RZ,simprocAttr,pgV,hsV,rpsV]
   refine cX c ?_
   simp (disch:=omega) only [↓RS,RZ,simprocAttr]
theorem Fine.hlP12 {O:List Rp} {hs:List (List Rp)} (hf:Fine O hs) (hg:greatP O hs=false):hlP (pts O) (hs.map pts) 12:=by
 obtain ⟨l1,l2⟩:=greatP_12 hg
 intro l hl
 rcases List.mem_cons.1 hl with rfl|hl
 ·exact hl_pts (chkR_ok hf.o0) l1 (by omega)
 ·obtain ⟨l0,h0,rfl⟩:=List.mem_map.1 hl
  obtain ⟨i,hi,rfl⟩:=List.mem_iff_getElem.1 h0
  have:=l2 i hi (by have:=hf.few;omega)
  rw [List.getD_eq_getElem?_getD,List.getElem?_eq_getElem hi] at this
  exact hl_pts (chkR_ok (hf.hr _ h0)) this (by omega)
theorem Fine.sz {O:List Rp} {hs:List (List Rp)} (hf:Fine O hs) (hg:greatP O hs=false):hs.length≤3∧∀ l∈O::hs,l.length≤10:=by
 have h64:=hf.no
 have h8:=hf.few
 unfold greatP at hg
 simp only [Bool.or_eq_false_iff,decide_eq_false_iff_not] at hg
 refine ⟨by omega,fun l hl=> ?_⟩
 rcases List.mem_cons.1 hl with rfl|hl
 ·omega
 ·obtain ⟨i,hi,rfl⟩:=List.mem_iff_getElem.1 hl
  have:=anyTo_get hg.2.2.2.1 (i:=i) (by omega)
  simp only [Bool.or_eq_false_iff,decide_eq_false_iff_not] at this
  rw [List.getD_eq_getElem?_getD,List.getElem?_eq_getElem hi] at this
  have:=this.1
  simp only [Option.getD_some] at this
  omega
theorem flat_few {X:List (List Pt)} (h:∀ l∈X,l.length≤10):X.flatten.length≤X.length*10:=by
 induction X with
 |nil=>simp
 |cons a X ih=>
  have h1:=h a (List.mem_cons_self ..)
  have h2:=ih fun l hl=>h l (List.mem_cons_of_mem _ hl)
  rw [List.flatten_cons,List.length_append,List.length_cons];omega
theorem Fine.few50 {O:List Rp} {hs:List (List Rp)} (hf:Fine O hs) (hg:greatP O hs=false):(cornersTo (pts O::hs.map pts) ((hs.map pts).length+1)).length<50:=by
 obtain ⟨h3,hz⟩:=hf.sz hg
 rw [cornersTo_all]
 have:= @flat_few (pts O::hs.map pts) fun l hl=>by
  rcases List.mem_cons.1 hl with rfl|hl
  ·rw [pts,List.length_map];exact hz O (List.mem_cons_self ..)
  ·obtain ⟨m,hm,rfl⟩:=List.mem_map.1 hl
   rw [pts,List.length_map];exact hz m (List.mem_cons_of_mem _ hm)
 rw [List.length_cons,List.length_map] at this
 omega
theorem inner_hp {L:List Pt} {Hs:List (List Pt)} (hv:Valid L Hs) (h12:hlP L Hs 12) {D S:List Rat} (hD:D=xsL (cornersTo (L::Hs) (Hs.length+1))) (hS:S=srtQ (ysL (inX D) (edgesTo (L::Hs) (Hs.length+1)))):
 hp ⟨inX D,(S.getD 0 0+S.getD 1 0)/2⟩≤2^16:=by
 obtain ⟨h2,ho,l,hl,s,hs1,hsp⟩:=line_ok hv hD
 have hy2:=two_spans hl hs1 hsp
 have hSp:S.Perm (ysL (inX D) (edgesTo (L::Hs) (Hs.length+1))):=by rw [hS];exact srtQ_perm _
 rw [←show inX D=(D.getD 0 0+D.getD 1 0)/2 from rfl,←hSp.length_eq] at hy2
 have hDq:∀ y∈D,ht y≤12:=fun y hy=>by
  rw [hD] at hy
  obtain ⟨p,hp,rfl⟩:=xsL_mem.1 hy
  rw [cornersTo_all] at hp
  obtain ⟨l,hl,hp⟩:=List.mem_flatten.1 hp
  have:=h12 l hl p hp
  have:=hp_x p
  omega
 have b0:=mem_hq hDq 0 (by omega)
 have b1:=mem_hq hDq 1 (by omega)
 have b2:=ht_add (D.getD 0 0) (D.getD 1 0)
 have b3:=ht_div (D.getD 0 0+D.getD 1 0) 2
 have b4:=ht_two
 have bx:ht (inX D)≤2^10:=by unfold inX;omega
 have hSq:∀ y∈S,ht y≤2^12:=fun y hy=>by
  obtain ⟨s,hs1,_,rfl⟩:=mem_ys.1 (hSp.mem_iff.1 hy)
  rw [eTo_all] at hs1
  obtain ⟨l,hl,hs1⟩:=List.mem_flatMap.1 hs1
  have k1:=h12 l hl _ (ends_mem hs1).1
  have k2:=h12 l hl _ (ends_mem hs1).2
  have k3:hs s≤12:=Nat.max_le.2 ⟨k1,k2⟩
  have:=ht_hgt s (inX D)
  omega
 have c0:=mem_hq hSq 0 (by omega)
 have c1:=mem_hq hSq 1 (by omega)
 have c2:=ht_add (S.getD 0 0) (S.getD 1 0)
 have c3:=ht_div (S.getD 0 0+S.getD 1 0) 2
 refine hp_mk ?_ ?_
 ·show ht (inX D)≤_;omega
 ·show ht ((S.getD 0 0+S.getD 1 0)/2)≤_;omega
theorem polygonInner_pc (O:List Rp) (hs:List (List Rp)) (hr:Read O hs):PC prog 10 [pgV O hs] (.prim (.bool true)):=by
 obtain ⟨b,f,hb⟩:=fineG_pc O hs hr
 have aw:=awake_pc
 cases b with
 |false=>
  refine PCi ?_
  conv in trip _ _=>cbv
  simp only [runT,RN,simprocAttr]
  simp (disch:=omega) only [↓RS,RZ,simprocAttr,pgV,hsV,rpsV]
  refine cX f ?_
  simp (disch:=omega) only [↓RS,RZ,simprocAttr]
  refine cX aw ?_
  simp (disch:=omega) only [↓RS,RZ,simprocAttr]
 |true=>
  obtain ⟨hf,hg⟩:=hb rfl
  have hv:=hf.valid
  have h12:=hf.hlP12 hg
  have h50:=hf.few50 hg
  rw [hf.val] at f ⊢
  clear hb hf hg hr
  generalize hs.map pts=Hs at*
  generalize pts O=L at*
  obtain ⟨D,hD⟩:∃ D,D=xsL (cornersTo (L::Hs) (Hs.length+1)):=⟨_,rfl⟩
  obtain ⟨S,hS⟩:∃ S,S=srtQ (ysL (inX D) (edgesTo (L::Hs) (Hs.length+1))):=⟨_,rfl⟩
  have ci:=interiorG_pc hv h50 hD hS
  have hq:=inner_hp hv h12 hD hS
  have cn:=hv.inside_pc _ hq
  obtain ⟨_,ho,l,hl,s,hs1,hsp⟩:=line_ok hv hD
  have hy2:=two_spans hl hs1 hsp
  rw [←show inX D=(D.getD 0 0+D.getD 1 0)/2 from rfl] at ho hy2
  have hSp:S.Perm (ysL (inX D) (edgesTo (L::Hs) (Hs.length+1))):=by rw [hS];exact srtQ_perm _
  rw [inner_one hv ho hS (by rw [hSp.length_eq];exact hy2)] at cn
  clear hS hD hSp hy2 ho hsp hq
  generalize (⟨inX D,(S.getD 0 0+S.getD 1 0)/2⟩:Pt)=Q at*
  refine PCi ?_
  conv in trip _ _=>cbv
  simp only [runT,RN,simprocAttr]
  simp (disch:=omega) only [↓RS,RZ,simprocAttr,cgV,psV]
  refine cX f ?_
  simp (disch:=omega) only [↓RS,RZ,simprocAttr,cgV,psV]
  refine cX ci ?_
  simp (disch:=omega) only [↓RS,RZ,simprocAttr,cgV,psV,pV,ptV]
  refine cX cn ?_
  simp (disch:=omega) only [↓RS,RZ,simprocAttr]
  refine cX aw ?_
  simp (disch:=omega) only [↓RS,RZ,simprocAttr]
end Go.Av
