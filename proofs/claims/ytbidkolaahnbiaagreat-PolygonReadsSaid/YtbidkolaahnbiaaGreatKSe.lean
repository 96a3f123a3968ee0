/- Helping texts: Se, Sf. -/
import Derived.Test.YtbidkolaahnbiaaGreatKSc
import Derived.Test.YtbidkolaahnbiaaGreatKSm
import Derived.Test.YtbidkolaahnbiaaGreatKRq
import Derived.Test.YtbidkolaahnbiaaGreatKMm
set_option linter.unusedSimpArgs false
set_option linter.unusedVariables false
set_option maxRecDepth 100000
set_option maxHeartbeats 16000000
namespace Go.Av
open Go.RowKit
open Go.Proofs.Tryz (prog)
theorem Ringside {L:List Pt} {Hs:List (List Pt)} (hv:Valid L Hs) {j:Nat} (hj:j<Hs.length):Ring (Hs.getD j []):=hv.holes _ (by
 rw [List.getD_eq_getElem?_getD,List.getElem?_eq_getElem hj];exact List.getElem_mem hj)
theorem rwhere_pc (L:List Pt) (Hs:List (List Pt)) (q:Pt) (hv:Valid L Hs) (hq:hp q≤2^20):PC prog 141 [cgV L Hs,pV q] (.prim (.int .i64 (whereS L Hs q))):=by
 have i1:=rinside_pc L q hv.out hq
 have s1:=sideS_one (l:=L) (q:=q)
 have r0:ringSide (L::Hs) q 0=sideS L q:=rfl
 have rS:∀ j,ringSide (L::Hs) q (j+1)= -sideS (Hs.getD j []) q:=fun j=>rfl
 have few:=hv.few
 unfold whereS
 by_cases h1:sideS L q<1
 ·rw [firstLe_found (i:=0) (by omega) (by rw [r0];omega) (fun j hj=>absurd hj (Nat.not_lt_zero j)),r0]
  generalize sideS L q=z at*
  refine PCi ?_
  conv in trip _ _=>cbv
  simp only [runT,RN,simprocAttr]
  simp (disch:=omega) only [↓RS,RZ,simprocAttr,cgV,psV,pV,ptV,pc]
  refine cX i1 ?_
  simp (disch:=omega) only [↓RS,RZ,simprocAttr]
 ·have e1:sideS L q=1:=by omega
  rw [e1] at i1
  refine PCi ?_
  conv in trip _ _=>cbv
  simp only [runT,RN,simprocAttr]
  simp (disch:=omega) only [↓RS,RZ,simprocAttr,cgV,psV,pV,ptV,pc]
  refine cX i1 ?_
  simp (disch:=omega) only [↓RS,RZ,simprocAttr,one_length,pgs_length]
  refine wp_lp (fun (i:Nat) J=>ov [(2,.ptr 0 0 0),(3,.ptr 1 0 0),(7,.prim (.int .i64 ((i:Nat):Int)))] J 0 41) (fun i H=>(i≤Hs.length∧∀ j,j<i+1→0<ringSide (L::Hs) q j)∧H=[some (.row 2 true [[psV L,.lst 1 ((Hs.map psV).map fun v=>[v])]]),some (.row 6 true [pc q])]) (fun i=>Hs.length-i) 0 rfl ⟨⟨Nat.zero_le _,fun j hj=>by rw [show j=0 by omega,r0,e1];decide⟩,rfl⟩ ?_
  rintro i J _ ⟨⟨hi,hp⟩,rfl⟩
  try conv in ov _ _ _ _=>simp only [ov,List.lookup,RO,simprocAttr]
  rcases Nat.lt_or_ge i Hs.length with hlt|hge
  ·have g:=pg_getD hlt
   have c:=rinside_pc (Hs.getD i []) q (Ringside hv hlt) hq
   have s2:=sideS_one (l:=Hs.getD i []) (q:=q)
   have e2:=rS i
   by_cases h2:0≤sideS (Hs.getD i []) q
   ·rw [firstLe_found (i:=i+1) (by omega) (by rw [e2];omega) hp,e2]
    generalize sideS (Hs.getD i []) q=z at*
    simp (disch:=omega) only [↓RS,RZ,simprocAttr,g,psV,pc,one_length,pgs_length]
    refine cX c ?_
    simp (disch:=omega) only [↓RS,RZ,simprocAttr,Int.zero_sub]
   ·generalize sideS (Hs.getD i []) q=z at*
    simp (disch:=omega) only [↓RS,RZ,simprocAttr,g,psV,pc,one_length,pgs_length]
    refine cX c ?_
    simp (disch:=omega) only [↓RS,RZ,simprocAttr]
    exact lp_next (i+1) rfl ⟨⟨hlt,fun j hj=>by
     rcases Nat.lt_or_ge j (i+1) with h|h
     ·exact hp j h
     ·rw [show j=i+1 by omega,e2];omega⟩,rfl⟩ (by omega)
  ·have hia:i=Hs.length:=by omega
   subst hia
   rw [firstLe_none hp]
   simp (disch:=omega) only [↓RS,RZ,simprocAttr,psV,one_length,pgs_length]
theorem append_empty {P:Program} {H:Hp} {K:V→Hp→Prop} {n0 b:Nat} {fx:Bool} {ei:TyI} {ys:List (List V)} (hg:get H b=some (.row ei.sz true [])) (hn:n0≤H.length) (hb:n0≤b) (hy:∀ y∈ys,∀ v∈y,cellV v=true) (hne:0<ys.length) (h1:ys.length*ei.bytes≤2^47) (h2:ys.length≤2^60)
 (hK:∀ v' H',Bufn n0 H' v' ei.sz ys→(∀ c k,c<n0→get H c=some k→get H' c=some k)→K v' H'):wpAppend P H ei (.sref b 0 0 0 ei.sz fx) ys K:=by
 unfold wpAppend
 refine ⟨hy,?_⟩
 simp only [hg]
 refine ⟨trivial,by simp,?_⟩
 cases fx with
 |true=>
  right;left
  refine ⟨rfl,by omega,by simpa using h1,by simpa using h2,hK _ _ ⟨by rw [List.length_append];omega,.inr ⟨H.length,hn,by simp,by rw [get_app_len];simp⟩⟩ (fun _ _ _ h=>get_app h)⟩
 |false=>
  right;right
  have hl:(H.set b none).length=H.length:=by simp
  refine ⟨rfl,trivial,by simpa using h1,by simpa using h2,hK _ _ ⟨by rw [List.length_append,hl];omega,.inr ⟨H.length,hn,by simp,by rw [←hl,get_app_len];simp⟩⟩ (fun c k hc h=>get_app (by rw [get_set_ne (by omega)];exact h))⟩
theorem rcorners_pc (L:List Pt) (Hs:List (List Pt)) (hv:Valid L Hs):PC prog 143 [cgV L Hs] (psV (cornersTo (L::Hs) (Hs.length+1))):=by
 have few:=hv.few
 have hlo:=hv.out.lo
 have hhi:=hv.out.hi
 refine PCi ?_
 conv in trip _ _=>cbv
 simp only [runT,RN,simprocAttr]
 simp (disch:=omega) only [↓RS,RZ,simprocAttr,cgV,psV,List.map_nil,List.drop_nil,List.take_nil]
 refine append_empty (n0:=1) rfl (by simp) (by simp) (prims_cell (pc_prims _)) (by simp only [List.length_map];omega) (by simp only [List.length_map];omega) (by simp only [List.length_map];omega) ?_
 intro v1 H1 hB1 hk1
 have g0:=hk1 0 _ (by omega) rfl
 simp (disch:=omega) only [↓RS,RZ,simprocAttr]
 refine wp_lp (fun (s:Nat×V) J=>ov [(1,.ptr 0 0 0),(3,s.2),(4,.prim (.int .i64 ((s.1:Nat):Int)))] J 0 24) (fun s H=>s.1≤Hs.length∧get H 0=some (.row 2 true [[psV L,.lst 1 ((Hs.map psV).map fun v=>[v])]])∧Bufn 1 H s.2 6 ((cornersTo (L::Hs) (s.1+1)).map pc)) (fun s=>Hs.length-s.1) (0,v1) rfl ⟨Nat.zero_le _,g0,by simpa [cornersTo] using hB1⟩ ?_
 rintro ⟨i,v⟩ J H ⟨hi,h0,hB⟩
 try conv in ov _ _ _ _=>simp only [ov,List.lookup,RO,simprocAttr]
 simp only at hi h0 hB ⊢
 rcases Nat.lt_or_ge i Hs.length with hlt|hge
 ·have g:=pg_getD hlt
  have d1:=hB.one
  have d2:=hB.cel
  have hr:=Ringside hv hlt
  have hrh:=hr.hi
  have hl1:=(cornersTo_le hv.rgs (i+1) (by omega)).1
  simp (disch:=omega) only [↓RS,RZ,simprocAttr,h0,g,psV,one_length,pgs_length,d1,d2]
  refine Bufn.append hB (prims_cell (pc_prims _)) (by simp only [List.length_map];omega) (by simp only [List.length_map];omega) ?_
  intro v' H3 hb3 hk
  simp (disch:=omega) only [↓RS,RZ,simprocAttr]
  refine lp_next (i+1,v') rfl ⟨hlt,hk 0 _ (by omega) h0,?_⟩ (by simp only;omega)
  show Bufn 1 H3 v' 6 ((cornersTo (L::Hs) (i+1)++Hs.getD i []).map pc)
  rw [List.map_append]
  exact hb3
 ·have hia:i=Hs.length:=by omega
  subst hia
  have hne:cornersTo (L::Hs) (Hs.length+1)≠[]:=cornersTo_ne hv.rgs _
  obtain ⟨b,_,rfl,hg⟩:=hB.cases (by simpa using hne)
  generalize cornersTo (L::Hs) (Hs.length+1)=C at*
  have hlen:(C.map pc).length=C.length:=List.length_map ..
  have htk:(C.map pc).take C.length=C.map pc:=by rw [List.take_of_length_le (by omega)]
  have hvl:= @viewLL_prims H 7 _ (pc_prims C)
  rw [hlen]
  simp (disch:=omega) only [↓RS,RZ,simprocAttr,h0,one_length,pgs_length,hg,hlen,htk,hvl,psV]
theorem redges_pc (L:List Pt) (Hs:List (List Pt)) (hv:Valid L Hs):PC prog 142 [cgV L Hs] (ssV (edgesTo (L::Hs) (Hs.length+1))):=by
 have few:=hv.few
 have hlo:=hv.out.lo
 have hhi:=hv.out.hi
 have e0:=rEdges_pc L (by omega) hv.out.ne
 refine PCi ?_
 conv in trip _ _=>cbv
 simp only [runT,RN,simprocAttr]
 simp (disch:=omega) only [↓RS,RZ,simprocAttr,cgV,psV,List.map_nil,List.drop_nil,List.take_nil]
 refine cX e0 ?_
 simp (disch:=omega) only [↓RS,RZ,simprocAttr,ssV]
 refine append_empty (n0:=1) rfl (by simp) (by simp) (prims_cell (sgc_prims _)) (by simp only [List.length_map,edgesL_length];omega) (by simp only [List.length_map,edgesL_length];omega) (by simp only [List.length_map,edgesL_length];omega) ?_
 intro v1 H1 hB1 hk1
 have g0:=hk1 0 _ (by omega) rfl
 simp (disch:=omega) only [↓RS,RZ,simprocAttr]
 refine wp_lp (fun (s:Nat×V) J=>ov [(1,.ptr 0 0 0),(3,s.2),(4,.prim (.int .i64 ((s.1:Nat):Int)))] J 0 26) (fun s H=>s.1≤Hs.length∧get H 0=some (.row 2 true [[psV L,.lst 1 ((Hs.map psV).map fun v=>[v])]])∧Bufn 1 H s.2 12 ((edgesTo (L::Hs) (s.1+1)).map sgc)) (fun s=>Hs.length-s.1) (0,v1) rfl ⟨Nat.zero_le _,g0,by simpa [edgesTo] using hB1⟩ ?_
 rintro ⟨i,v⟩ J H ⟨hi,h0,hB⟩
 try conv in ov _ _ _ _=>simp only [ov,List.lookup,RO,simprocAttr]
 simp only at hi h0 hB ⊢
 rcases Nat.lt_or_ge i Hs.length with hlt|hge
 ·have g:=pg_getD hlt
  have d1:=hB.one
  have d2:=hB.cel
  have hr:=Ringside hv hlt
  have hrh:=hr.hi
  have ee:=rEdges_pc (Hs.getD i []) (by omega) hr.ne
  obtain ⟨hl1,hl4⟩:=cornersTo_le hv.rgs (i+1) (by omega)
  simp (disch:=omega) only [↓RS,RZ,simprocAttr,h0,g,psV,one_length,pgs_length,d1,d2]
  refine cX ee ?_
  simp (disch:=omega) only [↓RS,RZ,simprocAttr,ssV,d1,d2]
  refine Bufn.append hB (prims_cell (sgc_prims _)) (by simp only [List.length_map,edgesL_length];omega) (by simp only [List.length_map,edgesL_length];omega) ?_
  intro v' H3 hb3 hk
  simp (disch:=omega) only [↓RS,RZ,simprocAttr]
  refine lp_next (i+1,v') rfl ⟨hlt,hk 0 _ (by omega) h0,?_⟩ (by simp only;omega)
  show Bufn 1 H3 v' 12 ((edgesTo (L::Hs) (i+1)++edgesL (Hs.getD i [])).map sgc)
  rw [List.map_append]
  exact hb3
 ·have hia:i=Hs.length:=by omega
  subst hia
  have hne:edgesTo (L::Hs) (Hs.length+1)≠[]:=fun h=>cornersTo_ne hv.rgs Hs.length (List.length_eq_zero_iff.1 (by rw [←(cornersTo_le hv.rgs (Hs.length+1) (Nat.le_refl _)).2,h];rfl))
  obtain ⟨b,_,rfl,hg⟩:=hB.cases (by simpa using hne)
  generalize edgesTo (L::Hs) (Hs.length+1)=C at*
  have hlen:(C.map sgc).length=C.length:=List.length_map ..
  have htk:(C.map sgc).take C.length=C.map sgc:=by rw [List.take_of_length_le (by omega)]
  have hvl:= @viewLL_prims H 7 _ (sgc_prims C)
  rw [hlen]
  simp (disch:=omega) only [↓RS,RZ,simprocAttr,h0,one_length,pgs_length,hg,hlen,htk,hvl,ssV]
theorem rmean_pc (p q:Rat) (h1:ht p≤2^30) (h2:ht q≤2^30):PC prog 144 [qV p,qV q] (qV ((p+q)/2)):=by
 have k:=ht_add p q
 have h3:=ht_two
 have a:=raddQ_pc p q (by omega) (by omega)
 have o:=rofR_pc 2 (by omega) (by omega)
 have d:=rquoQ_pc (p+q) 2 (by omega) (by omega) (by decide+kernel)
 rw [show ((2:Int):Rat)=2 from rfl] at o
 refine PCi ?_
 conv in trip _ _=>cbv
 simp only [runT,RN,simprocAttr]
 simp (disch:=omega) only [↓RS,RZ,simprocAttr,qV,rV]
 refine cX a ?_
 simp (disch:=omega) only [↓RS,RZ,simprocAttr,qV,rV]
 refine cX o ?_
 simp (disch:=omega) only [↓RS,RZ,simprocAttr,qV,rV]
 refine cX d ?_
 simp (disch:=omega) only [↓RS,RZ,simprocAttr,qV,rV]
 try rfl
end Go.Av
namespace Go.Av
open Go.RowKit
open Go.Proofs.Tryz (prog)
instance:DecidableEq Rp:=fun a b=>decidable_of_iff (a.x=b.x∧a.y=b.y) ⟨fun h=>by cases a;cases b;simp only at h;rw [h.1,h.2],fun h=>by subst h;exact ⟨rfl,rfl⟩⟩
theorem eqA_rp (p q:Rp):eqA (tyOf prog) 9 31 (.agg [.prim (.bool p.x.neg),.prim (.string (bs (p.x.num))),.prim (.string (bs (p.x.den))),.prim (.bool p.y.neg),.prim (.string (bs (p.y.num))),.prim (.string (bs (p.y.den)))]) (.agg [.prim (.bool q.x.neg),.prim (.string (bs (q.x.num))),.prim (.string (bs (q.x.den))),.prim (.bool q.y.neg),.prim (.string (bs (q.y.num))),.prim (.string (bs (q.y.den)))])=some (decide (p=q)):=by
 rw [eqA_pt]
 congr 1
 rw [decide_eq_decide]
 exact ⟨fun h=>by cases p;cases q;simp only at h;rw [h.1,h.2],fun h=>by subst h;exact ⟨rfl,rfl⟩⟩
theorem list_eq_iff {α:Type} {d:α} {A B:List α}:A=B↔A.length=B.length∧∀ i,i<A.length→A.getD i d=B.getD i d:=by
 constructor
 ·rintro rfl;exact ⟨rfl,fun _ _=>rfl⟩
 ·rintro ⟨h1,h2⟩
  refine List.ext_getElem h1 fun i k1 k2=> ?_
  have:=h2 i k1
  rwa [List.getD_eq_getElem?_getD,List.getD_eq_getElem?_getD,List.getElem?_eq_getElem k1,List.getElem?_eq_getElem k2] at this
theorem rsame_pc (A B:List Rp) (hA:A.length<2^40) (hB:B.length<2^40):PC prog 90 [rpsV A,rpsV B] (.prim (.bool (decide (A=B)))):=by
 by_cases hl:A.length=B.length
 ·skip
  refine PCi ?_
  conv in trip _ _=>cbv
  simp only [runT,RN,simprocAttr]
  simp (disch:=omega) only [↓RS,RZ,simprocAttr,rpsV,rpc_length]
  refine wp_lp (fun (i:Nat) J=>ov [(0,rpsV A),(1,rpsV B),(5,.prim (.int .i64 ((i:Nat):Int)))] J 0 26) (fun i _=>i≤A.length∧∀ j,j<i→A.getD j default=B.getD j default) (fun i=>A.length-i) 0 rfl ⟨Nat.zero_le _,fun j hj=>absurd hj (Nat.not_lt_zero j)⟩ ?_
  rintro i J H ⟨hi,hp⟩
  try conv in ov _ _ _ _=>simp only [ov,List.lookup,RO,simprocAttr]
  rcases Nat.lt_or_ge i A.length with hlt|hge
  ·have g1:=rpc_getD hlt
   have g2:=rpc_getD (l:=B) (k:=i) (by omega)
   have e:=eqA_rp (A.getD i default) (B.getD i default)
   by_cases h:A.getD i default=B.getD i default
   ·rw [decide_eq_true h] at e
    simp (disch:=omega) only [↓RS,RZ,simprocAttr,rpsV,rpc_length,g1,g2,rpc,e]
    exact lp_next (i+1) rfl ⟨hlt,fun j hj=>by
     rcases Nat.lt_or_ge j i with h|h
     ·exact hp j h
     ·rw [show j=i by omega];assumption⟩ (by omega)
   ·rw [decide_eq_false h] at e
    rw [decide_eq_false (fun k=>h (by rw [k]))]
    simp (disch:=omega) only [↓RS,RZ,simprocAttr,rpsV,rpc_length,g1,g2,rpc,e]
  ·have hia:i=A.length:=by omega
   subst hia
   rw [decide_eq_true ((list_eq_iff (d:=default)).2 ⟨hl,hp⟩)]
   simp (disch:=omega) only [↓RS,RZ,simprocAttr,rpsV,rpc_length]
 ·rw [decide_eq_false (fun k=>hl (by rw [k]))]
  refine PCi ?_
  conv in trip _ _=>cbv
  simp only [runT,RN,simprocAttr]
  simp (disch:=omega) only [↓RS,RZ,simprocAttr,rpsV,rpc_length]
theorem rsameP_pc (O:List Rp) (hs:List (List Rp)) (O':List Rp) (hs':List (List Rp)) (h1:O.length<2^40) (h2:O'.length<2^40) (h3:hs.length<2^40) (h4:hs'.length<2^40) (k1:∀ l∈hs,l.length<2^40) (k2:∀ l∈hs',l.length<2^40):
 PC prog 24 [pgV O hs,pgV O' hs'] (.prim (.bool (decide (O=O'∧hs=hs')))):=by
 have s:=rsame_pc O O' h1 h2
 by_cases hO:O=O'
 ·rw [decide_eq_true hO] at s
  by_cases hl:hs.length=hs'.length
  ·skip
   refine PCi ?_
   conv in trip _ _=>cbv
   simp only [runT,RN,simprocAttr]
   simp (disch:=omega) only [↓RS,RZ,simprocAttr,pgV,hsV,rpsV,one_length,hs_length]
   refine cX s ?_
   simp (disch:=omega) only [↓RS,RZ,simprocAttr,one_length,hs_length]
   refine wp_lp (fun (i:Nat) J=>ov [(2,.ptr 0 0 0),(3,.ptr 1 0 0),(5,.prim (.int .i64 ((i:Nat):Int)))] J 0 40) (fun i H=>(i≤hs.length∧∀ j,j<i→hs.getD j []=hs'.getD j [])∧H=[some (.row 2 true [[rpsV O,hsV hs]]),some (.row 2 true [[rpsV O',hsV hs']])]) (fun i=>hs.length-i) 0 rfl ⟨⟨Nat.zero_le _,fun j hj=>absurd hj (Nat.not_lt_zero j)⟩,rfl⟩ ?_
   rintro i J _ ⟨⟨hi,hp⟩,rfl⟩
   try conv in ov _ _ _ _=>simp only [ov,List.lookup,RO,simprocAttr]
   rcases Nat.lt_or_ge i hs.length with hlt|hge
   ·have g1:((hs.map rpsV).map fun v=>[v]).getD i []=[rpsV (hs.getD i [])]:=by rw [one_getD (by rw [hs_length];exact hlt),hs_getD hlt]
    have g2:((hs'.map rpsV).map fun v=>[v]).getD i []=[rpsV (hs'.getD i [])]:=by rw [one_getD (by rw [hs_length];omega),hs_getD (by omega)]
    have m1:hs.getD i []∈hs:=by rw [List.getD_eq_getElem?_getD,List.getElem?_eq_getElem hlt];exact List.getElem_mem hlt
    have m2:hs'.getD i []∈hs':=by rw [List.getD_eq_getElem?_getD,List.getElem?_eq_getElem (by omega)];exact List.getElem_mem (by omega)
    have c:=rsame_pc (hs.getD i []) (hs'.getD i []) (k1 _ m1) (k2 _ m2)
    by_cases h:hs.getD i []=hs'.getD i []
    ·rw [decide_eq_true h] at c
     simp (disch:=omega) only [↓RS,RZ,simprocAttr,hsV,rpsV,one_length,hs_length,g1,g2]
     refine cX c ?_
     simp (disch:=omega) only [↓RS,RZ,simprocAttr]
     exact lp_next (i+1) rfl ⟨⟨hlt,fun j hj=>by
      rcases Nat.lt_or_ge j i with h|h
      ·exact hp j h
      ·rw [show j=i by omega];assumption⟩,rfl⟩ (by omega)
    ·rw [decide_eq_false h] at c
     rw [decide_eq_false (fun k=>h (by rw [k.2]))]
     simp (disch:=omega) only [↓RS,RZ,simprocAttr,hsV,rpsV,one_length,hs_length,g1,g2]
     refine cX c ?_
     simp (disch:=omega) only [↓RS,RZ,simprocAttr]
   ·have hia:i=hs.length:=by omega
    subst hia
    rw [decide_eq_true ⟨hO,(list_eq_iff (d:=[])).2 ⟨hl,hp⟩⟩]
    simp (disch:=omega) only [↓RS,RZ,simprocAttr,hsV,rpsV,one_length,hs_length]
  ·rw [decide_eq_false (fun k=>hl (by rw [k.2]))]
   refine PCi ?_
   conv in trip _ _=>cbv
   simp only [runT,RN,simprocAttr]
   simp (disch:=omega) only [↓RS,RZ,simprocAttr,pgV,hsV,rpsV,one_length,hs_length]
   refine cX s ?_
   simp (disch:=omega) only [↓RS,RZ,simprocAttr,one_length,hs_length]
 ·rw [decide_eq_false hO] at s
  rw [decide_eq_false (fun k=>hO k.1)]
  refine PCi ?_
  conv in trip _ _=>cbv
  simp only [runT,RN,simprocAttr]
  simp (disch:=omega) only [↓RS,RZ,simprocAttr,pgV,hsV,rpsV,one_length,hs_length]
  refine cX s ?_
  simp (disch:=omega) only [↓RS,RZ,simprocAttr]
theorem cg_pg (L:List Pt) (Hs:List (List Pt)):cgV L Hs=pgV (L.map Pt.rp) (Hs.map fun l=>l.map Pt.rp):=by
 unfold cgV pgV hsV
 rw [psV_rps,List.map_map,List.map_map,List.map_map]
 have:Hs.map ((fun v=>[v])∘psV)=Hs.map (((fun v=>[v])∘rpsV)∘fun l=>l.map Pt.rp):=List.map_congr_left fun l _=>by
  simp only [Function.comp_apply,psV_rps]
 rw [this]
theorem rsameC_pc (L:List Pt) (Hs:List (List Pt)) (h1:L.length<2^40) (h3:Hs.length<2^40) (k1:∀ l∈Hs,l.length<2^40):PC prog 24 [cgV L Hs,cgV L Hs] (.prim (.bool true)):=by
 have k:∀ l∈Hs.map (fun l=>l.map Pt.rp),l.length<2^40:=fun l hl=>by
  obtain ⟨m,hm,rfl⟩:=List.mem_map.1 hl
  rw [List.length_map];exact k1 m hm
 have:=rsameP_pc (L.map Pt.rp) (Hs.map fun l=>l.map Pt.rp) (L.map Pt.rp) (Hs.map fun l=>l.map Pt.rp) (by rw [List.length_map];exact h1) (by rw [List.length_map];exact h1) (by rw [List.length_map];exact h3) (by rw [List.length_map];exact h3) k k
 rw [decide_eq_true ⟨rfl,rfl⟩,←cg_pg] at this
 exact this
end Go.Av
