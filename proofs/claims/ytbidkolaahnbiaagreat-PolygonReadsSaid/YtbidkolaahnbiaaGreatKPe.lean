/- Helping texts: Pe, Pf. -/
import Derived.Test.YtbidkolaahnbiaaGreatKPb
import Derived.Test.YtbidkolaahnbiaaGreatKSg
set_option linter.unusedSimpArgs false
set_option linter.unusedVariables false
set_option maxRecDepth 100000
set_option maxHeartbeats 16000000
namespace Go.Av
open Go.RowKit
open Go.Proofs.Tryz (prog)
theorem rat_pc (p q:Pt) (t:Rat) (h1:hp p≤2^28) (h2:hp q≤2^28) (h3:ht t≤2^28):PC prog 219 [pV p,pV q,qV t] (pV (p.at q t)):=by
 have a1:=hp_sub q p
 have a2:=hp_smul (q.sub p) t
 have c1:=rvsub_pc q p (by omega) (by omega)
 have c2:=rvscale_pc (q.sub p) t (by omega) (by omega)
 have c3:=rvadd_pc p ((q.sub p).smul t) (by omega) (by omega)
 refine PCi ?_
 conv in trip _ _=>cbv
 simp only [runT,RN,simprocAttr]
 simp (disch:=omega) only [↓RS,RZ,simprocAttr,pV,ptV,qV,rV]
 refine cX c1 ?_
 simp (disch:=omega) only [↓RS,RZ,simprocAttr,pV,ptV,qV,rV]
 refine cX c2 ?_
 simp (disch:=omega) only [↓RS,RZ,simprocAttr,pV,ptV,qV,rV]
 refine cX c3 ?_
 simp (disch:=omega) only [↓RS,RZ,simprocAttr,pV,ptV,qV,rV]
 try rfl
theorem lt_of_lt_le' {a b c:Rat} (h:a<b) (k:b≤c):a<c:=by grind
theorem cmpQ_m1 {p q:Rat} (h:p<q):cmpQ p q= -1:=by unfold cmpQ;rw [if_pos h]
theorem cmpQ_p1 {p q:Rat} (h:q<p):cmpQ p q=1:=by
 unfold cmpQ;rw [if_neg (fun k=>Rat.not_lt.2 (Rat.le_of_lt h) k),if_pos h]
theorem order_x {s:Sg} {x:Rat} (hs0:spans x s=true) (ho:offX x s):s.ok∧s.order.a.x<x∧x<s.order.b.x∧(s.order.a.at s.order.b ((x-s.order.a.x)/(s.order.b.x-s.order.a.x))).y=hgt x s:=by
 obtain ⟨h0,_,_⟩:=ratio_unit hs0 ho
 have hok:s.ok:=fun e=>h0 (by rw [cmpP_zero.1 e];grind)
 refine ⟨hok,?_⟩
 rcases spans_cases hs0 ho with ⟨h1,h2⟩|⟨h1,h2⟩
 ·have e:s.order=s:=by
   unfold Sg.order
   rw [if_neg]
   have:=cmpP_le.2 (.inl (show s.a.x<s.b.x by grind))
   omega
  rw [e]
  refine ⟨h1,h2,?_⟩
  unfold Pt.at Pt.add Pt.smul Pt.sub hgt
  try simp only
  grind
 ·have e:s.order=⟨s.b,s.a⟩:=by
   unfold Sg.order
   rw [if_pos]
   have k1:=cmpP_le.2 (.inl (show s.b.x<s.a.x by grind))
   have k2:cmpP s.a s.b≠0:=hok
   rcases Int.lt_or_le 0 (cmpP s.a s.b) with h|h
   ·exact h
   ·exact absurd (cmpP_zero.2 (cmpP_antisymm h k1)) k2
  rw [e]
  refine ⟨h1,h2,?_⟩
  unfold Pt.at Pt.add Pt.smul Pt.sub hgt
  try simp only
  have k1:(x-s.b.x)/(s.a.x-s.b.x)=1-(x-s.a.x)/(s.b.x-s.a.x):=by
   have:s.a.x-s.b.x≠0:=by grind
   grind
  rw [k1]
  grind
theorem rheight_pc (s:Sg) (x:Rat) (h1:hs s≤2^16) (h2:ht x≤2^20) (h3:spans x s=true) (h4:offX x s):PC prog 145 [sgV s,qV x] (.tup [qV (hgt x s),.prim (.int .i64 (0))]):=by
 obtain ⟨hok,k1,k2,ke⟩:=order_x h3 h4
 have c1:=rscheck_pc s (by omega)
 rw [if_neg hok] at c1
 have c2:=rsorder_pc s (by omega)
 have hu:=hs_order s
 generalize s.order=u at*
 have a1:=hs_a u;have a2:=hs_b u
 have a3:=hp_x u.a;have a4:=hp_x u.b
 have b1:=ht_sub u.b.x u.a.x
 have b2:=ht_sub x u.a.x
 have b3:=ht_div (x-u.a.x) (u.b.x-u.a.x)
 have c3:=rsubQ_pc u.b.x u.a.x (by omega) (by omega)
 have c4:=rsignQ_pc (u.b.x-u.a.x) (by omega)
 rw [cmpQ_p1 (show (0:Rat)<u.b.x-u.a.x by grind)] at c4
 have c5:=rcmpQ_pc x u.a.x (by omega) (by omega)
 rw [cmpQ_p1 k1] at c5
 have c6:=rcmpQ_pc x u.b.x (by omega) (by omega)
 rw [cmpQ_m1 k2] at c6
 have c7:=rsubQ_pc x u.a.x (by omega) (by omega)
 have c8:=rquoQ_pc (x-u.a.x) (u.b.x-u.a.x) (by omega) (by omega) (by grind)
 have c9:=rat_pc u.a u.b ((x-u.a.x)/(u.b.x-u.a.x)) (by omega) (by omega) (by omega)
 generalize (x-u.a.x)/(u.b.x-u.a.x)=k at*
 rw [←ke]
 clear ke b1 b2 b3
 generalize u.a.at u.b k=P at*
 generalize x-u.a.x=d1 at*
 generalize u.b.x-u.a.x=d2 at*
 refine PCi ?_
 conv in trip _ _=>cbv
 simp only [runT,RN,simprocAttr]
 simp (disch:=omega) only [↓RS,RZ,simprocAttr,sgV,s4V,qV,rV]
 refine cX c1 ?_
 simp (disch:=omega) only [↓RS,RZ,simprocAttr,sgV,s4V,qV,rV]
 refine cX c2 ?_
 simp (disch:=omega) only [↓RS,RZ,simprocAttr,sgV,s4V,qV,rV]
 refine cX c3 ?_
 simp (disch:=omega) only [↓RS,RZ,simprocAttr,sgV,s4V,qV,rV]
 refine cX c4 ?_
 simp (disch:=omega) only [↓RS,RZ,simprocAttr,sgV,s4V,qV,rV]
 refine cX c5 ?_
 simp (disch:=omega) only [↓RS,RZ,simprocAttr,sgV,s4V,qV,rV]
 refine cX c6 ?_
 simp (disch:=omega) only [↓RS,RZ,simprocAttr,sgV,s4V,qV,rV]
 refine cX c7 ?_
 simp (disch:=omega) only [↓RS,RZ,simprocAttr,sgV,s4V,qV,rV]
 refine cX c8 ?_
 simp (disch:=omega) only [↓RS,RZ,simprocAttr,sgV,s4V,qV,rV,pV,ptV]
 refine cX c9 ?_
 simp (disch:=omega) only [↓RS,RZ,simprocAttr,sgV,s4V,qV,rV,pV,ptV]
 try rfl
variable {L:List Pt} {Hs:List (List Pt)}
theorem rAreaP_pc (hv:Valid L Hs):PC prog 62 [cgV L Hs] (.tup [qV (areaPTo L Hs Hs.length),.prim (.int .i64 (0))]):=by
 have c:=hv.rcheck_pc
 have hr:=hv.rgs
 have hf:=hr.few
 have hi:=hr.out.hi
 have a:=rArea_pc L (by omega) hr.out.ht
 have hz:qc 0=[.prim (.bool false),.prim (.string (bs ([]))),.prim (.string (bs ([])))]:=by simp only [qc,can_zero]
 refine PCi ?_
 conv in trip _ _=>cbv
 simp only [runT,RN,simprocAttr]
 simp (disch:=omega) only [↓RS,RZ,simprocAttr,cgV,psV]
 refine cX c ?_
 simp (disch:=omega) only [↓RS,RZ,simprocAttr,psV]
 refine cX a ?_
 simp (disch:=omega) only [↓RS,RZ,simprocAttr,qV,rV]
 refine wp_lp (fun (i:Nat) J=>ov [(1,.ptr 0 0 0),(2,.ptr 1 0 0),(4,.ptr 2 0 0),(5,.prim (.int .i64 ((i:Nat):Int)))] J 0 29) (fun i H=>i≤Hs.length∧H=[some (.row 2 true [[psV L,.lst 1 ((Hs.map psV).map fun v=>[v])]]),some (.row 3 true [qc 0]),some (.row 3 true [qc (areaPTo L Hs i)])]) (fun i=>Hs.length-i) 0 rfl ⟨Nat.zero_le _,by rw [hz];rfl⟩ ?_
 rintro i J _ ⟨hi,rfl⟩
 try conv in ov _ _ _ _=>simp only [ov,List.lookup,RO,simprocAttr]
 rcases Nat.lt_or_ge i Hs.length with hlt|hge
 ·have g:=pg_getD hlt
  have rh:=hr.hole hlt
  have r2:=rh.hi
  have a:=rArea_pc (Hs.getD i []) (by omega) rh.ht
  have t1:=ht_areaPTo hr i (by omega)
  have t2:=ht_areaL rh
  have t3:(i+1)*(2^25+1)≤9*(2^25+1):=Nat.mul_le_mul_right _ (by omega)
  have s:=rsubQ_pc (areaPTo L Hs i) (areaL (Hs.getD i [])) (by omega) (by omega)
  simp (disch:=omega) only [↓RS,RZ,simprocAttr,one_length,pgs_length,g,qc,psV]
  refine cX a ?_
  simp (disch:=omega) only [↓RS,RZ,simprocAttr,qV,rV]
  refine cX s ?_
  simp (disch:=omega) only [↓RS,RZ,simprocAttr,qV,rV,qc]
  exact lp_next (i+1) rfl ⟨hlt,rfl⟩ (by omega)
 ·have hia:i=Hs.length:=by omega
  subst hia
  simp (disch:=omega) only [↓RS,RZ,simprocAttr,one_length,pgs_length,qc]
theorem rInsideP_pc (hv:Valid L Hs) (q:Pt) (hq:hp q≤2^20):PC prog 63 [cgV L Hs,pV q] (.tup [.prim (.int .i64 (whereS L Hs q)),.prim (.int .i64 (0))]):=by
 have c:=hv.rcheck_pc
 have v:=rvcheckP_pc q hq
 have w:=rwhere_pc L Hs q hv hq
 generalize whereS L Hs q=z at*
 refine PCi ?_
 conv in trip _ _=>cbv
 simp only [runT,RN,simprocAttr]
 simp (disch:=omega) only [↓RS,RZ,simprocAttr,cgV,psV,pV,ptV]
 refine cX c ?_
 simp (disch:=omega) only [↓RS,RZ,simprocAttr,psV,pV,ptV]
 refine cX v ?_
 simp (disch:=omega) only [↓RS,RZ,simprocAttr,psV,pV,ptV]
 refine cX w ?_
 simp (disch:=omega) only [↓RS,RZ,simprocAttr]
theorem rEdgesP_pc (hv:Valid L Hs):PC prog 64 [cgV L Hs] (.tup [ssV (edgesTo (L::Hs) (Hs.length+1)),.prim (.int .i64 (0))]):=by
 have c:=hv.rcheck_pc
 have e:=redges_pc L Hs hv
 generalize edgesTo (L::Hs) (Hs.length+1)=E at*
 refine PCi ?_
 conv in trip _ _=>cbv
 simp only [runT,RN,simprocAttr]
 simp (disch:=omega) only [↓RS,RZ,simprocAttr,cgV,psV]
 refine cX c ?_
 simp (disch:=omega) only [↓RS,RZ,simprocAttr,psV]
 refine cX e ?_
 simp (disch:=omega) only [↓RS,RZ,simprocAttr,ssV]
theorem rCornersP_pc (hv:Valid L Hs):PC prog 66 [cgV L Hs] (.tup [psV (cornersTo (L::Hs) (Hs.length+1)),.prim (.int .i64 (0))]):=by
 have c:=hv.rcheck_pc
 have e:=rcorners_pc L Hs hv
 generalize cornersTo (L::Hs) (Hs.length+1)=C at*
 refine PCi ?_
 conv in trip _ _=>cbv
 simp only [runT,RN,simprocAttr]
 simp (disch:=omega) only [↓RS,RZ,simprocAttr,cgV,psV]
 refine cX c ?_
 simp (disch:=omega) only [↓RS,RZ,simprocAttr,psV]
 refine cX e ?_
 simp (disch:=omega) only [↓RS,RZ,simprocAttr,psV]
theorem dist0 {D:List Rat} (h:D.Pairwise (·<·)) (h2:2≤D.length) {f:Rat} (hm:f∈D) (hle:∀ y∈D,f≤y):f=D.getD 0 0:=by
 obtain ⟨k1,k2,k3⟩:=strict_two h h2
 rcases k3 f hm with h|h
 ·exact h
 ·have:=hle _ k2;grind
theorem dist1 {D:List Rat} (h:D.Pairwise (·<·)) (h2:2≤D.length) {f:Rat} (hm:f∈D) (hf:D.getD 0 0<f) (hle:∀ y∈D,D.getD 0 0<y→f≤y):f=D.getD 1 0:=by
 obtain ⟨k1,k2,k3⟩:=strict_two h h2
 have m1:D.getD 1 0∈D:=by rw [List.getD_eq_getElem?_getD,List.getElem?_eq_getElem (by omega)];exact List.getElem_mem _
 have:=hle _ m1 k1
 rcases k3 f hm with h|h<;>grind
def Low2 (ys:List Rat) (low high:Rat):Prop:=match ys with
 |[]=>low=0∧high=0
 |[y]=>low=y∧high=0
 |_=>∃ R:List Rat,ys.Perm (low::high::R)∧low≤high∧∀ y∈R,high≤y
theorem Low2.two {ys:List Rat} {low high:Rat} (h2:2≤ys.length):Low2 ys low high↔∃ R:List Rat,ys.Perm (low::high::R)∧low≤high∧∀ y∈R,high≤y:=by
 match ys,h2 with
 |a::b::t,_=>exact Iff.rfl
theorem Low2.srt {ys:List Rat} {low high:Rat} (h:Low2 ys low high) (h2:2≤ys.length):(srtQ ys).getD 0 0=low∧(srtQ ys).getD 1 0=high:=by
 obtain ⟨R,hp,h1,h3⟩:=(Low2.two h2).1 h
 have e:srtQ ys=low::high::srtQ R:=by
  refine asc_eq ((srtQ_perm _).trans (hp.trans ((srtQ_perm R).symm.cons _|>.cons _))) (srtQ_asc _) ?_
  have hm:∀ y∈srtQ R,high≤y:=fun y hy=>h3 y ((srtQ_perm R).mem_iff.1 hy)
  refine List.pairwise_cons.2 ⟨fun y hy=> ?_,List.pairwise_cons.2 ⟨hm,srtQ_asc R⟩⟩
  rcases List.mem_cons.1 hy with rfl|hy
  ·exact h1
  ·exact Rat.le_trans h1 (hm y hy)
 rw [e];exact ⟨rfl,rfl⟩
theorem Low2.zero:Low2 [] 0 0:=⟨rfl,rfl⟩
theorem Low2.first {ys:List Rat} {low high y:Rat} (h:Low2 ys low high) (h0:ys.length=0):Low2 (ys++[y]) y high:=by
 match ys,h,h0 with
 |[],h,_=>exact ⟨rfl,h.2⟩
theorem Low2.least {ys:List Rat} {low high y:Rat} (h:Low2 ys low high) (h0:1≤ys.length) (hy:y<low):Low2 (ys++[y]) y low:=by
 match ys,h,h0 with
 |[a],h,_=>
  obtain ⟨rfl,_⟩:=h
  exact ⟨[],List.Perm.swap ..,Rat.le_of_lt hy,fun _ h=>by cases h⟩
 |a::b::t,h,_=>
  obtain ⟨R,hp,h1,h3⟩:=h
  refine (Low2.two (by simp)).2 ⟨high::R,?_,Rat.le_of_lt hy,fun z hz=> ?_⟩
  ·exact (List.perm_append_singleton ..).trans (hp.cons y)
  ·rcases List.mem_cons.1 hz with rfl|hz
   ·exact h1
   ·exact Rat.le_trans h1 (h3 z hz)
theorem Low2.next {ys:List Rat} {low high y:Rat} (h:Low2 ys low high) (h0:1≤ys.length) (hy:¬y<low) (hc:ys.length=1∨y<high):Low2 (ys++[y]) low y:=by
 have hy:=Rat.not_lt.1 hy
 match ys,h,h0 with
 |[a],h,_=>
  obtain ⟨rfl,_⟩:=h
  exact ⟨[],List.Perm.refl _,hy,fun _ h=>by cases h⟩
 |a::b::t,h,_=>
  obtain ⟨R,hp,h1,h3⟩:=h
  have hc:y<high:=hc.resolve_left (by simp)
  refine (Low2.two (by simp)).2 ⟨high::R,?_,hy,fun z hz=> ?_⟩
  ·exact (List.perm_append_singleton ..).trans ((hp.cons y).trans (List.Perm.swap ..))
  ·rcases List.mem_cons.1 hz with rfl|hz
   ·exact Rat.le_of_lt hc
   ·exact Rat.le_trans (Rat.le_of_lt hc) (h3 z hz)
theorem Low2.stay {ys:List Rat} {low high y:Rat} (h:Low2 ys low high) (h0:2≤ys.length) (hc:¬y<high):Low2 (ys++[y]) low high:=by
 obtain ⟨R,hp,h1,h3⟩:=(Low2.two h0).1 h
 refine (Low2.two (by rw [List.length_append];omega)).2 ⟨y::R,?_,h1,fun z hz=> ?_⟩
 ·exact (List.perm_append_singleton ..).trans ((hp.cons y).trans ((List.Perm.swap ..).trans ((List.Perm.swap ..).cons _)))
 ·rcases List.mem_cons.1 hz with rfl|hz
  ·exact Rat.not_lt.1 hc
  ·exact h3 z hz
theorem Low2.mem {ys:List Rat} {low high:Rat} (h:Low2 ys low high):(low=0∨low∈ys)∧(high=0∨high∈ys):=by
 match ys,h with
 |[],h=>exact ⟨.inl h.1,.inl h.2⟩
 |[a],h=>exact ⟨.inr (by rw [h.1];exact List.mem_cons_self ..),.inl h.2⟩
 |a::b::t,h=>
  obtain ⟨R,hp,_⟩:=h
  exact ⟨.inr (hp.mem_iff.2 (List.mem_cons_self ..)),.inr (hp.mem_iff.2 (List.mem_cons_of_mem _ (List.mem_cons_self ..)))⟩
end Go.Av
namespace Go.Av
open Go.RowKit
open Go.Proofs.Tryz (prog)
variable {L:List Pt} {Hs:List (List Pt)}
theorem rInterior_pc (hv:Valid L Hs) {D S:List Rat} (hD:D=xsL (cornersTo (L::Hs) (Hs.length+1))) (hS:S=srtQ (ysL (inX D) (edgesTo (L::Hs) (Hs.length+1)))):
 PC prog 67 [cgV L Hs] (.tup [pV ⟨inX D,(S.getD 0 0+S.getD 1 0)/2⟩,.prim (.int .i64 (0))]):=by
 have ck:=hv.rcheck_pc
 have cc:=rcorners_pc L Hs hv
 have ce:=redges_pc L Hs hv
 obtain ⟨h2,ho,l,hl,s,hs1,hsp⟩:=line_ok hv hD
 have hy2:=two_spans hl hs1 hsp
 rw [←show inX D=(D.getD 0 0+D.getD 1 0)/2 from rfl] at ho hy2
 have hlC:=hl_corners hv.rgs (Hs.length+1) (Nat.le_refl _)
 have hEs:=hs_edges hv.rgs (Hs.length+1) (Nat.le_refl _)
 obtain ⟨lC,lE⟩:=cornersTo_le hv.rgs (Hs.length+1) (Nat.le_refl _)
 have few:=hv.few
 have hoE:∀ s∈edgesTo (L::Hs) (Hs.length+1),offX (inX D) s:=fun s hs=>by
  rw [eTo_all] at hs
  obtain ⟨l,hl,hs⟩:=List.mem_flatMap.1 hs
  exact ho.edge hl hs
 clear hsp hs1 hl ho
 have hst:D.Pairwise (·<·):=by rw [hD];exact xsL_strict _
 have hmD:∀ {y},y∈D↔∃ p∈cornersTo (L::Hs) (Hs.length+1),p.x=y:=fun {y}=>by rw [hD];exact xsL_mem
 generalize edgesTo (L::Hs) (Hs.length+1)=E at*
 generalize cornersTo (L::Hs) (Hs.length+1)=C at*
 have hDq:∀ y∈D,ht y≤2^16:=fun y hy=>by
  obtain ⟨p,hp,rfl⟩:=hmD.1 hy
  have:=hlC p hp
  have:=hp_x p
  omega
 have hC0:0<C.length:=by
  obtain ⟨p,hp,_⟩:=hmD.1 (strict_two hst h2).2.1
  exact List.length_pos_of_mem hp
 have memC:∀ {i},i<C.length→C.getD i default∈C:=fun {i} hi=>by
  rw [List.getD_eq_getElem?_getD,List.getElem?_eq_getElem hi];exact List.getElem_mem hi
 have htC:∀ {i},i<C.length→ht (C.getD i default).x≤2^16:=fun {i} hi=>by
  have:=hlC _ (memC hi);have:=hp_x (C.getD i default);omega
 have g0:=pc_getD hC0
 have hz:qc 0=[.prim (.bool false),.prim (.string (bs ([]))),.prim (.string (bs ([])))]:=by simp only [qc,can_zero]
 have hpz:pc pt0=[.prim (.bool false),.prim (.string (bs ([]))),.prim (.string (bs ([]))),.prim (.bool false),.prim (.string (bs ([]))),.prim (.string (bs ([])))]:=by simp only [pc,pt0,can_zero]
 refine PCi ?_
 conv in trip _ _=>cbv
 simp only [runT,RN,simprocAttr]
 simp (disch:=omega) only [↓RS,RZ,simprocAttr,cgV,psV]
 refine cX ck ?_
 simp (disch:=omega) only [↓RS,RZ,simprocAttr,cgV,psV]
 refine cX cc ?_
 simp (disch:=omega) only [↓RS,RZ,simprocAttr,psV,pc_length,g0,pc]
 refine wp_lp (fun (s:Nat×Rat) J=>ov [(1,.ptr 0 0 0),(2,.ptr 1 0 0),(3,.prim (.int .i64 (0))),(4,psV C),(5,.ptr 2 0 0),(6,.prim (.int .i64 ((s.1:Nat):Int)))] J 0 147)
  (fun s H=>(s.1≤C.length∧(∃ p∈C,p.x=s.2)∧∀ j,j<s.1→s.2≤(C.getD j default).x)∧H=[some (.row 2 true [[psV L,.lst 1 ((Hs.map psV).map fun v=>[v])]]),some (.row 6 true [pc pt0]),some (.row 3 true [qc s.2])]) (fun s=>C.length-s.1) (0,(C.getD 0 default).x) rfl ⟨⟨Nat.zero_le _,⟨_,memC hC0,rfl⟩,fun j hj=>absurd hj (Nat.not_lt_zero j)⟩,by rw [hpz];rfl⟩ ?_
 rintro ⟨i,f⟩ J _ ⟨⟨hi,hf,hle⟩,rfl⟩
 try conv in ov _ _ _ _=>simp only [ov,List.lookup,RO,simprocAttr]
 simp only at hi hf hle ⊢
 have hfq:ht f≤2^16:=by obtain ⟨p,hp,rfl⟩:=hf;have:=hlC p hp;have:=hp_x p;omega
 rcases Nat.lt_or_ge i C.length with hlt|hge
 ·have g:=pc_getD hlt
  have c:=rcmpQ_pc (C.getD i default).x f (by have:=htC hlt;omega) (by omega)
  simp (disch:=omega) only [↓RS,RZ,simprocAttr,psV,pc_length,g,pc,qc]
  refine cX c ?_
  by_cases k:(C.getD i default).x<f
  ·have k':=cmpQ_m1 k
   simp (disch:=omega) only [↓RS,RZ,simprocAttr,psV,pc_length,g,pc,qc,k']
   exact lp_next (i+1,(C.getD i default).x) rfl ⟨⟨hlt,⟨_,memC hlt,rfl⟩,fun j hj=>by
    simp only at hj ⊢
    rcases Nat.lt_or_ge j i with h|h
    ·exact Rat.le_of_lt (lt_of_lt_le' k (hle j h))
    ·rw [show j=i by omega];exact Rat.le_refl⟩,rfl⟩ (by simp only;omega)
  ·have k':¬cmpQ (C.getD i default).x f<0:=fun h=>k (cmpQ_lt.1 h)
   simp (disch:=omega) only [↓RS,RZ,simprocAttr,qc]
   exact lp_next (i+1,f) rfl ⟨⟨hlt,hf,fun j hj=>by
    simp only at hj ⊢
    rcases Nat.lt_or_ge j i with h|h
    ·exact hle j h
    ·rw [show j=i by omega];exact Rat.not_lt.1 k⟩,rfl⟩ (by simp only;omega)
 have hia:i=C.length:=by omega
 subst hia
 have hfD:f=D.getD 0 0:=dist0 hst h2 (hmD.2 hf) fun y hy=>by
  obtain ⟨p,hp,rfl⟩:=hmD.1 hy
  obtain ⟨j,hj,rfl⟩:=mem_getD hp
  exact hle j hj
 simp (disch:=omega) only [↓RS,RZ,simprocAttr,psV,pc_length,qc]
 refine wp_lp (fun (s:Nat×Rat×Bool) J=>ov [(1,.ptr 0 0 0),(2,.ptr 1 0 0),(3,.prim (.int .i64 (0))),(4,psV C),(5,.ptr 2 0 0),(7,.ptr 3 0 0),(8,.prim (.bool (s.2.2))),(9,.prim (.int .i64 ((s.1:Nat):Int)))] J 0 147)
  (fun s H=>(s.1≤C.length∧ht s.2.1≤2^16∧(s.2.2=false→∀ j,j<s.1→¬f<(C.getD j default).x)∧(s.2.2=true→(∃ p∈C,p.x=s.2.1∧f<s.2.1)∧∀ j,j<s.1→f<(C.getD j default).x→s.2.1≤(C.getD j default).x))∧H=[some (.row 2 true [[psV L,.lst 1 ((Hs.map psV).map fun v=>[v])]]),some (.row 6 true [pc pt0]),some (.row 3 true [qc f]),some (.row 3 true [qc s.2.1])]) (fun s=>C.length-s.1) (0,f,false) rfl ⟨⟨Nat.zero_le _,hfq,fun _ j hj=>absurd hj (Nat.not_lt_zero j),fun h=>by cases h⟩,rfl⟩ ?_
 clear hi hle hge
 rintro ⟨i,n,found⟩ J2 _ ⟨⟨hi,hnq,hn0,hn1⟩,rfl⟩
 try conv in ov _ _ _ _=>simp only [ov,List.lookup,RO,simprocAttr]
 simp only at hi hnq hn0 hn1 ⊢
 rcases Nat.lt_or_ge i C.length with hlt|hge
 ·have g:=pc_getD hlt
  have c1:=rcmpQ_pc (C.getD i default).x f (by have:=htC hlt;omega) (by omega)
  have c2:=rcmpQ_pc (C.getD i default).x n (by have:=htC hlt;omega) (by omega)
  by_cases k:f<(C.getD i default).x
  ·rw [cmpQ_p1 k] at c1
   cases found with
   |false=>
    simp (disch:=omega) only [↓RS,RZ,simprocAttr,psV,pc_length,g,pc,qc]
    refine cX c1 ?_
    simp (disch:=omega) only [↓RS,RZ,simprocAttr,psV,pc_length,g,pc,qc]
    refine lp_next (i+1,(C.getD i default).x,true) rfl ⟨⟨hlt,htC hlt,(fun h=>by cases h),fun _=>⟨⟨_,memC hlt,rfl,k⟩,fun j hj hj2=> ?_⟩⟩,rfl⟩ (by simp only;omega)
    simp only at hj ⊢
    rcases Nat.lt_or_ge j i with h|h
    ·exact absurd hj2 (hn0 rfl j h)
    ·rw [show j=i by omega];exact Rat.le_refl
   |true=>
    by_cases k2:(C.getD i default).x<n
    ·rw [cmpQ_m1 k2] at c2
     simp (disch:=omega) only [↓RS,RZ,simprocAttr,psV,pc_length,g,pc,qc]
     refine cX c1 ?_
     simp (disch:=omega) only [↓RS,RZ,simprocAttr,psV,pc_length,g,pc,qc]
     refine cX c2 ?_
     simp (disch:=omega) only [↓RS,RZ,simprocAttr,psV,pc_length,g,pc,qc]
     refine lp_next (i+1,(C.getD i default).x,true) rfl ⟨⟨hlt,htC hlt,(fun h=>by cases h),fun _=>⟨⟨_,memC hlt,rfl,k⟩,fun j hj hj2=> ?_⟩⟩,rfl⟩ (by simp only;omega)
     simp only at hj ⊢
     rcases Nat.lt_or_ge j i with h|h
     ·exact Rat.le_of_lt (lt_of_lt_le' k2 ((hn1 rfl).2 j h hj2))
     ·rw [show j=i by omega];exact Rat.le_refl
    ·have k3:¬cmpQ (C.getD i default).x n<0:=fun h=>k2 (cmpQ_lt.1 h)
     generalize cmpQ (C.getD i default).x n=z at*
     simp (disch:=omega) only [↓RS,RZ,simprocAttr,psV,pc_length,g,pc,qc]
     refine cX c1 ?_
     simp (disch:=omega) only [↓RS,RZ,simprocAttr,psV,pc_length,g,pc,qc]
     refine cX c2 ?_
     simp (disch:=omega) only [↓RS,RZ,simprocAttr,qc]
     refine lp_next (i+1,n,true) rfl ⟨⟨hlt,hnq,(fun h=>by cases h),fun _=>⟨(hn1 rfl).1,fun j hj hj2=> ?_⟩⟩,rfl⟩ (by simp only;omega)
     simp only at hj ⊢
     rcases Nat.lt_or_ge j i with h|h
     ·exact (hn1 rfl).2 j h hj2
     ·rw [show j=i by omega];exact Rat.not_lt.1 k2
  ·have k3:cmpQ (C.getD i default).x f≤0:=cmpQ_le.2 (Rat.not_lt.1 k)
   generalize cmpQ (C.getD i default).x f=z at*
   simp (disch:=omega) only [↓RS,RZ,simprocAttr,psV,pc_length,g,pc,qc]
   refine cX c1 ?_
   simp (disch:=omega) only [↓RS,RZ,simprocAttr,qc]
   refine lp_next (i+1,n,found) rfl ⟨⟨hlt,hnq,fun h j hj=> ?_,fun h=>⟨(hn1 h).1,fun j hj hj2=> ?_⟩⟩,rfl⟩ (by simp only;omega)
   ·rcases Nat.lt_or_ge j i with h'|h'
    ·exact hn0 h j h'
    ·rw [show j=i by simp only at hj;omega];exact k
   ·rcases Nat.lt_or_ge j i with h'|h'
    ·exact (hn1 h).2 j h' hj2
    ·rw [show j=i by simp only at hj;omega] at hj2;exact absurd hj2 k
 have hia:i=C.length:=by omega
 subst hia
 obtain ⟨m0,m1⟩:D.getD 0 0<D.getD 1 0∧D.getD 1 0∈D:=⟨(strict_two hst h2).1,by rw [List.getD_eq_getElem?_getD,List.getElem?_eq_getElem (by omega)];exact List.getElem_mem _⟩
 have hft:found=true:=by
  cases found with
  |true=>rfl
  |false=>
   obtain ⟨p,hp,e⟩:=hmD.1 m1
   obtain ⟨j,hj,rfl⟩:=mem_getD hp
   exact absurd (show f<(C.getD j default).x by rw [e,hfD];exact m0) (hn0 rfl j hj)
 obtain ⟨⟨p,hp,hpx,hlt⟩,hall⟩:=hn1 hft
 have hnD:n=D.getD 1 0:=dist1 hst h2 (hmD.2 ⟨p,hp,hpx⟩) (by rw [←hfD];exact hlt) fun y hy h=>by
  obtain ⟨q,hq,rfl⟩:=hmD.1 hy
  obtain ⟨j,hj,rfl⟩:=mem_getD hq
  exact hall j hj (by rw [hfD];exact h)
 have mm:=rmean_pc f n (by omega) (by omega)
 have exx:(f+n)/2=inX D:=by rw [hfD,hnD];rfl
 have b1:=ht_add f n
 have b2:=ht_div (f+n) 2
 have b3:=ht_two
 have hxx:ht (inX D)≤2^20:=by rw [←exx];omega
 rw [exx] at mm
 clear b1 b2 b3 exx hnD hall hft m0 m1 hn0 hn1 hge hi hp hpx hlt p hf hfD hD hst hmD hDq memC htC g0
 generalize inX D=x at*
 simp (disch:=omega) only [↓RS,RZ,simprocAttr,psV,pc_length,qc]
 refine cX mm ?_
 simp (disch:=omega) only [↓RS,RZ,simprocAttr,qV,rV]
 refine cX ce ?_
 simp (disch:=omega) only [↓RS,RZ,simprocAttr,ssV]
 have hyq:∀ i,∀ y∈ysL x (E.take i),ht y≤2^24:=fun i y hy=>by
  obtain ⟨s,hs,_,rfl⟩:=mem_ys.1 hy
  have:=ht_hgt s x;have:=hEs s (List.mem_of_mem_take hs);omega
 have hlq:∀ {i low high},Low2 (ysL x (E.take i)) low high→ht low≤2^24∧ht high≤2^24:=fun {i low high} h=>by
  obtain ⟨h1,h3⟩:=h.mem
  have:=ht_zero
  refine ⟨?_,?_⟩
  ·rcases h1 with rfl|h1
   ·omega
   ·exact hyq i _ h1
  ·rcases h3 with rfl|h3
   ·omega
   ·exact hyq i _ h3
 have bq1:(true==false)=false:=rfl
 have bq2:(false==true)=false:=rfl
 have bq3:(true==true)=true:=rfl
 have bq4:(false==false)=true:=rfl
 refine wp_lp (fun (s:Nat×Rat×Rat) J=>ov [(1,.ptr 0 0 0),(2,.ptr 1 0 0),(3,.prim (.int .i64 (0))),(10,.ptr 4 0 0),(11,.ptr 5 0 0),(12,.ptr 6 0 0),(13,.prim (.int .i64 (((ysL x (E.take s.1)).length:Nat):Int))),(14,ssV E),(15,.prim (.int .i64 ((s.1:Nat):Int)))] J 0 147)
  (fun s H=>(s.1≤E.length∧7≤H.length∧Low2 (ysL x (E.take s.1)) s.2.1 s.2.2)∧get H 1=some (.row 6 true [pc pt0])∧get H 4=some (.row 3 true [qc x])∧get H 5=some (.row 3 true [qc s.2.1])∧get H 6=some (.row 3 true [qc s.2.2])) (fun s=>E.length-s.1) (0,0,0) rfl ⟨⟨Nat.zero_le _,by simp,Low2.zero⟩,rfl,rfl,by rw [hz];rfl,by rw [hz];rfl⟩ ?_
 rintro ⟨i,low,high⟩ J3 H ⟨⟨hi,h7,hL⟩,w1,w4,w5,w6⟩
 try conv in ov _ _ _ _=>simp only [ov,List.lookup,RO,simprocAttr]
 simp only at hi hL w5 w6 ⊢
 obtain ⟨q1,q2⟩:=hlq hL
 rcases Nat.lt_or_ge i E.length with hlt|hge
 ·have g:=sgc_getD hlt
  have hmem:E.getD i sg0∈E:=by rw [List.getD_eq_getElem?_getD,List.getElem?_eq_getElem hlt];exact List.getElem_mem hlt
  have hss:hs (E.getD i sg0)≤2^16:=hEs _ hmem
  have hof:=hoE _ hmem
  have hys:=ysL_succ (x:=x) hlt
  have hyl:=ysL_le (E.take i) x
  rw [List.length_take] at hyl
  have a1:=hs_a (E.getD i sg0);have a2:=hs_b (E.getD i sg0)
  have a3:=hp_x (E.getD i sg0).a;have a4:=hp_x (E.getD i sg0).b
  have c1:=rcmpQ_pc (E.getD i sg0).a.x x (by omega) (by omega)
  have c2:=rcmpQ_pc (E.getD i sg0).b.x x (by omega) (by omega)
  have hgq:=ht_hgt (E.getD i sg0) x
  have rh:=rheight_pc (E.getD i sg0) x hss hxx
  have sn:=spans_cases (x:=x) (s:=E.getD i sg0)
  have ns:=not_spans (x:=x) (s:=E.getD i sg0)
  generalize E.getD i sg0=e at*
  cases hsp:spans x e with
  |true=>
   have rh:=rh hsp hof
   rw [if_pos hsp] at hys
   have hyy:ht (hgt x e)≤2^24:=by omega
   have c5:=rcmpQ_pc (hgt x e) low (by omega) (by omega)
   have c6:=rcmpQ_pc (hgt x e) high (by omega) (by omega)
   have eS:∀ {lo hi:Rat},Low2 (ysL x (E.take i)++[hgt x e]) lo hi→Low2 (ysL x (E.take (i+1))) lo hi:=fun {lo hi} h=>by rw [hys];exact h
   have eN:(ysL x (E.take (i+1))).length=(ysL x (E.take i)).length+1:=by rw [hys,List.length_append];rfl
   have f0:=hL.first (y:=hgt x e)
   have f1:=hL.least (y:=hgt x e)
   have f2:=hL.next (y:=hgt x e)
   have f3:=hL.stay (y:=hgt x e)
   clear hys rh hyq hlq hoE hEs
   have rh:=rheight_pc e x hss hxx hsp hof
   generalize hgt x e=y at*
   generalize hN:(ysL x (E.take i)).length=N at*
   have x4:∀ b,get (H++[b]) 4=some (.row 3 true [qc x]):=fun b=>get_app w4
   have x5:∀ b,get (H++[b]) 5=some (.row 3 true [qc low]):=fun b=>get_app w5
   have x6:∀ b,get (H++[b]) 6=some (.row 3 true [qc high]):=fun b=>get_app w6
   have z5:∀ b c,get ((H++[b]).set 5 c) 5=c:=fun b c=>get_eq (by simp;omega)
   have z6:∀ b c,get ((H++[b]).set 6 c) 6=c:=fun b c=>get_eq (by simp;omega)
   have y5:∀ b c k v,k≠5→get H k=some v→get ((H++[b]).set 5 c) k=some v:=fun b c k v hk h=>by rw [get_ne hk];exact get_app h
   have x56:∀ b c,get ((H++[b]).set 5 c) 6=some (.row 3 true [qc high]):=fun b c=>y5 b c 6 _ (by decide) w6
   have y6:∀ b c k v,k≠6→get H k=some v→get ((H++[b]).set 6 c) k=some v:=fun b c k v hk h=>by rw [get_ne hk];exact get_app h
   have l5:∀ b c,7≤((H++[b]).set 5 c).length:=fun b c=>by simp;omega
   have l6:∀ b c,7≤((H++[b]).set 6 c).length:=fun b c=>by simp;omega
   have hne4:(H.length==4)=false:=by rw [beq_eq_false_iff_ne];omega
   rcases sn hsp hof with ⟨k1,k2⟩|⟨k1,k2⟩
   case' inl=>
    rw [cmpQ_m1 k1] at c1
    rw [cmpQ_p1 k2] at c2
   case' inr=>
    rw [cmpQ_p1 k2] at c1
    rw [cmpQ_m1 k1] at c2
   all_goals
    simp (disch:=omega) only [↓RS,RZ,simprocAttr,ssV,sgc_length,g,sgc,w4,qc,eqA_bool9,bq1,bq2,bq3,bq4]
    refine cX c1 ?_
    simp (disch:=omega) only [↓RS,RZ,simprocAttr,ssV,sgc_length,g,sgc,w4,qc,eqA_bool9,bq1,bq2,bq3,bq4]
    refine cX c2 ?_
    simp (disch:=omega) only [↓RS,RZ,simprocAttr,ssV,sgc_length,g,sgc,w4,qc,eqA_bool9,bq1,bq2,bq3,bq4]
    refine cX rh ?_
    clear c1 c2 k1 k2
    simp (disch:=omega) only [↓RS,RZ,simprocAttr,qV,rV,set_app_len,hne4]
   all_goals
    rcases N with _|M
    ·simp (disch:=omega) only [↓RS,RZ,simprocAttr,qV,rV,set_app_len,get_app_len,x5,x6,x56,qc]
     exact lp_next (i+1,y,high) (by simp only [eN];rfl) ⟨⟨hlt,l5 _ _,eS (f0 rfl)⟩,y5 _ _ _ _ (by decide) w1,y5 _ _ _ _ (by decide) w4,z5 _ _,y5 _ _ _ _ (by decide) w6⟩ (by simp only;omega)
    ·by_cases ky:y<low
     ·rw [cmpQ_m1 ky] at c5
      simp (disch:=omega) only [↓RS,RZ,simprocAttr,qV,rV,set_app_len,get_app_len,x5,x6,x56,qc]
      refine cX c5 ?_
      simp (disch:=omega) only [↓RS,RZ,simprocAttr,qV,rV,set_app_len,get_app_len,x5,x6,x56,qc]
      exact lp_next (i+1,y,low) (by simp only [eN];rfl) ⟨⟨hlt,by simp;omega,eS (f1 (by omega) ky)⟩,by rw [get_ne (by decide)];exact y5 _ _ _ _ (by decide) w1,by rw [get_ne (by decide)];exact y5 _ _ _ _ (by decide) w4,by rw [get_ne (by decide)];exact z5 _ _,get_eq (by simp;omega)⟩ (by simp only;omega)
     ·have k5:¬cmpQ y low<0:=fun h=>ky (cmpQ_lt.1 h)
      generalize cmpQ y low=z at*
      rcases M with _|M
      ·simp (disch:=omega) only [↓RS,RZ,simprocAttr,qV,rV,set_app_len,get_app_len,x5,x6,x56,qc]
       refine cX c5 ?_
       simp (disch:=omega) only [↓RS,RZ,simprocAttr,qV,rV,set_app_len,get_app_len,x5,x6,x56,qc]
       exact lp_next (i+1,low,y) (by simp only [eN];rfl) ⟨⟨hlt,l6 _ _,eS (f2 (by omega) ky (.inl rfl))⟩,y6 _ _ _ _ (by decide) w1,y6 _ _ _ _ (by decide) w4,y6 _ _ _ _ (by decide) w5,z6 _ _⟩ (by simp only;omega)
      ·by_cases kh:y<high
       ·rw [cmpQ_m1 kh] at c6
        simp (disch:=omega) only [↓RS,RZ,simprocAttr,qV,rV,set_app_len,get_app_len,x5,x6,x56,qc]
        refine cX c5 ?_
        simp (disch:=omega) only [↓RS,RZ,simprocAttr,qV,rV,set_app_len,get_app_len,x5,x6,x56,qc]
        refine cX c6 ?_
        simp (disch:=omega) only [↓RS,RZ,simprocAttr,qV,rV,set_app_len,get_app_len,x5,x6,x56,qc]
        exact lp_next (i+1,low,y) (by simp only [eN];rfl) ⟨⟨hlt,l6 _ _,eS (f2 (by omega) ky (.inr kh))⟩,y6 _ _ _ _ (by decide) w1,y6 _ _ _ _ (by decide) w4,y6 _ _ _ _ (by decide) w5,z6 _ _⟩ (by simp only;omega)
       ·have k6:¬cmpQ y high<0:=fun h=>kh (cmpQ_lt.1 h)
        generalize cmpQ y high=z6 at*
        simp (disch:=omega) only [↓RS,RZ,simprocAttr,qV,rV,set_app_len,get_app_len,x5,x6,x56,qc]
        refine cX c5 ?_
        simp (disch:=omega) only [↓RS,RZ,simprocAttr,qV,rV,set_app_len,get_app_len,x5,x6,x56,qc]
        refine cX c6 ?_
        simp (disch:=omega) only [↓RS,RZ,simprocAttr,qV,rV,set_app_len,get_app_len,x5,x6,x56,qc]
        exact lp_next (i+1,low,high) (by simp only [eN];rfl) ⟨⟨hlt,by simp;omega,eS (f3 (by omega) kh)⟩,get_app w1,get_app w4,get_app w5,get_app w6⟩ (by simp only;omega)
  |false=>
   rw [if_neg (by rw [hsp];decide)] at hys
   rcases ns hsp hof with ⟨k1,k2⟩|⟨k1,k2⟩
   ·rw [cmpQ_p1 k1] at c1
    rw [cmpQ_p1 k2] at c2
    simp (disch:=omega) only [↓RS,RZ,simprocAttr,ssV,sgc_length,g,sgc,w4,qc,eqA_bool9,bq1,bq2,bq3,bq4]
    refine cX c1 ?_
    simp (disch:=omega) only [↓RS,RZ,simprocAttr,ssV,sgc_length,g,sgc,w4,qc,eqA_bool9,bq1,bq2,bq3,bq4]
    refine cX c2 ?_
    simp (disch:=omega) only [↓RS,RZ,simprocAttr,ssV,sgc_length,g,sgc,w4,qc,eqA_bool9,bq1,bq2,bq3,bq4]
    exact lp_next (i+1,low,high) (by simp only [hys];rfl) ⟨⟨hlt,h7,by simp only;rw [hys];exact hL⟩,w1,w4,w5,w6⟩ (by simp only;omega)
   ·rw [cmpQ_m1 k1] at c1
    rw [cmpQ_m1 k2] at c2
    simp (disch:=omega) only [↓RS,RZ,simprocAttr,ssV,sgc_length,g,sgc,w4,qc,eqA_bool9,bq1,bq2,bq3,bq4]
    refine cX c1 ?_
    simp (disch:=omega) only [↓RS,RZ,simprocAttr,ssV,sgc_length,g,sgc,w4,qc,eqA_bool9,bq1,bq2,bq3,bq4]
    refine cX c2 ?_
    simp (disch:=omega) only [↓RS,RZ,simprocAttr,ssV,sgc_length,g,sgc,w4,qc,eqA_bool9,bq1,bq2,bq3,bq4]
    exact lp_next (i+1,low,high) (by simp only [hys];rfl) ⟨⟨hlt,h7,by simp only;rw [hys];exact hL⟩,w1,w4,w5,w6⟩ (by simp only;omega)
 ·have hia:i=E.length:=by omega
  subst hia
  rw [List.take_length] at hL
  obtain ⟨s0,s1⟩:=hL.srt hy2
  rw [←hS] at s0 s1
  rw [s0,s1]
  have mm:=rmean_pc low high (by omega) (by omega)
  have s3:∀ y,get (H.set 1 y) 1=y:=fun y=>get_eq (H:=H) (by omega)
  simp (disch:=omega) only [↓RS,RZ,simprocAttr,ssV,sgc_length,w4,w5,w6,qc]
  refine cX mm ?_
  simp (disch:=omega) only [↓RS,RZ,simprocAttr,qV,rV,w1,s3,pc]
  rfl
end Go.Av
