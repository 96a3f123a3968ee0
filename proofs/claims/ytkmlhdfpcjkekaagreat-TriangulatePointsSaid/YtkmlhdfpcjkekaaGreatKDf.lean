/- Helping texts: Df, Dg, Dh, Di. -/
import Derived.Test.YtkmlhdfpcjkekaaGreatKDa
import Derived.Test.YtkmlhdfpcjkekaaGreatKCt
set_option linter.unusedSimpArgs false
set_option linter.unusedVariables false
set_option maxRecDepth 100000
set_option maxHeartbeats 16000000
namespace Go.Av
open Go.RowKit
open Go.Proofs.Tryz (prog)
def nx (L:List Pt) (i:Nat):Pt:=L.getD ((i+1)%L.length) default
theorem edges_sc (L:List Pt) {H:Hp} {K:V→Hp→Prop} (hK:K (.clo 244 [] [.ptr H.length 0 0]) (H++[some (.row 1 true [[psV L]])])):SC prog 191 [psV L] H K:=by
 refine SCi ?_
 conv in trip _ _=>cbv
 simp only [runT,RN,simprocAttr]
 simp (disch:=omega) only [↓RS,RZ,simprocAttr,psV]
 exact hK
theorem edges1_sc (L:List Pt) (hn:L.length<2^40) {yb b:Nat} {H:Hp} {K:V→Hp→Prop} (Inv:Nat→Hp→Prop) (Fin:Hp→Prop)
 (hbox:∀ i H,Inv i H→get H b=some (.row 1 true [[psV L]])) (hpad:∀ i H k,Inv i H→Inv i (H++[k]))
 (step:∀ i H,i<L.length→Inv i H→YC prog yb [pV (L.getD i default),pV (nx L i)] H (yQ (Inv (i+1)) Fin))
 (h0:Inv 0 H) (hK:∀ v H,Inv L.length H→K v H) (hF:∀ v H,Fin H→K v H):SC prog 244 [.yld yb,.ptr b 0 0] H K:=by
 refine SCi ?_
 conv in trip _ _=>cbv
 simp only [runT,RN,simprocAttr]
 have hb:=hbox 0 H h0
 simp (disch:=omega) only [↓RS,RZ,simprocAttr,hb,psV,pc_length]
 refine wp_lp (fun (i:Nat) J=>ov [(0,.yld yb),(1,.ptr b 0 0),(5,psV L),(6,.prim (.int .i64 ((L.length:Nat):Int))),(7,.prim (.int .i64 ((i:Nat):Int)))] J 0 25) (fun i H=>i≤L.length∧Inv i H) (fun i=>L.length-i) 0 rfl ⟨Nat.zero_le _,h0⟩ ?_
 rintro i J H ⟨hi,hv⟩
 try conv in ov _ _ _ _=>simp only [ov,List.lookup,RO,simprocAttr]
 rcases Nat.lt_or_ge i L.length with hlt|hge
 ·have g1:=pc_getD hlt
  have m2:=Nat.mod_lt (i+1) (show 0<L.length by omega)
  have g2:=pc_getD m2
  have hb:=hbox i H hv
  have hb1:∀ k,get (H++[k]) b=some (.row 1 true [[psV L]]):=fun k=>get_app hb
  have st:=step i _ hlt (hpad i H (some (.row 6 true [pc (L.getD i default)])) hv)
  simp (disch:=omega) only [↓RS,RZ,simprocAttr,psV,pc_length,g1,g2,pc,hb,hb1,set_app_len,tmodN]
  refine YC.mono ?_ st
  rintro v H' (⟨rfl,h⟩|⟨rfl,h⟩)
  ·simp (disch:=omega) only [↓RS,RZ,simprocAttr]
   exact lp_next (i+1) rfl ⟨hlt,h⟩ (by omega)
  ·simp (disch:=omega) only [↓RS,RZ,simprocAttr]
   exact hF _ _ h
 ·have hia:i=L.length:=by omega
  subst hia
  simp (disch:=omega) only [↓RS,RZ,simprocAttr,psV,pc_length]
  exact hK _ _ hv
def segOf (L:List Pt) (i:Nat):Sg:=⟨L.getD i default,nx L i⟩
def sgc (s:Sg):List V:=[.prim (.bool (can s.a.x).neg),.prim (.string (bs ((can s.a.x).num))),.prim (.string (bs ((can s.a.x).den))),.prim (.bool (can s.a.y).neg),.prim (.string (bs ((can s.a.y).num))),.prim (.string (bs ((can s.a.y).den))),.prim (.bool (can s.b.x).neg),.prim (.string (bs ((can s.b.x).num))),.prim (.string (bs ((can s.b.x).den))),.prim (.bool (can s.b.y).neg),.prim (.string (bs ((can s.b.y).num))),.prim (.string (bs ((can s.b.y).den)))]
def ssV (l:List Sg):V:= .lst 12 (l.map sgc)
def edgesL (L:List Pt):List Sg:=(List.range L.length).map (segOf L)
theorem sgc_prims (l:List Sg):Prims (l.map sgc):=by
 intro e he v hv
 obtain ⟨s,_,rfl⟩:=List.mem_map.1 he
 simp only [sgc,List.mem_cons,List.not_mem_nil,or_false] at hv
 rcases hv with h|h|h|h|h|h|h|h|h|h|h|h<;>exact ⟨_,h⟩
theorem range_map_succ {α:Type} (f:Nat→α) (i:Nat):(List.range (i+1)).map f=(List.range i).map f++[f i]:=by rw [List.range_succ,List.map_append];rfl
theorem Edges_pc (L:List Pt) (hn:L.length≤2^30) (hne:L≠[]):PC prog 129 [psV L] (ssV (edgesL L)):=by
 refine PCi ?_
 conv in trip _ _=>cbv
 simp only [runT,RN,simprocAttr]
 simp (disch:=omega) only [↓RS,RZ,simprocAttr,psV]
 refine call_sc (edges_sc L ?_)
 simp (disch:=omega) only [↓RS,RZ,simprocAttr,psV]
 refine wp_rf mixed (n:=2) (k:=2) rfl rfl rfl (by kernel_rfl) ?_
 conv in lcC _=>cbv
 conv in lcC _=>cbv
 intro R B D hR hyc
 simp only [List.nil_append,List.cons_append] at hyc ⊢
 refine edges1_sc L (by omega) (fun i H=>∃ v,get H 0=some (.row 1 true [[v]])∧get H 1=some (.row 1 true [[psV L]])∧get H 2=some R∧Bufn 3 H v 12 (((List.range i).map (segOf L)).map sgc)) (fun _=>False) ?_ ?_ ?_ ?_ ?_ ?_
 ·rintro i H ⟨v,h⟩;exact h.2.1
 ·rintro i H k ⟨v,h0,h1,h2,h3⟩;exact ⟨v,get_app h0,get_app h1,get_app h2,h3.app _⟩
 ·rintro i H hlt ⟨v,h0,h1,h2,h3⟩
  refine hyc _ _ _ rfl h2 ?_
  have hN:=h3.1
  simp (disch:=omega) only [↓RS,RZ,simprocAttr,pV,ptV,yieldT_cons,yieldT_nil,set_app_len,set_app_len2]
  rw [bgQ_normal]
  refine ⟨by rw [get_app2 (by omega)];exact h2,?_⟩
  obtain ⟨H1,e,f,k2,k3,k4,k5⟩:=two_more (H:=H) (b:=2) (x:=some (.row 6 true [pc (L.getD i default)])) (y:=some (.row 6 true [pc (nx L i)])) (z:=some B) (by omega)
  have q0:get H1 0=some (.row 1 true [[v]]):=by rw [f 0 (by omega) (by omega)];exact h0
  have q1:get H1 1=some (.row 1 true [[psV L]]):=by rw [f 1 (by omega) (by omega)];exact h1
  have q3:Bufn 3 H1 v 12 (((List.range i).map (segOf L)).map sgc):=by rw [←e];exact ((h3.app _).app _).set (by omega)
  simp only [pc] at e k3 k4
  rw [e]
  simp (disch:=omega) only [↓RS,RZ,simprocAttr,q0,k3,k4]
  refine Bufn.append (q3.app _) (by simp [cellV]) (by simp only [List.length_cons,List.length_nil,List.length_map,List.length_range];omega) (by simp only [List.length_cons,List.length_nil,List.length_map,List.length_range];omega) ?_
  intro v' H2 hb hk
  have r0:=hk 0 _ (by omega) (get_app q0)
  have r1:=hk 1 _ (by omega) (get_app q1)
  have r2:=hk 2 _ (by omega) (get_app k2)
  have c1:=hb.one
  have c2:=hb.cel
  simp (disch:=omega) only [↓RS,RZ,simprocAttr,r0,c1,c2]
  rw [rdQ_normal]
  refine ⟨by rw [get_ne (by omega)];exact r2,.inl ⟨rfl,v',?_,?_,?_,?_⟩⟩
  ·rw [get_ne (by omega),get_eq (by have:=hb.1;omega)]
  ·rw [get_ne (by omega),get_ne (by omega)];exact r1
  ·rw [get_eq (by rw [List.length_set];have:=hb.1;omega)]
  ·rw [range_map_succ,List.map_append]
   exact (hb.set (by omega)).set (by omega)
 ·exact ⟨_,rfl,rfl,rfl,.nil (by simp)⟩
 ·rintro v H ⟨u,h0,h1,h2,h3⟩
  refine .inl ⟨h2,?_⟩
  have e0:get (H.set 2 none) 0=some (.row 1 true [[u]]):=by rw [get_ne (by omega)];exact h0
  obtain ⟨b,hb,rfl,hg⟩:=h3.cases (by simpa using hne)
  have e1:get (H.set 2 none) b=some (.row 12 true (((List.range L.length).map (segOf L)).map sgc)):=by rw [get_ne (by omega)];exact hg
  have hvl:= @viewLL_prims (H.set 2 none) 7 _ (sgc_prims ((List.range L.length).map (segOf L)))
  have hlen:(((List.range L.length).map (segOf L)).map sgc).length=L.length:=by simp
  have htk:(((List.range L.length).map (segOf L)).map sgc).take L.length=((List.range L.length).map (segOf L)).map sgc:=by rw [List.take_of_length_le (by omega)]
  simp (disch:=omega) only [↓RS,RZ,simprocAttr,e0,hlen]
  rw [e1]
  simp only [hlen,Nat.le_refl,if_true,htk]
  rw [hvl]
  rfl
 ·exact fun _ _ h=>h.elim
end Go.Av
namespace Go.Av
open Go.RowKit
open Go.Proofs.Tryz (prog)
theorem edgesL_length (L:List Pt):(edgesL L).length=L.length:=by simp [edgesL]
theorem sgc_length (l:List Sg):(l.map sgc).length=l.length:=List.length_map ..
theorem edges_getD {L:List Pt} {i:Nat} (h:i<L.length):((edgesL L).map sgc).getD i []=sgc (segOf L i):=by
 unfold edgesL
 rw [List.getD_eq_getElem?_getD,List.getElem?_map,List.getElem?_map,List.getElem?_range h];rfl
theorem hp_nx {L:List Pt} {k i:Nat} (h:hl L k) (hi:i<L.length):hp (nx L i)≤k:=hl_get h (Nat.mod_lt _ (by omega))
theorem hs_seg {L:List Pt} {k i:Nat} (h:hl L k) (hi:i<L.length):hs (segOf L i)≤k:=hs_mk (hl_get h hi) (hp_nx h hi)
def crossAt (L:List Pt) (i k:Nat):Bool:=decide (i+2≤k)&&(!(decide (i=0)&&decide (k=L.length-1))&&(meetM (segOf L i) (segOf L k)).isSome)
def crossB (L:List Pt):Bool:=(List.range L.length).any fun i=>(List.range L.length).any fun k=>crossAt L i k
theorem crossB_true {L:List Pt} {i k:Nat} (hi:i<L.length) (hk:k<L.length) (h:crossAt L i k=true):crossB L=true:=
 List.any_eq_true.2 ⟨i,by simpa using hi,List.any_eq_true.2 ⟨k,by simpa using hk,h⟩⟩
theorem crossB_false {L:List Pt} (h:∀ i,i<L.length→∀ k,k<L.length→crossAt L i k=false):crossB L=false:=by
 unfold crossB
 rw [List.any_eq_false]
 intro i hi
 simp only [List.mem_range] at hi
 rw [Bool.not_eq_true,List.any_eq_false]
 intro k hk
 simp only [List.mem_range] at hk
 simp [h i hi k hk]
theorem crossB_get {L:List Pt} (h:crossB L=false) {i k:Nat} (hi:i<L.length) (hk:k<L.length):crossAt L i k=false:=by
 cases h2:crossAt L i k with
 |false=>rfl
 |true=>rw [crossB_true hi hk h2] at h;cases h
theorem crossing_pc (L:List Pt) (hn:L.length≤2^20) (hne:L≠[]) (hL:hl L (2^20)):PC prog 178 [psV L] (.prim (.bool (crossB L))):=by
 have hpos:0<L.length:=List.length_pos_iff.2 hne
 refine PCi ?_
 conv in trip _ _=>cbv
 simp only [runT,RN,simprocAttr]
 have e:=Edges_pc L (by omega) hne
 simp (disch:=omega) only [↓RS,RZ,simprocAttr,psV]
 refine cX e ?_
 simp (disch:=omega) only [↓RS,RZ,simprocAttr,ssV,sgc_length,edgesL_length]
 refine wp_lp (fun (i:Nat) J=>ov [(3,ssV (edgesL L)),(4,.prim (.int .i64 ((L.length:Nat):Int))),(15,.prim (.int .i64 ((L.length:Nat):Int))),(16,.prim (.int .i64 ((i:Nat):Int)))] J 0 49) (fun i _=>i≤L.length∧∀ j,j<i→∀ k,k<L.length→crossAt L j k=false) (fun i=>L.length-i) 0 rfl ⟨Nat.zero_le _,fun j hj=>absurd hj (Nat.not_lt_zero j)⟩ ?_
 rintro i J H ⟨hi,hp⟩
 try conv in ov _ _ _ _=>simp only [ov,List.lookup,RO,simprocAttr]
 rcases Nat.lt_or_ge i L.length with hlt|hge
 ·simp (disch:=omega) only [↓RS,RZ,simprocAttr,ssV,sgc_length,edgesL_length]
  refine wp_lp (fun (k:Nat) J=>ov [(3,ssV (edgesL L)),(4,.prim (.int .i64 ((L.length:Nat):Int))),(5,.prim (.int .i64 ((i:Nat):Int))),(6,.prim (.int .i64 ((k:Nat):Int))),(15,.prim (.int .i64 ((L.length:Nat):Int))),(16,.prim (.int .i64 ((i:Nat):Int)))] J 0 49) (fun k _=>i+2≤k∧∀ j,j<k→j<L.length→crossAt L i j=false) (fun k=>L.length-k) (i+2) rfl ⟨Nat.le_refl _,fun j hj _=>by
   unfold crossAt;rw [decide_eq_false (by omega)];rfl⟩ ?_
  rintro k J H ⟨hk,hq⟩
  try conv in ov _ _ _ _=>simp only [ov,List.lookup,RO,simprocAttr]
  rcases Nat.lt_or_ge k L.length with hkl|hkg
  ·have g1:=edges_getD hlt
   have g2:=edges_getD hkl
   have m:=Smeet_pc (segOf L i) (segOf L k) (hs_seg hL hlt) (hs_seg hL hkl)
   by_cases hz:i=0∧k=L.length-1
   ·obtain ⟨rfl,hz⟩:=hz
    simp (disch:=omega) only [↓RS,RZ,simprocAttr,ssV,sgc_length,edgesL_length]
    exact lp_next (k+1) rfl ⟨by omega,fun j hj hjl=>by
     rcases Nat.lt_or_ge j k with h|h
     ·exact hq j h hjl
     ·unfold crossAt;rw [decide_eq_true (show j=L.length-1 by omega)];simp⟩ (by omega)
   ·have fin:∀ b,(meetM (segOf L i) (segOf L k)).isSome=b→crossAt L i k=b:=by
     intro b hb
     unfold crossAt
     rw [hb,decide_eq_true hk,←Bool.decide_and,decide_eq_false hz];simp
    by_cases hi0:i=0
    ·subst hi0
     have hk1:k≠L.length-1:=fun h=>hz ⟨rfl,h⟩
     simp (disch:=omega) only [↓RS,RZ,simprocAttr,ssV,sgc_length,edgesL_length,g1,g2,sgc,set_app_len]
     refine cX m ?_
     cases hm:(meetM (segOf L 0) (segOf L k)).isSome with
     |true=>
      rw [crossB_true hlt hkl (fin _ hm)]
      simp (disch:=omega) only [↓RS,RZ,simprocAttr,sgV,s4V,set_app_len]
     |false=>
      simp (disch:=omega) only [↓RS,RZ,simprocAttr,sgV,s4V,set_app_len]
      exact lp_next (k+1) rfl ⟨by omega,fun j hj hjl=>by
       rcases Nat.lt_or_ge j k with h|h
       ·exact hq j h hjl
       ·rw [show j=k by omega];exact fin _ hm⟩ (by omega)
    ·simp (disch:=omega) only [↓RS,RZ,simprocAttr,ssV,sgc_length,edgesL_length,g1,g2,sgc,set_app_len]
     refine cX m ?_
     cases hm:(meetM (segOf L i) (segOf L k)).isSome with
     |true=>
      rw [crossB_true hlt hkl (fin _ hm)]
      simp (disch:=omega) only [↓RS,RZ,simprocAttr,sgV,s4V,set_app_len]
     |false=>
      simp (disch:=omega) only [↓RS,RZ,simprocAttr,sgV,s4V,set_app_len]
      exact lp_next (k+1) rfl ⟨by omega,fun j hj hjl=>by
       rcases Nat.lt_or_ge j k with h|h
       ·exact hq j h hjl
       ·rw [show j=k by omega];exact fin _ hm⟩ (by omega)
  ·simp (disch:=omega) only [↓RS,RZ,simprocAttr]
   exact lp_next (i+1) rfl ⟨hlt,fun j hj k' hk'=>by
    rcases Nat.lt_or_ge j i with h|h
    ·exact hp j h k' hk'
    ·rw [show j=i by omega];exact hq k' (by omega) hk'⟩ (by omega)
 ·have hia:i=L.length:=by omega
  subst hia
  rw [crossB_false hp]
  simp (disch:=omega) only [↓RS,RZ,simprocAttr,ssV,sgc_length,edgesL_length]
end Go.Av
namespace Go.Av
open Go.RowKit
open Go.Proofs.Tryz (prog)
def qc (q:Rat):List V:=[.prim (.bool (can q).neg),.prim (.string (bs ((can q).num))),.prim (.string (bs ((can q).den)))]
def areaTo (L:List Pt):Nat→Rat
 |0=>0
 |i+1=>areaTo L i+cross (L.getD i default) (nx L i)
def areaL (L:List Pt):Rat:=areaTo L L.length/2
theorem ht_areaTo {L:List Pt} {k:Nat} (h:hl L k):∀ i,i≤L.length→ht (areaTo L i)≤i*(4*k+2)+1
 |0,_=>by simpa [areaTo] using ht_zero
 |i+1,hi=>by
  have h1:=ht_areaTo h i (by omega)
  have h2:=ht_add (areaTo L i) (cross (L.getD i default) (nx L i))
  have h3:=ht_cross (L.getD i default) (nx L i)
  have h4:=hl_get h (show i<L.length by omega)
  have h5:=hp_nx h (show i<L.length by omega)
  unfold areaTo
  rw [Nat.add_mul]
  omega
theorem ht_two:ht 2≤1:= @ht_int 2 (by omega)
theorem Area_pc (L:List Pt) (hn:L.length≤2^10) (hL:hl L (2^16)):PC prog 174 [psV L] (qV (areaL L)):=by
 have ha:∀ i,i≤L.length→ht (areaTo L i)≤2^29:=fun i hi=>by
  have:=ht_areaTo hL i hi
  have h2:i*(4*2^16+2)≤2^10*(4*2^16+2):=Nat.mul_le_mul_right _ (by omega)
  omega
 refine PCi ?_
 conv in trip _ _=>cbv
 simp only [runT,RN,simprocAttr]
 simp (disch:=omega) only [↓RS,RZ,simprocAttr,psV]
 refine call_sc (edges_sc L ?_)
 simp (disch:=omega) only [↓RS,RZ,simprocAttr,psV]
 refine wp_rf mixed (n:=3) (k:=2) rfl rfl rfl (by kernel_rfl) ?_
 conv in lcC _=>cbv
 conv in lcC _=>cbv
 intro R B D hR hyc
 simp only [List.nil_append,List.cons_append] at hyc ⊢
 refine edges1_sc L (by omega) (fun i H=>get H 0=some (.row 3 true [qc 0])∧get H 1=some (.row 3 true [qc (areaTo L i)])∧get H 2=some (.row 1 true [[psV L]])∧get H 3=some R) (fun _=>False) ?_ ?_ ?_ ?_ ?_ ?_
 ·rintro i H ⟨_,_,h,_⟩;exact h
 ·rintro i H k ⟨h0,h1,h2,h3⟩;exact ⟨get_app h0,get_app h1,get_app h2,get_app h3⟩
 ·rintro i H hlt ⟨h0,h1,h2,h3⟩
  have hN:=get_lt_len h3
  refine hyc _ _ _ rfl h3 ?_
  simp (disch:=omega) only [↓RS,RZ,simprocAttr,pV,ptV,yieldT_cons,yieldT_nil,set_app_len,set_app_len2]
  rw [bgQ_normal]
  refine ⟨by rw [get_app2 hN];exact h3,?_⟩
  obtain ⟨H1,e,f,k2,k3,k4,k5⟩:=two_more (H:=H) (b:=3) (x:=some (.row 6 true [pc (L.getD i default)])) (y:=some (.row 6 true [pc (nx L i)])) (z:=some B) hN
  have q0:get H1 0=some (.row 3 true [qc 0]):=by rw [f 0 (by omega) (by omega)];exact h0
  have q1:get H1 1=some (.row 3 true [qc (areaTo L i)]):=by rw [f 1 (by omega) (by omega)];exact h1
  have q2:get H1 2=some (.row 1 true [[psV L]]):=by rw [f 2 (by omega) (by omega)];exact h2
  simp only [pc] at e k3 k4
  rw [e]
  have b1:=hl_get hL hlt
  have b2:=hp_nx hL hlt
  have b3:=ha i (by omega)
  have b4:=ht_cross (L.getD i default) (nx L i)
  have c:=vcross_pc (L.getD i default) (nx L i) (by omega) (by omega)
  have a:=addQ_pc (areaTo L i) (cross (L.getD i default) (nx L i)) (by omega) (by omega)
  simp (disch:=omega) only [↓RS,RZ,simprocAttr,q1,k3,k4,qc]
  refine cX c ?_
  simp (disch:=omega) only [↓RS,RZ,simprocAttr,qV,rV]
  refine cX a ?_
  simp (disch:=omega) only [↓RS,RZ,simprocAttr,qV,rV,q1,qc]
  rw [rdQ_normal]
  refine ⟨by rw [get_ne (by omega)];exact k2,.inl ⟨rfl,?_,?_,?_,?_⟩⟩
  ·rw [get_ne (by omega),get_ne (by omega)];exact q0
  ·rw [get_ne (by omega),get_eq (by omega)];rfl
  ·rw [get_ne (by omega),get_ne (by omega)];exact q2
  ·rw [get_eq (by rw [List.length_set];omega)]
 ·have hz:qc 0=[.prim (.bool false),.prim (.string (bs ([]))),.prim (.string (bs ([])))]:=by simp only [qc,can_zero]
  have hz2:qc (areaTo L 0)=[.prim (.bool false),.prim (.string (bs ([]))),.prim (.string (bs ([])))]:=hz
  rw [hz,hz2]
  exact ⟨rfl,rfl,rfl,rfl⟩
 ·rintro v H ⟨h0,h1,h2,h3⟩
  have hN:=get_lt_len h3
  refine .inl ⟨h3,?_⟩
  have e0:get (H.set 3 none) 0=some (.row 3 true [qc 0]):=by rw [get_ne (by omega)];exact h0
  have e1:get (H.set 3 none) 1=some (.row 3 true [qc (areaTo L L.length)]):=by rw [get_ne (by omega)];exact h1
  have hH:2<(H.set 3 none).length:=by rw [List.length_set];omega
  generalize H.set 3 none=H1 at e0 e1 hH ⊢
  have o:=ofQ_pc 2 (by omega) (by omega)
  have q:=quoQ_pc (areaTo L L.length) 2 (by have:=ha _ (Nat.le_refl L.length);omega) (by have:=ht_two;omega) (by decide+kernel)
  simp (disch:=omega) only [↓RS,RZ,simprocAttr,e1,qc]
  refine cX o ?_
  simp (disch:=omega) only [↓RS,RZ,simprocAttr,qV,rV,e1,qc]
  refine cX q ?_
  have hne:(H1.length==1)=false:=by rw [beq_eq_false_iff_ne];omega
  have g0:∀ x,get (H1++[x]) 0=some (.row 3 true [qc 0]):=fun x=>get_app e0
  have g1:∀ x y,get ((H1++[x]).set 0 y) 0=y:=fun x y=>get_eq (by rw [List.length_append];omega)
  simp (disch:=omega) only [↓RS,RZ,simprocAttr,qV,rV,hne,set_app_len,g0,g1,qc]
  rfl
 ·exact fun _ _ h=>h.elim
end Go.Av
namespace Go.Av
open Go.RowKit
open Go.Proofs.Tryz (prog)
def aboveB (p q:Pt):Bool:=decide (0<cmpQ q.y p.y)
theorem above_sc (p q:Pt) (h1:hp p≤2^26) (h2:hp q≤2^26) {b:Nat} {H:Hp} {K:V→Hp→Prop} (hb:get H b=some (.row 6 true [pc p])) (hK:∀ H',Ext H H'→K (.prim (.bool (aboveB p q))) H'):
 SC prog 245 [pV q,.ptr b 0 0] H K:=by
 have hb1:∀ k,get (H++[k]) b=some (.row 6 true [pc p]):=fun k=>get_app hb
 have a1:=hp_y p;have a2:=hp_y q
 have c:=cmpQ_pc q.y p.y (by omega) (by omega)
 refine SCi ?_
 conv in trip _ _=>cbv
 simp only [runT,RN,simprocAttr]
 have hlt:aboveB p q=decide (0<cmpQ q.y p.y):=rfl
 simp (disch:=omega) only [↓RS,RZ,simprocAttr,pV,ptV,hb1,pc]
 refine cX c ?_
 cases h:aboveB p q with
 |true=>
  rw [hlt,decide_eq_true_eq] at h
  have:=hK _ (Ext.app [some (.row 6 true [pc q])])
  simp (disch:=omega) only [↓RS,RZ,simprocAttr]
  rw [hlt,decide_eq_true h] at this
  exact this
 |false=>
  rw [hlt,decide_eq_false_iff_not] at h
  have:=hK _ (Ext.app [some (.row 6 true [pc q])])
  simp (disch:=omega) only [↓RS,RZ,simprocAttr]
  rw [hlt,decide_eq_false h] at this
  exact this
def oddStep (p a b:Pt) (out:Bool):Bool:=
 if aboveB p a then (if !aboveB p b&&decide (0<orient b a p) then !out else out) else if aboveB p b&&decide (0<orient a b p) then !out else out
def oddTo (L:List Pt) (p:Pt):Nat→Bool
 |0=>false
 |i+1=>oddStep p (L.getD i default) (nx L i) (oddTo L p i)
def oddInv (L:List Pt) (p:Pt) (R:Blk) (i:Nat) (H:Hp):Prop:=
 get H 0=some (.row 6 true [pc p])∧get H 1=some (.row 1 true [[.clo 245 [] [.ptr 0 0 0]]])∧get H 2=some (.row 1 true [[.prim (.bool (oddTo L p i))]])∧get H 3=some (.row 1 true [[psV L]])∧get H 4=some R
theorem odd_pc (L:List Pt) (p:Pt) (hn:L.length≤2^30) (hL:hl L (2^20)) (hp0:hp p≤2^20):PC prog 192 [psV L,pV p] (.prim (.bool (oddTo L p L.length))):=by
 refine PCi ?_
 conv in trip _ _=>cbv
 simp only [runT,RN,simprocAttr]
 simp (disch:=omega) only [↓RS,RZ,simprocAttr,psV,pV,ptV]
 refine call_sc (edges_sc L ?_)
 simp (disch:=omega) only [↓RS,RZ,simprocAttr,psV]
 refine wp_rf mixed (n:=4) (k:=2) rfl rfl rfl (by kernel_rfl) ?_
 conv in lcC _=>cbv
 conv in lcC _=>cbv
 intro R B D hR hyc
 simp only [List.nil_append,List.cons_append] at hyc ⊢
 refine edges1_sc L (by omega) (oddInv L p R) (fun _=>False) ?_ ?_ ?_ ?_ ?_ ?_
 ·rintro i H h;exact h.2.2.2.1
 ·rintro i H k ⟨h0,h1,h2,h3,h4⟩;exact ⟨get_app h0,get_app h1,get_app h2,get_app h3,get_app h4⟩
 ·rintro i H hlt ⟨h0,h1,h2,h3,h4⟩
  have hN:=get_lt_len h4
  refine hyc _ _ _ rfl h4 ?_
  clear hyc
  simp (disch:=omega) only [↓RS,RZ,simprocAttr,pV,ptV,yieldT_cons,yieldT_nil,set_app_len,set_app_len2]
  rw [bgQ_normal]
  refine ⟨by rw [get_app2 hN];exact h4,?_⟩
  obtain ⟨H1,e,f,g4,gn1,gn2,k5⟩:=two_more (H:=H) (b:=4) (x:=some (.row 6 true [pc (L.getD i default)])) (y:=some (.row 6 true [pc (nx L i)])) (z:=some B) hN
  have g0:get H1 0=some (.row 6 true [pc p]):=by rw [f 0 (by omega) (by omega)];exact h0
  have g1:get H1 1=some (.row 1 true [[.clo 245 [] [.ptr 0 0 0]]]):=by rw [f 1 (by omega) (by omega)];exact h1
  have g2:get H1 2=some (.row 1 true [[.prim (.bool (oddTo L p i))]]):=by rw [f 2 (by omega) (by omega)];exact h2
  have g3:get H1 3=some (.row 1 true [[psV L]]):=by rw [f 3 (by omega) (by omega)];exact h3
  have hn2:(H++[some (Blk.row 6 true [pc (L.getD i default)])]).length=H.length+1:=by rw [List.length_append];rfl
  have hn1:5≤H.length:=hN
  simp only [pc] at e gn2 hn2
  rw [e]
  clear e f h0 h1 h2 h3 h4 hN
  generalize (H++[some (Blk.row 6 true [_])]).length=n2 at gn2 hn2 ⊢
  generalize H.length=n1 at gn1 hn1 hn2 k5 ⊢
  have gn2:get H1 n2=some (.row 6 true [pc (nx L i)]):=gn2
  have b1:=hl_get hL hlt
  have b2:=hp_nx hL hlt
  have o1:=orient_pc (L.getD i default) (nx L i) p (by omega) (by omega) (by omega)
  have o2:=orient_pc (nx L i) (L.getD i default) p (by omega) (by omega) (by omega)
  have fin:∀ (T:List V) (H':Hp) (o:Bool),get H' 0=some (.row 6 true [pc p])→get H' 1=some (.row 1 true [[.clo 245 [] [.ptr 0 0 0]]])→get H' 2=some (.row 1 true [[.prim (.bool o)]])→get H' 3=some (.row 1 true [[psV L]])→get H' 4=some B→
   oddTo L p (i+1)=o→rdQ 4 R B D (yQ (oddInv L p R (i+1)) (fun _=>False)) .normal T H':=by
   rintro T H' o x0 x1 x2 x3 x4 rfl
   rw [rdQ_normal]
   exact ⟨x4,.inl ⟨rfl,by rw [get_ne (by omega)];exact x0,by rw [get_ne (by omega)];exact x1,by rw [get_ne (by omega)];exact x2,by rw [get_ne (by omega)];exact x3,get_eq (get_lt_len x4)⟩⟩
  simp (disch:=omega) only [↓RS,RZ,simprocAttr,g1,gn1,pc]
  refine call_sc (above_sc p (L.getD i default) (by omega) (by omega) g0 ?_)
  intro H2 hE
  have q0:=hE.get g0
  have q1:=hE.get g1
  have q2:=hE.get g2
  have q3:=hE.get g3
  have q4:=hE.get g4
  have qn1:=hE.get gn1
  have qn2:=hE.get gn2
  clear g0 g1 g2 g3 g4 gn1 gn2 k5
  cases ha:aboveB p (L.getD i default) with
  |true=>
   have l1:=get_lt_len qn1
   have l2:=get_lt_len qn2
   have s1:∀ x y,get ((H2.set n1 x).set n2 y) n1=x:=fun x y=>by rw [get_ne (by omega),get_eq l1]
   have s2:∀ x y,get ((H2.set n1 x).set n2 y) n2=y:=fun x y=>get_eq (by rw [List.length_set];exact l2)
   simp (disch:=omega) only [↓RS,RZ,simprocAttr,q1,qn1,qn2,pc,get_ne,s1,s2]
   generalize hH3:(H2.set n1 _).set n2 _=H3
   have t0:get H3 0=some (.row 6 true [pc p]):=by rw [←hH3,get_ne (by omega),get_ne (by omega)];exact q0
   have t1:get H3 1=some (.row 1 true [[.clo 245 [] [.ptr 0 0 0]]]):=by rw [←hH3,get_ne (by omega),get_ne (by omega)];exact q1
   have t2:get H3 2=some (.row 1 true [[.prim (.bool (oddTo L p i))]]):=by rw [←hH3,get_ne (by omega),get_ne (by omega)];exact q2
   have t3:get H3 3=some (.row 1 true [[psV L]]):=by rw [←hH3,get_ne (by omega),get_ne (by omega)];exact q3
   have t4:get H3 4=some B:=by rw [←hH3,get_ne (by omega),get_ne (by omega)];exact q4
   have tn1:get H3 n1=some (.row 6 true [pc (nx L i)]):=by rw [←hH3];exact s1 _ _
   have tn2:get H3 n2=some (.row 6 true [pc (L.getD i default)]):=by rw [←hH3];exact s2 _ _
   clear hH3 s1 s2 q0 q1 q2 q3 q4 qn1 qn2 l1 l2 hE
   refine call_sc (above_sc p (nx L i) (by omega) (by omega) t0 ?_)
   intro H4 hE2
   have u0:=hE2.get t0
   have u1:=hE2.get t1
   have u2:=hE2.get t2
   have u3:=hE2.get t3
   have u4:=hE2.get t4
   have un1:=hE2.get tn1
   have un2:=hE2.get tn2
   clear t0 t1 t2 t3 t4 tn1 tn2 hE2
   cases hb:aboveB p (nx L i) with
   |true=>
    simp (disch:=omega) only [↓RS,RZ,simprocAttr]
    exact fin _ _ _ u0 u1 u2 u3 u4 (by simp only [oddTo,oddStep,ha,hb,Bool.not_true,Bool.not_false,Bool.false_and,Bool.true_and,decide_true,decide_false,Bool.false_eq_true,if_true,if_false,Bool.and_false])
   |false=>
    simp (disch:=omega) only [↓RS,RZ,simprocAttr,u1,un2,pc]
    refine call_sc (above_sc p (L.getD i default) (by omega) (by omega) u0 ?_)
    intro H5 hE3
    have w0:=hE3.get u0
    have w1:=hE3.get u1
    have w2:=hE3.get u2
    have w3:=hE3.get u3
    have w4:=hE3.get u4
    have wn1:=hE3.get un1
    have wn2:=hE3.get un2
    rw [ha]
    simp (disch:=omega) only [↓RS,RZ,simprocAttr,w0,wn1,wn2,pc]
    refine cX o2 ?_
    by_cases ho:0<orient (nx L i) (L.getD i default) p
    ·simp (disch:=omega) only [↓RS,RZ,simprocAttr,w2]
     refine fin _ _ _ (by rw [get_ne (by omega)];exact w0) (by rw [get_ne (by omega)];exact w1) (get_eq (get_lt_len w2)) (by rw [get_ne (by omega)];exact w3) (by rw [get_ne (by omega)];exact w4) (by simp only [oddTo,oddStep,ha,hb,ho,Bool.not_true,Bool.not_false,Bool.false_and,Bool.true_and,decide_true,decide_false,Bool.false_eq_true,if_true,if_false,Bool.and_false])
    ·simp (disch:=omega) only [↓RS,RZ,simprocAttr]
     exact fin _ _ _ w0 w1 w2 w3 w4 (by simp only [oddTo,oddStep,ha,hb,ho,Bool.not_true,Bool.not_false,Bool.false_and,Bool.true_and,decide_true,decide_false,Bool.false_eq_true,if_true,if_false,Bool.and_false])
  |false=>
   simp (disch:=omega) only [↓RS,RZ,simprocAttr,q1,qn1,pc]
   refine call_sc (above_sc p (L.getD i default) (by omega) (by omega) q0 ?_)
   intro H4 hE2
   have u0:=hE2.get q0
   have u1:=hE2.get q1
   have u2:=hE2.get q2
   have u3:=hE2.get q3
   have u4:=hE2.get q4
   have un1:=hE2.get qn1
   have un2:=hE2.get qn2
   rw [ha]
   simp (disch:=omega) only [↓RS,RZ,simprocAttr,u1,un2,pc]
   refine call_sc (above_sc p (nx L i) (by omega) (by omega) u0 ?_)
   intro H5 hE3
   have w0:=hE3.get u0
   have w1:=hE3.get u1
   have w2:=hE3.get u2
   have w3:=hE3.get u3
   have w4:=hE3.get u4
   have wn1:=hE3.get un1
   have wn2:=hE3.get un2
   cases hb:aboveB p (nx L i) with
   |true=>
    simp (disch:=omega) only [↓RS,RZ,simprocAttr,w0,wn1,wn2,pc]
    refine cX o1 ?_
    by_cases ho:0<orient (L.getD i default) (nx L i) p
    ·simp (disch:=omega) only [↓RS,RZ,simprocAttr,w2]
     refine fin _ _ _ (by rw [get_ne (by omega)];exact w0) (by rw [get_ne (by omega)];exact w1) (get_eq (get_lt_len w2)) (by rw [get_ne (by omega)];exact w3) (by rw [get_ne (by omega)];exact w4) (by simp only [oddTo,oddStep,ha,hb,ho,Bool.not_true,Bool.not_false,Bool.false_and,Bool.true_and,decide_true,decide_false,Bool.false_eq_true,if_true,if_false,Bool.and_false])
    ·simp (disch:=omega) only [↓RS,RZ,simprocAttr]
     exact fin _ _ _ w0 w1 w2 w3 w4 (by simp only [oddTo,oddStep,ha,hb,ho,Bool.not_true,Bool.not_false,Bool.false_and,Bool.true_and,decide_true,decide_false,Bool.false_eq_true,if_true,if_false,Bool.and_false])
   |false=>
    simp (disch:=omega) only [↓RS,RZ,simprocAttr]
    exact fin _ _ _ w0 w1 w2 w3 w4 (by simp only [oddTo,oddStep,ha,hb,Bool.not_true,Bool.not_false,Bool.false_and,Bool.true_and,decide_true,decide_false,Bool.false_eq_true,if_true,if_false,Bool.and_false])
 ·exact ⟨rfl,rfl,rfl,rfl,rfl⟩
 ·rintro v H ⟨h0,h1,h2,h3,h4⟩
  refine .inl ⟨h4,?_⟩
  have e:get (H.set 4 none) 2=some (.row 1 true [[.prim (.bool (oddTo L p L.length))]]):=by rw [get_ne (by omega)];exact h2
  simp (disch:=omega) only [↓RS,RZ,simprocAttr,e]
 ·exact fun _ _ h=>h.elim
end Go.Av
