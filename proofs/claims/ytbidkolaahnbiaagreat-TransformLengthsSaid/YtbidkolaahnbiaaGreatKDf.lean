/- Helping texts: Df, Dg. -/
import Derived.Test.YtbidkolaahnbiaaGreatKDb
import Derived.Test.YtbidkolaahnbiaaGreatKCt
set_option linter.unusedSimpArgs false
set_option linter.unusedVariables false
set_option maxRecDepth 100000
set_option maxHeartbeats 16000000
namespace Go.Av
open Go.RowKit
open Go.Proofs.Tryz (prog)
def nx (L:List Pt) (i:Nat):Pt:=L.getD ((i+1)%L.length) default
theorem edges_sc (L:List Pt) {H:Hp} {K:V→Hp→Prop} (hK:K (.clo 200 [] [.ptr H.length 0 0]) (H++[some (.row 1 true [[psV L]])])):SC prog 121 [psV L] H K:=by
 refine SCi ?_
 conv in trip _ _=>cbv
 simp only [runT,RN,simprocAttr]
 simp (disch:=omega) only [↓RS,RZ,simprocAttr,psV]
 exact hK
theorem edges1_sc (L:List Pt) (hn:L.length<2^40) {yb b:Nat} {H:Hp} {K:V→Hp→Prop} (Inv:Nat→Hp→Prop) (Fin:Hp→Prop)
 (hbox:∀ i H,Inv i H→get H b=some (.row 1 true [[psV L]])) (hpad:∀ i H k,Inv i H→Inv i (H++[k]))
 (step:∀ i H,i<L.length→Inv i H→YC prog yb [pV (L.getD i default),pV (nx L i)] H (yQ (Inv (i+1)) Fin))
 (h0:Inv 0 H) (hK:∀ v H,Inv L.length H→K v H) (hF:∀ v H,Fin H→K v H):SC prog 200 [.yld yb,.ptr b 0 0] H K:=by
 refine SCi ?_
 conv in trip _ _=>cbv
 simp only [runT,RN,simprocAttr]
 have hb:=hbox 0 H h0
 simp (disch:=omega) only [↓RS,RZ,simprocAttr,hb,psV,pc_length]
 refine wp_lp (fun (i:Nat) J=>ov [(0,.yld yb),(1,.ptr b 0 0),(5,psV L),(6,.prim (.int .i64 ((L.length:Nat):Int))),(7,.prim (.int .i64 ((i:Nat):Int)))] J 0 25) (fun i H=>i≤L.length∧Inv i H) (fun i=>L.length-i) 0 rfl ⟨Nat.zero_le _,h0⟩ ?_
 rintro i J H ⟨hi,hv⟩
 try conv in ov _ _ _ _=>simp only [ov,List.lookup,RO,simprocAttr]
 rcases Nat.lt_or_ge i L.length with hlt|hge
 ·have g1:=pc_getD hlt
  have m2:=Nat.mod_lt (i+1) (show 0<L.length by omega)
  have g2:=pc_getD m2
  have hb:=hbox i H hv
  have hb1:∀ k,get (H++[k]) b=some (.row 1 true [[psV L]]):=fun k=>get_app hb
  have st:=step i _ hlt (hpad i H (some (.row 6 true [pc (L.getD i default)])) hv)
  simp (disch:=omega) only [↓RS,RZ,simprocAttr,psV,pc_length,g1,g2,pc,hb,hb1,set_app_len,tmodN]
  refine YC.mono ?_ st
  rintro v H' (⟨rfl,h⟩|⟨rfl,h⟩)
  ·simp (disch:=omega) only [↓RS,RZ,simprocAttr]
   exact lp_next (i+1) rfl ⟨hlt,h⟩ (by omega)
  ·simp (disch:=omega) only [↓RS,RZ,simprocAttr]
   exact hF _ _ h
 ·have hia:i=L.length:=by omega
  subst hia
  simp (disch:=omega) only [↓RS,RZ,simprocAttr,psV,pc_length]
  exact hK _ _ hv
def segOf (L:List Pt) (i:Nat):Sg:=⟨L.getD i default,nx L i⟩
def sgc (s:Sg):List V:=[.prim (.bool (can s.a.x).neg),.prim (.string (bs ((can s.a.x).num))),.prim (.string (bs ((can s.a.x).den))),.prim (.bool (can s.a.y).neg),.prim (.string (bs ((can s.a.y).num))),.prim (.string (bs ((can s.a.y).den))),.prim (.bool (can s.b.x).neg),.prim (.string (bs ((can s.b.x).num))),.prim (.string (bs ((can s.b.x).den))),.prim (.bool (can s.b.y).neg),.prim (.string (bs ((can s.b.y).num))),.prim (.string (bs ((can s.b.y).den)))]
def ssV (l:List Sg):V:= .lst 12 (l.map sgc)
def edgesL (L:List Pt):List Sg:=(List.range L.length).map (segOf L)
theorem sgc_prims (l:List Sg):Prims (l.map sgc):=by
 intro e he v hv
 obtain ⟨s,_,rfl⟩:=List.mem_map.1 he
 simp only [sgc,List.mem_cons,List.not_mem_nil,or_false] at hv
 rcases hv with h|h|h|h|h|h|h|h|h|h|h|h<;>exact ⟨_,h⟩
theorem range_map_succ {α:Type} (f:Nat→α) (i:Nat):(List.range (i+1)).map f=(List.range i).map f++[f i]:=by rw [List.range_succ,List.map_append];rfl
theorem Edges_pc (L:List Pt) (hn:L.length≤2^30) (hne:L≠[]):PC prog 202 [psV L] (ssV (edgesL L)):=by
 refine PCi ?_
 conv in trip _ _=>cbv
 simp only [runT,RN,simprocAttr]
 simp (disch:=omega) only [↓RS,RZ,simprocAttr,psV]
 refine call_sc (edges_sc L ?_)
 simp (disch:=omega) only [↓RS,RZ,simprocAttr,psV]
 refine wp_rf mixed (n:=2) (k:=2) rfl rfl rfl (by kernel_rfl) ?_
 conv in lcC _=>cbv
 conv in lcC _=>cbv
 intro R B D hR hyc
 simp only [List.nil_append,List.cons_append] at hyc ⊢
 refine edges1_sc L (by omega) (fun i H=>∃ v,get H 0=some (.row 1 true [[v]])∧get H 1=some (.row 1 true [[psV L]])∧get H 2=some R∧Bufn 3 H v 12 (((List.range i).map (segOf L)).map sgc)) (fun _=>False) ?_ ?_ ?_ ?_ ?_ ?_
 ·rintro i H ⟨v,h⟩;exact h.2.1
 ·rintro i H k ⟨v,h0,h1,h2,h3⟩;exact ⟨v,get_app h0,get_app h1,get_app h2,h3.app _⟩
 ·rintro i H hlt ⟨v,h0,h1,h2,h3⟩
  refine hyc _ _ _ rfl h2 ?_
  have hN:=h3.1
  simp (disch:=omega) only [↓RS,RZ,simprocAttr,pV,ptV,yieldT_cons,yieldT_nil,set_app_len,set_app_len2]
  rw [bgQ_normal]
  refine ⟨by rw [get_app2 (by omega)];exact h2,?_⟩
  obtain ⟨H1,e,f,k2,k3,k4,k5⟩:=two_more (H:=H) (b:=2) (x:=some (.row 6 true [pc (L.getD i default)])) (y:=some (.row 6 true [pc (nx L i)])) (z:=some B) (by omega)
  have q0:get H1 0=some (.row 1 true [[v]]):=by rw [f 0 (by omega) (by omega)];exact h0
  have q1:get H1 1=some (.row 1 true [[psV L]]):=by rw [f 1 (by omega) (by omega)];exact h1
  have q3:Bufn 3 H1 v 12 (((List.range i).map (segOf L)).map sgc):=by rw [←e];exact ((h3.app _).app _).set (by omega)
  simp only [pc] at e k3 k4
  rw [e]
  simp (disch:=omega) only [↓RS,RZ,simprocAttr,q0,k3,k4]
  refine Bufn.append (q3.app _) (by simp [cellV]) (by simp only [List.length_cons,List.length_nil,List.length_map,List.length_range];omega) (by simp only [List.length_cons,List.length_nil,List.length_map,List.length_range];omega) ?_
  intro v' H2 hb hk
  have r0:=hk 0 _ (by omega) (get_app q0)
  have r1:=hk 1 _ (by omega) (get_app q1)
  have r2:=hk 2 _ (by omega) (get_app k2)
  have c1:=hb.one
  have c2:=hb.cel
  simp (disch:=omega) only [↓RS,RZ,simprocAttr,r0,c1,c2]
  rw [rdQ_normal]
  refine ⟨by rw [get_ne (by omega)];exact r2,.inl ⟨rfl,v',?_,?_,?_,?_⟩⟩
  ·rw [get_ne (by omega),get_eq (by have:=hb.1;omega)]
  ·rw [get_ne (by omega),get_ne (by omega)];exact r1
  ·rw [get_eq (by rw [List.length_set];have:=hb.1;omega)]
  ·rw [range_map_succ,List.map_append]
   exact (hb.set (by omega)).set (by omega)
 ·exact ⟨_,rfl,rfl,rfl,.nil (by simp)⟩
 ·rintro v H ⟨u,h0,h1,h2,h3⟩
  refine .inl ⟨h2,?_⟩
  have e0:get (H.set 2 none) 0=some (.row 1 true [[u]]):=by rw [get_ne (by omega)];exact h0
  obtain ⟨b,hb,rfl,hg⟩:=h3.cases (by simpa using hne)
  have e1:get (H.set 2 none) b=some (.row 12 true (((List.range L.length).map (segOf L)).map sgc)):=by rw [get_ne (by omega)];exact hg
  have hvl:= @viewLL_prims (H.set 2 none) 7 _ (sgc_prims ((List.range L.length).map (segOf L)))
  have hlen:(((List.range L.length).map (segOf L)).map sgc).length=L.length:=by simp
  have htk:(((List.range L.length).map (segOf L)).map sgc).take L.length=((List.range L.length).map (segOf L)).map sgc:=by rw [List.take_of_length_le (by omega)]
  simp (disch:=omega) only [↓RS,RZ,simprocAttr,e0,hlen]
  rw [e1]
  simp only [hlen,Nat.le_refl,if_true,htk]
  rw [hvl]
  rfl
 ·exact fun _ _ h=>h.elim
end Go.Av
namespace Go.Av
open Go.RowKit
open Go.Proofs.Tryz (prog)
theorem edgesL_length (L:List Pt):(edgesL L).length=L.length:=by simp [edgesL]
theorem sgc_length (l:List Sg):(l.map sgc).length=l.length:=List.length_map ..
theorem edges_getD {L:List Pt} {i:Nat} (h:i<L.length):((edgesL L).map sgc).getD i []=sgc (segOf L i):=by
 unfold edgesL
 rw [List.getD_eq_getElem?_getD,List.getElem?_map,List.getElem?_map,List.getElem?_range h];rfl
theorem hp_nx {L:List Pt} {k i:Nat} (h:hl L k) (hi:i<L.length):hp (nx L i)≤k:=hl_get h (Nat.mod_lt _ (by omega))
theorem hs_seg {L:List Pt} {k i:Nat} (h:hl L k) (hi:i<L.length):hs (segOf L i)≤k:=hs_mk (hl_get h hi) (hp_nx h hi)
def crossAt (L:List Pt) (i k:Nat):Bool:=decide (i+2≤k)&&(!(decide (i=0)&&decide (k=L.length-1))&&(meetM (segOf L i) (segOf L k)).isSome)
def crossB (L:List Pt):Bool:=(List.range L.length).any fun i=>(List.range L.length).any fun k=>crossAt L i k
theorem crossB_true {L:List Pt} {i k:Nat} (hi:i<L.length) (hk:k<L.length) (h:crossAt L i k=true):crossB L=true:=
 List.any_eq_true.2 ⟨i,by simpa using hi,List.any_eq_true.2 ⟨k,by simpa using hk,h⟩⟩
theorem crossB_false {L:List Pt} (h:∀ i,i<L.length→∀ k,k<L.length→crossAt L i k=false):crossB L=false:=by
 unfold crossB
 rw [List.any_eq_false]
 intro i hi
 simp only [List.mem_range] at hi
 rw [Bool.not_eq_true,List.any_eq_false]
 intro k hk
 simp only [List.mem_range] at hk
 simp [h i hi k hk]
theorem crossB_get {L:List Pt} (h:crossB L=false) {i k:Nat} (hi:i<L.length) (hk:k<L.length):crossAt L i k=false:=by
 cases h2:crossAt L i k with
 |false=>rfl
 |true=>rw [crossB_true hi hk h2] at h;cases h
theorem crossing_pc (L:List Pt) (hn:L.length≤2^20) (hne:L≠[]) (hL:hl L (2^20)):PC prog 206 [psV L] (.prim (.bool (crossB L))):=by
 have hpos:0<L.length:=List.length_pos_iff.2 hne
 refine PCi ?_
 conv in trip _ _=>cbv
 simp only [runT,RN,simprocAttr]
 have e:=Edges_pc L (by omega) hne
 simp (disch:=omega) only [↓RS,RZ,simprocAttr,psV]
 refine cX e ?_
 simp (disch:=omega) only [↓RS,RZ,simprocAttr,ssV,sgc_length,edgesL_length]
 refine wp_lp (fun (i:Nat) J=>ov [(3,ssV (edgesL L)),(4,.prim (.int .i64 ((L.length:Nat):Int))),(15,.prim (.int .i64 ((L.length:Nat):Int))),(16,.prim (.int .i64 ((i:Nat):Int)))] J 0 49) (fun i _=>i≤L.length∧∀ j,j<i→∀ k,k<L.length→crossAt L j k=false) (fun i=>L.length-i) 0 rfl ⟨Nat.zero_le _,fun j hj=>absurd hj (Nat.not_lt_zero j)⟩ ?_
 rintro i J H ⟨hi,hp⟩
 try conv in ov _ _ _ _=>simp only [ov,List.lookup,RO,simprocAttr]
 rcases Nat.lt_or_ge i L.length with hlt|hge
 ·simp (disch:=omega) only [↓RS,RZ,simprocAttr,ssV,sgc_length,edgesL_length]
  refine wp_lp (fun (k:Nat) J=>ov [(3,ssV (edgesL L)),(4,.prim (.int .i64 ((L.length:Nat):Int))),(5,.prim (.int .i64 ((i:Nat):Int))),(6,.prim (.int .i64 ((k:Nat):Int))),(15,.prim (.int .i64 ((L.length:Nat):Int))),(16,.prim (.int .i64 ((i:Nat):Int)))] J 0 49) (fun k _=>i+2≤k∧∀ j,j<k→j<L.length→crossAt L i j=false) (fun k=>L.length-k) (i+2) rfl ⟨Nat.le_refl _,fun j hj _=>by
   unfold crossAt;rw [decide_eq_false (by omega)];rfl⟩ ?_
  rintro k J H ⟨hk,hq⟩
  try conv in ov _ _ _ _=>simp only [ov,List.lookup,RO,simprocAttr]
  rcases Nat.lt_or_ge k L.length with hkl|hkg
  ·have g1:=edges_getD hlt
   have g2:=edges_getD hkl
   have m:=Smeet_pc (segOf L i) (segOf L k) (hs_seg hL hlt) (hs_seg hL hkl)
   by_cases hz:i=0∧k=L.length-1
   ·obtain ⟨rfl,hz⟩:=hz
    simp (disch:=omega) only [↓RS,RZ,simprocAttr,ssV,sgc_length,edgesL_length]
    exact lp_next (k+1) rfl ⟨by omega,fun j hj hjl=>by
     rcases Nat.lt_or_ge j k with h|h
     ·exact hq j h hjl
     ·unfold crossAt;rw [decide_eq_true (show j=L.length-1 by omega)];simp⟩ (by omega)
   ·have fin:∀ b,(meetM (segOf L i) (segOf L k)).isSome=b→crossAt L i k=b:=by
     intro b hb
     unfold crossAt
     rw [hb,decide_eq_true hk,←Bool.decide_and,decide_eq_false hz];simp
    by_cases hi0:i=0
    ·subst hi0
     have hk1:k≠L.length-1:=fun h=>hz ⟨rfl,h⟩
     simp (disch:=omega) only [↓RS,RZ,simprocAttr,ssV,sgc_length,edgesL_length,g1,g2,sgc,set_app_len]
     refine cX m ?_
     cases hm:(meetM (segOf L 0) (segOf L k)).isSome with
     |true=>
      rw [crossB_true hlt hkl (fin _ hm)]
      simp (disch:=omega) only [↓RS,RZ,simprocAttr,sgV,s4V,set_app_len]
     |false=>
      simp (disch:=omega) only [↓RS,RZ,simprocAttr,sgV,s4V,set_app_len]
      exact lp_next (k+1) rfl ⟨by omega,fun j hj hjl=>by
       rcases Nat.lt_or_ge j k with h|h
       ·exact hq j h hjl
       ·rw [show j=k by omega];exact fin _ hm⟩ (by omega)
    ·simp (disch:=omega) only [↓RS,RZ,simprocAttr,ssV,sgc_length,edgesL_length,g1,g2,sgc,set_app_len]
     refine cX m ?_
     cases hm:(meetM (segOf L i) (segOf L k)).isSome with
     |true=>
      rw [crossB_true hlt hkl (fin _ hm)]
      simp (disch:=omega) only [↓RS,RZ,simprocAttr,sgV,s4V,set_app_len]
     |false=>
      simp (disch:=omega) only [↓RS,RZ,simprocAttr,sgV,s4V,set_app_len]
      exact lp_next (k+1) rfl ⟨by omega,fun j hj hjl=>by
       rcases Nat.lt_or_ge j k with h|h
       ·exact hq j h hjl
       ·rw [show j=k by omega];exact fin _ hm⟩ (by omega)
  ·simp (disch:=omega) only [↓RS,RZ,simprocAttr]
   exact lp_next (i+1) rfl ⟨hlt,fun j hj k' hk'=>by
    rcases Nat.lt_or_ge j i with h|h
    ·exact hp j h k' hk'
    ·rw [show j=i by omega];exact hq k' (by omega) hk'⟩ (by omega)
 ·have hia:i=L.length:=by omega
  subst hia
  rw [crossB_false hp]
  simp (disch:=omega) only [↓RS,RZ,simprocAttr,ssV,sgc_length,edgesL_length]
end Go.Av
