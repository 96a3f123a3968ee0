/- Helping texts: Dj, Dk, Dl, Dm, Dp. -/
import Derived.Test.YtkmlhdfpcjkekaaGreatKDf
import Derived.Test.YtkmlhdfpcjkekaaGreatKDa
set_option linter.unusedSimpArgs false
set_option linter.unusedVariables false
set_option maxRecDepth 100000
set_option maxHeartbeats 16000000
namespace Go.Av
open Go.RowKit
open Go.Proofs.Tryz (prog)
def Rp.pt (p:Rp):Pt:=⟨p.x.val,p.y.val⟩
def pts (l:List Rp):List Pt:=l.map Rp.pt
theorem pts_length (l:List Rp):(pts l).length=l.length:=List.length_map ..
theorem allOk_mem {l:List Rp} (h:allOk l=true):∀ p∈l,p.ok=true:=by
 intro p hp
 obtain ⟨i,hi,rfl⟩:=List.mem_iff_getElem.1 hp
 unfold allOk at h
 rw [List.all_eq_true] at h
 have:=h i (by simpa using hi)
 rwa [List.getD_eq_getElem?_getD,List.getElem?_eq_getElem hi] at this
theorem ok_eq {p:Rp} (h:p.ok=true):p.x=can p.x.val∧p.y=can p.y.val:=by
 unfold Rp.ok at h;exact of_decide_eq_true h
theorem rpc_pt {p:Rp} (h:p.ok=true):rpc p=pc p.pt:=by
 obtain ⟨h1,h2⟩:=ok_eq h
 unfold rpc pc Rp.pt
 simp only [←h1,←h2]
theorem raw_can {l:List Rp} (h:allOk l=true):rpsV l=psV (pts l):=by
 unfold rpsV psV pts
 rw [List.map_map]
 congr 1
 exact List.map_congr_left fun p hp=>rpc_pt (allOk_mem h p hp)
theorem ht_of_le {q:Rat} {k:Nat} (h:(can q).le k) (hk:1≤k):ht q≤k:=by
 obtain ⟨h1,h2⟩:=h
 unfold can at h1 h2
 unfold ht dl
 simp only at h1 h2
 refine Nat.max_le.2 ⟨h1,?_⟩
 split at h2
 ·rename_i e;rw [e]
  have:(digitsOf 1).length=1:=by rw [digitsOf_pos (by omega)];simp [digitsOf_zero]
  omega
 ·exact h2
theorem hl_pts {l:List Rp} {k:Nat} (ho:allOk l=true) (h:∀ p∈l,p.le k) (hk:1≤k):hl (pts l) k:=by
 intro q hq
 obtain ⟨p,hp,rfl⟩:=List.mem_map.1 hq
 obtain ⟨h1,h2⟩:=ok_eq (allOk_mem ho p hp)
 obtain ⟨k1,k2⟩:=h p hp
 rw [h1] at k1;rw [h2] at k2
 exact hp_mk (ht_of_le k1 hk) (ht_of_le k2 hk)
def chkC (L:List Pt):Int:=if 0≤idxP L.length (flatAt L) then 12 else if crossB L=true then 13 else if cmpQ (areaL L) 0≤0∨leastTo L L.length≠0 then 8 else 0
def chkR (l:List Rp):Int:=if l.length<3∨64<l.length then 4 else if allOk l=true then chkC (pts l) else 1
theorem Rcheck_pc (l:List Rp) (hn:l.length<2^50) (hl0:∀ p∈l,p.le (2^16)):PC prog 110 [rpsV l] (.prim (.int .i64 (chkR l))):=by
 refine PCi ?_
 conv in trip _ _=>cbv
 simp only [runT,RN,simprocAttr]
 unfold chkR
 by_cases h1:l.length<3
 ·rw [if_pos (.inl h1)]
  simp (disch:=omega) only [↓RS,RZ,simprocAttr,rpsV,rpc_length]
 by_cases h2:64<l.length
 ·rw [if_pos (.inr h2)]
  simp (disch:=omega) only [↓RS,RZ,simprocAttr,rpsV,rpc_length]
 rw [if_neg (by omega)]
 have c:=canonical_pc l (by omega) (fun p hp=>⟨⟨Nat.le_trans (hl0 p hp).1.1 (by omega),Nat.le_trans (hl0 p hp).1.2 (by omega)⟩,⟨Nat.le_trans (hl0 p hp).2.1 (by omega),Nat.le_trans (hl0 p hp).2.2 (by omega)⟩⟩)
 cases ho:allOk l with
 |false=>
  rw [ho] at c
  rw [if_neg (by simp)]
  simp (disch:=omega) only [↓RS,RZ,simprocAttr,rpsV,rpc_length]
  refine cX c ?_
  simp (disch:=omega) only [↓RS,RZ,simprocAttr]
 |true=>
  rw [ho] at c
  rw [if_pos rfl]
  have hL:=hl_pts ho hl0 (by omega)
  have hlen:=pts_length l
  rw [raw_can ho] at c ⊢
  generalize pts l=L at*
  have hn:L.length≤64:=by omega
  have hne:L≠[]:=by intro h;rw [h] at hlen;simp at hlen;omega
  have f:=flat_pc L (by omega) (fun p hp=>Nat.le_trans (hL p hp) (by omega))
  have x:=crossing_pc L (by omega) hne (fun p hp=>Nat.le_trans (hL p hp) (by omega))
  have a:=Area_pc L (by omega) hL
  have hta:ht (areaL L)≤2^30:=by
   have h1:=ht_areaTo hL L.length (Nat.le_refl _)
   have h2:=ht_div (areaTo L L.length) 2
   have h3:=ht_two
   have h4:L.length*(4*2^16+2)≤64*(4*2^16+2):=Nat.mul_le_mul_right _ hn
   unfold areaL
   omega
  have s:=signQ_pc (areaL L) (by omega)
  have i:=first_pc L (by omega) (fun p hp=>Nat.le_trans (hL p hp) (by omega))
  unfold chkC
  simp (disch:=omega) only [↓RS,RZ,simprocAttr,psV,pc_length]
  refine cX c ?_
  simp (disch:=omega) only [↓RS,RZ,simprocAttr,psV,pc_length]
  refine cX f ?_
  by_cases h3:0≤idxP L.length (flatAt L)
  ·rw [if_pos h3]
   simp (disch:=omega) only [↓RS,RZ,simprocAttr]
  ·rw [if_neg h3]
   simp (disch:=omega) only [↓RS,RZ,simprocAttr,psV,pc_length]
   refine cX x ?_
   cases h4:crossB L with
   |true=>
    rw [if_pos rfl]
    simp (disch:=omega) only [↓RS,RZ,simprocAttr]
   |false=>
    rw [if_neg (by simp)]
    simp (disch:=omega) only [↓RS,RZ,simprocAttr,psV,pc_length]
    refine cX a ?_
    simp (disch:=omega) only [↓RS,RZ,simprocAttr,qV,rV]
    refine cX s ?_
    by_cases h5:cmpQ (areaL L) 0≤0
    ·rw [if_pos (.inl h5)]
     simp (disch:=omega) only [↓RS,RZ,simprocAttr]
    ·by_cases h6:leastTo L L.length=0
     ·rw [if_neg (fun h=>h.elim h5 (fun h=>h h6))]
      simp (disch:=omega) only [↓RS,RZ,simprocAttr,psV,pc_length]
      refine cX i ?_
      simp (disch:=omega) only [↓RS,RZ,simprocAttr]
     ·rw [if_pos (.inr h6)]
      simp (disch:=omega) only [↓RS,RZ,simprocAttr,psV,pc_length]
      refine cX i ?_
      simp (disch:=omega) only [↓RS,RZ,simprocAttr]
end Go.Av
namespace Go.Av
open Go.RowKit
open Go.Proofs.Tryz (prog)
theorem rp_ok (p:Pt):p.rp.ok=true:=by unfold Rp.ok Pt.rp;simp only [can_val];simp
theorem rp_pt (p:Pt):p.rp.pt=p:=by unfold Rp.pt Pt.rp;simp only [can_val]
theorem allOk_rp (L:List Pt):allOk (L.map Pt.rp)=true:=by
 unfold allOk
 rw [List.all_eq_true]
 intro i hi
 have hi:i<(L.map Pt.rp).length:=by simpa using hi
 rw [List.getD_eq_getElem?_getD,List.getElem?_eq_getElem hi,Option.getD_some,List.getElem_map]
 exact rp_ok _
theorem pts_rp (L:List Pt):pts (L.map Pt.rp)=L:=by
 unfold pts
 rw [List.map_map]
 have:(Rp.pt∘Pt.rp)=id:=funext rp_pt
 rw [this,List.map_id]
theorem rp_le {L:List Pt} {k:Nat} (h:hl L k):∀ p∈L.map Pt.rp,p.le k:=by
 intro p hp
 obtain ⟨q,hq,rfl⟩:=List.mem_map.1 hp
 have:=h q hq
 exact ⟨can_le (Nat.le_trans (hp_x q) this),can_le (Nat.le_trans (hp_y q) this)⟩
structure Ring (L:List Pt):Prop where
 lo:3≤L.length
 hi:L.length≤64
 ok:chkC L=0
 ht:hl L (2^16)
theorem Ring.ne {L:List Pt} (h:Ring L):L≠[]:=by intro e;have:=h.lo;rw [e] at this;simp at this
theorem Ring.le {L:List Pt} (h:Ring L) {k:Nat} (hk:2^16≤k):hl L k:=fun p hp=>Nat.le_trans (h.ht p hp) hk
theorem chkR_rp {L:List Pt} (h1:3≤L.length) (h2:L.length≤64):chkR (L.map Pt.rp)=chkC L:=by
 unfold chkR
 rw [if_neg (by rw [List.length_map];omega),allOk_rp,if_pos rfl,pts_rp]
theorem Ring.check_pc {L:List Pt} (h:Ring L):PC prog 110 [psV L] (.prim (.int .i64 (0))):=by
 have:=Rcheck_pc (L.map Pt.rp) (by rw [List.length_map];have:=h.hi;omega) (rp_le h.ht)
 rw [chkR_rp h.lo h.hi,h.ok,←psV_rps] at this
 exact this
theorem can1_pc (p:Pt) (h:hp p≤2^20):PC prog 176 [psV [p]] (.prim (.bool true)):=by
 have:=canonical_pc ([p].map Pt.rp) (by simp) (fun q hq=>by
  obtain ⟨h1,h2⟩:=rp_le (L:=[p]) (k:=2^20) (fun q hq=>by simp at hq;rw [hq];exact h) q hq
  exact ⟨⟨Nat.le_trans h1.1 (by omega),Nat.le_trans h1.2 (by omega)⟩,⟨Nat.le_trans h2.1 (by omega),Nat.le_trans h2.2 (by omega)⟩⟩)
 rw [allOk_rp,←psV_rps] at this
 exact this
def onB (L:List Pt) (p:Pt):Bool:=(List.range L.length).any fun i=>between (L.getD i default) (nx L i) p
theorem onB_true {L:List Pt} {p:Pt} {i:Nat} (hi:i<L.length) (h:between (L.getD i default) (nx L i) p=true):onB L p=true:=List.any_eq_true.2 ⟨i,by simpa using hi,h⟩
theorem onB_false {L:List Pt} {p:Pt} (h:∀ i,i<L.length→between (L.getD i default) (nx L i) p=false):onB L p=false:=by
 unfold onB;rw [List.any_eq_false];intro i hi;rw [h i (by simpa using hi)];simp
def sideS (L:List Pt) (p:Pt):Int:=if onB L p=true then 0 else if oddTo L p L.length=true then 1 else-1
theorem Inside_pc (L:List Pt) (p:Pt) (hR:Ring L) (hp0:hp p≤2^20):PC prog 130 [psV L,pV p] (.tup [.prim (.int .i64 (sideS L p)),.prim (.int .i64 (0))]):=by
 have h64:=hR.hi
 have hL:hl L (2^20):=hR.le (by omega)
 have c:=hR.check_pc
 have d:=can1_pc p hp0
 have o:=odd_pc L p (by omega) hL hp0
 refine PCi ?_
 conv in trip _ _=>cbv
 simp only [runT,RN,simprocAttr]
 simp (disch:=omega) only [↓RS,RZ,simprocAttr,pV,ptV,psV]
 refine cX c ?_
 simp (disch:=omega) only [↓RS,RZ,simprocAttr,pV,ptV,psV,pc,List.map_cons,List.map_nil]
 refine cX d ?_
 simp (disch:=omega) only [↓RS,RZ,simprocAttr,psV]
 refine call_sc (edges_sc L ?_)
 simp (disch:=omega) only [↓RS,RZ,simprocAttr,psV]
 refine wp_rf mixed (n:=5) (k:=2) rfl rfl rfl (by kernel_rfl) ?_
 conv in lcC _=>cbv
 conv in lcC _=>cbv
 intro R B D hR hyc
 simp only [List.nil_append,List.cons_append] at hyc ⊢
 refine edges1_sc L (by omega) (fun i H=>get H 0=some (.row 6 true [pc p])∧(∃ z,get H 1=some (.row 1 true [[z]]))∧(∃ z,get H 2=some (.row 1 true [[z]]))∧get H 4=some (.row 1 true [[psV L]])∧get H 5=some R∧∀ j,j<i→between (L.getD j default) (nx L j) p=false)
  (fun H=>onB L p=true∧get H 1=some (.row 1 true [[.prim (.int .i64 (0))]])∧get H 2=some (.row 1 true [[.prim (.int .i64 (0))]])∧get H 5=some (D .ret)) ?_ ?_ ?_ ?_ ?_ ?_
 ·rintro i H h;exact h.2.2.2.1
 ·rintro i H k ⟨h0,⟨z1,h1⟩,⟨z2,h2⟩,h3,h4,h5⟩;exact ⟨get_app h0,⟨z1,get_app h1⟩,⟨z2,get_app h2⟩,get_app h3,get_app h4,h5⟩
 ·rintro i H hlt ⟨h0,⟨z1,h1⟩,⟨z2,h2⟩,h3,h4,h5⟩
  have hN:=get_lt_len h4
  refine hyc _ _ _ rfl h4 ?_
  clear hyc
  simp (disch:=omega) only [↓RS,RZ,simprocAttr,pV,ptV,yieldT_cons,yieldT_nil,set_app_len,set_app_len2]
  rw [bgQ_normal]
  refine ⟨by rw [get_app2 hN];exact h4,?_⟩
  obtain ⟨H1,e,f,k4,kn1,kn2,k5⟩:=two_more (H:=H) (b:=5) (x:=some (.row 6 true [pc (L.getD i default)])) (y:=some (.row 6 true [pc (nx L i)])) (z:=some B) hN
  have q0:get H1 0=some (.row 6 true [pc p]):=by rw [f 0 (by omega) (by omega)];exact h0
  have q1:get H1 1=some (.row 1 true [[z1]]):=by rw [f 1 (by omega) (by omega)];exact h1
  have q2:get H1 2=some (.row 1 true [[z2]]):=by rw [f 2 (by omega) (by omega)];exact h2
  have q3:get H1 4=some (.row 1 true [[psV L]]):=by rw [f 4 (by omega) (by omega)];exact h3
  simp only [pc] at e kn1 kn2
  rw [e]
  have b1:=hl_get hL hlt
  have b2:=hp_nx hL hlt
  have bt:=between_pc (L.getD i default) (nx L i) p (by omega) (by omega) (by omega)
  simp (disch:=omega) only [↓RS,RZ,simprocAttr,kn1,kn2,q0,pc]
  refine cX bt ?_
  cases hb:between (L.getD i default) (nx L i) p with
  |true=>
   have s2:∀ x,get (H1.set 1 x) 2=some (.row 1 true [[z2]]):=fun x=>by rw [get_ne (by omega)];exact q2
   simp (disch:=omega) only [↓RS,RZ,simprocAttr,q1,s2]
   rw [rdQ_ret]
   refine ⟨by rw [get_ne (by omega),get_ne (by omega)];exact k4,.inr ⟨rfl,onB_true hlt hb,?_,?_,?_⟩⟩
   ·rw [get_ne (by omega),get_ne (by omega),get_eq (by omega)]
   ·rw [get_ne (by omega),get_eq (by rw [List.length_set];omega)]
   ·rw [get_eq (by rw [List.length_set,List.length_set];omega)]
  |false=>
   simp (disch:=omega) only [↓RS,RZ,simprocAttr]
   rw [rdQ_normal]
   refine ⟨k4,.inl ⟨rfl,by rw [get_ne (by omega)];exact q0,⟨z1,by rw [get_ne (by omega)];exact q1⟩,⟨z2,by rw [get_ne (by omega)];exact q2⟩,by rw [get_ne (by omega)];exact q3,get_eq (by omega),fun j hj=> ?_⟩⟩
   rcases Nat.lt_or_ge j i with h|h
   ·exact h5 j h
   ·rw [show j=i by omega];exact hb
 ·exact ⟨rfl,⟨_,rfl⟩,⟨_,rfl⟩,rfl,rfl,fun j hj=>absurd hj (Nat.not_lt_zero j)⟩
 ·rintro v H ⟨h0,⟨z1,h1⟩,⟨z2,h2⟩,h3,h4,h5⟩
  have hN:=get_lt_len h4
  refine .inl ⟨h4,?_⟩
  have e0:get (H.set 5 none) 0=some (.row 6 true [pc p]):=by rw [get_ne (by omega)];exact h0
  have e1:get (H.set 5 none) 1=some (.row 1 true [[z1]]):=by rw [get_ne (by omega)];exact h1
  have e2:get (H.set 5 none) 2=some (.row 1 true [[z2]]):=by rw [get_ne (by omega)];exact h2
  have hl5:5<(H.set 5 none).length:=by rw [List.length_set];omega
  generalize H.set 5 none=H1 at e0 e1 e2 hl5 ⊢
  have s2:∀ x,get (H1.set 1 x) 2=some (.row 1 true [[z2]]):=fun x=>by rw [get_ne (by omega)];exact e2
  have s3:∀ x y,get ((H1.set 1 x).set 2 y) 1=x:=fun x y=>by rw [get_ne (by omega),get_eq (by omega)]
  have s4:∀ x y,get ((H1.set 1 x).set 2 y) 2=y:=fun x y=>get_eq (by rw [List.length_set];omega)
  have hon:onB L p=false:=onB_false h5
  unfold sideS
  rw [hon,if_neg (by simp)]
  simp (disch:=omega) only [↓RS,RZ,simprocAttr,e0,pc,psV]
  refine cX o ?_
  cases ho:oddTo L p L.length with
  |true=>
   simp (disch:=omega) only [↓RS,RZ,simprocAttr,e1,s2,s3,s4]
  |false=>
   simp (disch:=omega) only [↓RS,RZ,simprocAttr,e1,s2,s3,s4]
 ·rintro v H ⟨hon,h1,h2,h5⟩
  have hN:=get_lt_len h5
  refine .inr ⟨.ret,h5,?_⟩
  have e1:get (H.set 5 none) 1=some (.row 1 true [[.prim (.int .i64 (0))]]):=by rw [get_ne (by omega)];exact h1
  have e2:get (H.set 5 none) 2=some (.row 1 true [[.prim (.int .i64 (0))]]):=by rw [get_ne (by omega)];exact h2
  unfold sideS
  rw [hon,if_pos rfl]
  simp (disch:=omega) only [↓RS,RZ,simprocAttr,e1,e2]
end Go.Av
namespace Go.Av
open Go.RowKit
open Go.Proofs.Tryz (prog)
def meetB (A B:List Pt):Bool:=(List.range A.length).any fun i=>(List.range B.length).any fun k=>(meetM (segOf A i) (segOf B k)).isSome
theorem meetB_true {A B:List Pt} {i k:Nat} (hi:i<A.length) (hk:k<B.length) (h:(meetM (segOf A i) (segOf B k)).isSome=true):meetB A B=true:=
 List.any_eq_true.2 ⟨i,by simpa using hi,List.any_eq_true.2 ⟨k,by simpa using hk,h⟩⟩
theorem meetB_false {A B:List Pt} (h:∀ i,i<A.length→∀ k,k<B.length→(meetM (segOf A i) (segOf B k)).isSome=false):meetB A B=false:=by
 unfold meetB
 rw [List.any_eq_false]
 intro i hi
 simp only [List.mem_range] at hi
 rw [Bool.not_eq_true,List.any_eq_false]
 intro k hk
 simp only [List.mem_range] at hk
 rw [h i hi k hk];simp
theorem meet_pc (A B:List Pt) (hA:Ring A) (hB:Ring B):PC prog 180 [psV A,psV B] (.prim (.bool (meetB A B))):=by
 have a1:=hA.lo;have a2:=hA.hi;have a3:=hB.lo;have a4:=hB.hi
 have hLA:hl A (2^20):=hA.le (by omega)
 have hLB:hl B (2^20):=hB.le (by omega)
 have ea:=Edges_pc A (by omega) hA.ne
 have eb:=Edges_pc B (by omega) hB.ne
 refine PCi ?_
 conv in trip _ _=>cbv
 simp only [runT,RN,simprocAttr]
 simp (disch:=omega) only [↓RS,RZ,simprocAttr,psV]
 refine cX ea ?_
 simp (disch:=omega) only [↓RS,RZ,simprocAttr,ssV,sgc_length,edgesL_length]
 refine wp_lp (fun (i:Nat) J=>ov [(0,psV A),(1,psV B),(13,ssV (edgesL A)),(14,.prim (.int .i64 ((A.length:Nat):Int))),(15,.prim (.int .i64 ((i:Nat):Int)))] J 0 36) (fun i _=>i≤A.length∧∀ j,j<i→∀ k,k<B.length→(meetM (segOf A j) (segOf B k)).isSome=false) (fun i=>A.length-i) 0 rfl ⟨Nat.zero_le _,fun j hj=>absurd hj (Nat.not_lt_zero j)⟩ ?_
 rintro i J H ⟨hi,hp⟩
 try conv in ov _ _ _ _=>simp only [ov,List.lookup,RO,simprocAttr]
 rcases Nat.lt_or_ge i A.length with hlt|hge
 ·have g1:=edges_getD hlt
  simp (disch:=omega) only [↓RS,RZ,simprocAttr,ssV,sgc_length,edgesL_length,g1,sgc,psV,set_app_len]
  refine cX eb ?_
  simp (disch:=omega) only [↓RS,RZ,simprocAttr,ssV,sgc_length,edgesL_length]
  refine wp_lp (fun (k:Nat) J=>ov [(0,psV A),(1,psV B),(6,.ptr H.length 0 0),(13,ssV (edgesL A)),(14,.prim (.int .i64 ((A.length:Nat):Int))),(15,.prim (.int .i64 ((i:Nat):Int))),(20,ssV (edgesL B)),(21,.prim (.int .i64 ((B.length:Nat):Int))),(22,.prim (.int .i64 ((k:Nat):Int)))] J 0 36) (fun k H'=>(k≤B.length∧∀ j,j<k→(meetM (segOf A i) (segOf B j)).isSome=false)∧get H' H.length=some (.row 12 true [sgc (segOf A i)])) (fun k=>B.length-k) 0 rfl ⟨⟨Nat.zero_le _,fun j hj=>absurd hj (Nat.not_lt_zero j)⟩,get_app_len⟩ ?_
  rintro k J H' ⟨⟨hk,hq⟩,hg⟩
  try conv in ov _ _ _ _=>simp only [ov,List.lookup,RO,simprocAttr]
  rcases Nat.lt_or_ge k B.length with hkl|hkg
  ·have g2:=edges_getD hkl
   have m:=Smeet_pc (segOf A i) (segOf B k) (hs_seg hLA hlt) (hs_seg hLB hkl)
   have hg1:∀ x,get (H'++[x]) H.length=some (.row 12 true [sgc (segOf A i)]):=fun x=>get_app hg
   have hg2:∀ x y,get (H'++[x]++[y]) H.length=some (.row 12 true [sgc (segOf A i)]):=fun x y=>get_app (get_app hg)
   simp (disch:=omega) only [↓RS,RZ,simprocAttr,ssV,sgc_length,edgesL_length,g2,sgc,set_app_len,hg1]
   refine cX m ?_
   cases hm:(meetM (segOf A i) (segOf B k)).isSome with
   |true=>
    rw [meetB_true hlt hkl hm]
    simp (disch:=omega) only [↓RS,RZ,simprocAttr,sgV,s4V,set_app_len]
   |false=>
    simp (disch:=omega) only [↓RS,RZ,simprocAttr,sgV,s4V,set_app_len]
    exact lp_next (k+1) rfl ⟨⟨hkl,fun j hj=>by
     rcases Nat.lt_or_ge j k with h|h
     ·exact hq j h
     ·rw [show j=k by omega];exact hm⟩,hg2 _ _⟩ (by omega)
  ·simp (disch:=omega) only [↓RS,RZ,simprocAttr]
   exact lp_next (i+1) rfl ⟨hlt,fun j hj k' hk'=>by
    rcases Nat.lt_or_ge j i with h|h
    ·exact hp j h k' hk'
    ·rw [show j=i by omega];exact hq k' (by omega)⟩ (by omega)
 ·have hia:i=A.length:=by omega
  subst hia
  rw [meetB_false hp]
  simp (disch:=omega) only [↓RS,RZ,simprocAttr]
def withinB (A B:List Pt):Bool:=decide (0<sideS B (A.getD 0 default))
theorem within_pc (A B:List Pt) (hA:Ring A) (hB:Ring B):PC prog 183 [psV A,psV B] (.prim (.bool (withinB A B))):=by
 have a1:=hA.lo
 have g:=pc_getD (l:=A) (k:=0) (by omega)
 have c:=Inside_pc B (A.getD 0 default) hB (Nat.le_trans (hl_get hA.ht (by omega)) (by omega))
 refine PCi ?_
 conv in trip _ _=>cbv
 simp only [runT,RN,simprocAttr]
 unfold withinB
 simp (disch:=omega) only [↓RS,RZ,simprocAttr,psV,pc_length,g,pc]
 refine cX c ?_
 by_cases h:0<sideS B (A.getD 0 default)
 ·rw [decide_eq_true h]
  simp (disch:=omega) only [↓RS,RZ,simprocAttr]
 ·rw [decide_eq_false h]
  simp (disch:=omega) only [↓RS,RZ,simprocAttr]
theorem hole1_sc (h x:List Pt) (h1:Ring h) (h2:Ring x) {b:Nat} {H:Hp} {K:V→Hp→Prop} (hb:get H b=some (.row 1 true [[psV h]])) (hK:K (.prim (.bool (meetB h x))) H):SC prog 182 [psV x,.ptr b 0 0] H K:=by
 have c:=meet_pc h x h1 h2
 refine SCi ?_
 conv in trip _ _=>cbv
 simp only [runT,RN,simprocAttr]
 simp (disch:=omega) only [↓RS,RZ,simprocAttr,hb,psV]
 refine cX c ?_
 simp (disch:=omega) only [↓RS,RZ,simprocAttr]
 exact hK
theorem hole2_sc (h x:List Pt) (h1:Ring h) (h2:Ring x) {b:Nat} {H:Hp} {K:V→Hp→Prop} (hb:get H b=some (.row 1 true [[psV h]])) (hK:K (.prim (.bool (withinB h x||withinB x h))) H):SC prog 184 [psV x,.ptr b 0 0] H K:=by
 have c:=within_pc h x h1 h2
 have d:=within_pc x h h2 h1
 refine SCi ?_
 conv in trip _ _=>cbv
 simp only [runT,RN,simprocAttr]
 simp (disch:=omega) only [↓RS,RZ,simprocAttr,hb,psV]
 refine cX c ?_
 cases hw:withinB h x with
 |true=>
  rw [hw,Bool.true_or] at hK
  simp (disch:=omega) only [↓RS,RZ,simprocAttr]
  exact hK
 |false=>
  rw [hw,Bool.false_or] at hK
  simp (disch:=omega) only [↓RS,RZ,simprocAttr,hb,psV]
  refine cX d ?_
  simp (disch:=omega) only [↓RS,RZ,simprocAttr]
  exact hK
end Go.Av
namespace Go.Av
open Go.RowKit
open Go.Proofs.Tryz (prog)
theorem one_getD {es:List V} {i:Nat} (h:i<es.length):(es.map fun v=>[v]).getD i []=[es.getD i undefV]:=by
 rw [List.getD_eq_getElem?_getD,List.getD_eq_getElem?_getD,List.getElem?_map,List.getElem?_eq_getElem h];rfl
theorem one_length (es:List V):(es.map fun v=>[v]).length=es.length:=List.length_map ..
theorem indexF_sc (es:List V) (f:FuncId) {b:Nat} {blk:Blk} (p:Nat→Bool) {H:Hp} {K:V→Hp→Prop} (hb:get H b=some blk) (hn:es.length<2^50)
 (hf:∀ i H K,i<es.length→get H b=some blk→K (.prim (.bool (p i))) H→SC prog f [es.getD i undefV,.ptr b 0 0] H K)
 (hK:K (.prim (.int .i64 (idxP es.length p))) H):SC prog 233 [.lst 1 (es.map fun v=>[v]),.clo f [] [.ptr b 0 0]] H K:=by
 refine SCi ?_
 conv in trip _ _=>cbv
 simp only [runT,RN,simprocAttr]
 simp (disch:=omega) only [↓RS,RZ,simprocAttr,one_length]
 refine wp_lp (fun (i:Nat) J=>ov [(0,.lst 1 (es.map fun v=>[v])),(1,.clo f [] [.ptr b 0 0]),(4,.prim (.int .i64 (0))),(6,.lst 1 (es.map fun v=>[v])),(7,.prim (.int .i64 ((es.length:Nat):Int))),(8,.prim (.int .i64 ((i:Nat):Int)))] J 0 19) (fun i H'=>(i≤es.length∧∀ j,j<i→p j=false)∧H'=H) (fun i=>es.length-i) 0 rfl ⟨⟨Nat.zero_le _,fun j hj=>absurd hj (Nat.not_lt_zero j)⟩,rfl⟩ ?_
 rintro i J _ ⟨⟨hi,hp⟩,rfl⟩
 try conv in ov _ _ _ _=>simp only [ov,List.lookup,RO,simprocAttr]
 rcases Nat.lt_or_ge i es.length with hlt|hge
 ·have g:=one_getD hlt
  simp (disch:=omega) only [↓RS,RZ,simprocAttr,one_length,g]
  refine call_sc (hf i _ _ hlt hb ?_)
  cases hpi:p i with
  |true=>
   rw [idxP_found hlt hpi hp] at hK
   simp (disch:=omega) only [↓RS,RZ,simprocAttr]
   exact hK
  |false=>
   simp (disch:=omega) only [↓RS,RZ,simprocAttr]
   exact lp_next (i+1) rfl ⟨⟨hlt,fun j hj=>by
    rcases Nat.lt_or_ge j i with h|h
    ·exact hp j h
    ·rw [show j=i by omega];exact hpi⟩,rfl⟩ (by omega)
 ·have hia:i=es.length:=by omega
  subst hia
  rw [idxP_none hp] at hK
  simp (disch:=omega) only [↓RS,RZ,simprocAttr,one_length]
  exact hK
def anyTo (n:Nat) (p:Nat→Bool):Bool:=(List.range n).any p
theorem containsF_sc (es:List V) (f:FuncId) {b:Nat} {blk:Blk} (p:Nat→Bool) {H:Hp} {K:V→Hp→Prop} (hb:get H b=some blk) (hn:es.length<2^50)
 (hf:∀ i H K,i<es.length→get H b=some blk→K (.prim (.bool (p i))) H→SC prog f [es.getD i undefV,.ptr b 0 0] H K)
 (hK:K (.prim (.bool (anyTo es.length p))) H):SC prog 181 [.lst 1 (es.map fun v=>[v]),.clo f [] [.ptr b 0 0]] H K:=by
 unfold anyTo at hK
 rw [←idxP_nonneg] at hK
 refine SCi ?_
 conv in trip _ _=>cbv
 simp only [runT,RN,simprocAttr]
 simp (disch:=omega) only [↓RS,RZ,simprocAttr]
 refine call_sc (indexF_sc es f p hb hn hf ?_)
 by_cases h:0≤idxP es.length p
 ·rw [decide_eq_true h] at hK
  simp (disch:=omega) only [↓RS,RZ,simprocAttr]
  exact hK
 ·rw [decide_eq_false h] at hK
  simp (disch:=omega) only [↓RS,RZ,simprocAttr]
  exact hK
theorem ring_of {l:List Rp} (h:chkR l=0) (hl0:∀ p∈l,p.le (2^16)):Ring (pts l)∧rpsV l=psV (pts l):=by
 unfold chkR at h
 split at h
 ·cases h
 ·rename_i h1
  split at h
  ·rename_i h2
   exact ⟨⟨by rw [pts_length];omega,by rw [pts_length];omega,h,hl_pts h2 hl0 (by omega)⟩,raw_can h2⟩
  ·cases h
def chkH (O:List Rp) (hs:List (List Rp)) (i:Nat):Int:=
 if chkR (hs.getD i [])≠0 then chkR (hs.getD i [])
 else if meetB (pts (hs.getD i [])) (pts O)=true∨anyTo i (fun j=>meetB (pts (hs.getD i [])) (pts (hs.getD j [])))=true then 13
 else if withinB (pts (hs.getD i [])) (pts O)=false then 14
 else if anyTo i (fun j=>withinB (pts (hs.getD i [])) (pts (hs.getD j []))||withinB (pts (hs.getD j [])) (pts (hs.getD i [])))=true then 22
 else if 0<i∧0≤cmpP ((pts (hs.getD (i-1) [])).getD 0 default) ((pts (hs.getD i [])).getD 0 default) then 8 else 0
theorem hs_getD {hs:List (List Rp)} {i:Nat} (h:i<hs.length):(hs.map rpsV).getD i undefV=rpsV (hs.getD i []):=by
 rw [List.getD_eq_getElem?_getD,List.getD_eq_getElem?_getD,List.getElem?_map,List.getElem?_eq_getElem h];rfl
theorem hs_length (hs:List (List Rp)):(hs.map rpsV).length=hs.length:=List.length_map ..
theorem hs_take {hs:List (List Rp)} {i:Nat}:((hs.map rpsV).map fun v=>[v]).take i=((hs.take i).map rpsV).map fun v=>[v]:=by
 rw [←List.map_take,←List.map_take]
theorem take_getD {hs:List (List Rp)} {i j:Nat} (hj:j<i) (hi:i≤hs.length):((hs.take i).map rpsV).getD j undefV=rpsV (hs.getD j []):=by
 rw [List.getD_eq_getElem?_getD,List.getD_eq_getElem?_getD,List.getElem?_map,List.getElem?_take_of_lt hj,List.getElem?_eq_getElem (by omega)];rfl
theorem hole_pc (O:List Rp) (hs:List (List Rp)) (i:Nat) (hi:i<hs.length) (hn:hs.length<2^50) (hO:chkR O=0) (kO:∀ p∈O,p.le (2^16))
 (kh:∀ l∈hs,l.length<2^50∧∀ p∈l,p.le (2^16)) (hb:∀ j,j<i→chkR (hs.getD j [])=0):PC prog 111 [pgV O hs,.prim (.int .i64 ((i:Nat):Int))] (.prim (.int .i64 (chkH O hs i))):=by
 have mem:∀ j,j<hs.length→hs.getD j []∈hs:=fun j hj=>by
  rw [List.getD_eq_getElem?_getD,List.getElem?_eq_getElem hj];exact List.getElem_mem hj
 obtain ⟨rO,eO⟩:=ring_of hO kO
 have g:((hs.map rpsV).map fun v=>[v]).getD i []=[rpsV (hs.getD i [])]:=by rw [one_getD (by rw [hs_length];exact hi),hs_getD hi]
 have c:=Rcheck_pc (hs.getD i []) (kh _ (mem i hi)).1 (kh _ (mem i hi)).2
 have htake:= @hs_take hs i
 have hlen:((hs.take i).map rpsV).length=i:=by rw [List.length_map,List.length_take];omega
 refine PCi ?_
 conv in trip _ _=>cbv
 simp only [runT,RN,simprocAttr]
 unfold chkH
 simp (disch:=omega) only [↓RS,RZ,simprocAttr,pgV,hsV,hs_length,one_length,g,List.drop_zero,Nat.sub_zero,htake,rpsV]
 refine cX c ?_
 by_cases h0:chkR (hs.getD i [])=0
 ·rw [if_neg (by simpa using h0)]
  obtain ⟨rh,eh⟩:=ring_of h0 (kh _ (mem i hi)).2
  have m:=meet_pc _ _ rh rO
  have w:=within_pc _ _ rh rO
  have ring:∀ j,j<i→Ring (pts (hs.getD j []))∧rpsV (hs.getD j [])=psV (pts (hs.getD j [])):=fun j hj=>ring_of (hb j hj) (kh _ (mem j (by omega))).2
  have eh':(hs.getD i []).map rpc=(pts (hs.getD i [])).map pc:=by have:=eh;unfold rpsV psV at this;injection this
  have eO':O.map rpc=(pts O).map pc:=by have:=eO;unfold rpsV psV at this;injection this
  simp (disch:=omega) only [↓RS,RZ,simprocAttr,eh',eO']
  refine cX m ?_
  cases hm:meetB (pts (hs.getD i [])) (pts O) with
  |true=>
   rw [if_pos (.inl rfl)]
   simp (disch:=omega) only [↓RS,RZ,simprocAttr]
  |false=>
   simp (disch:=omega) only [↓RS,RZ,simprocAttr,eh',eO']
   refine call_sc (containsF_sc ((hs.take i).map rpsV) _ (fun j=>meetB (pts (hs.getD i [])) (pts (hs.getD j []))) rfl (by omega) (fun j H K hj hb hK=> ?_) ?_)
   ·rw [hlen] at hj
    rw [take_getD hj (by omega),(ring j hj).2]
    exact hole1_sc _ _ rh (ring j hj).1 hb hK
   rw [hlen]
   cases ha:anyTo i (fun j=>meetB (pts (hs.getD i [])) (pts (hs.getD j []))) with
   |true=>
    rw [if_pos (.inr rfl)]
    simp (disch:=omega) only [↓RS,RZ,simprocAttr]
   |false=>
    rw [if_neg (by simp)]
    simp (disch:=omega) only [↓RS,RZ,simprocAttr,eh',eO']
    refine cX w ?_
    cases hw:withinB (pts (hs.getD i [])) (pts O) with
    |false=>
     rw [if_pos rfl]
     simp (disch:=omega) only [↓RS,RZ,simprocAttr]
    |true=>
     rw [if_neg (by simp)]
     simp (disch:=omega) only [↓RS,RZ,simprocAttr,eh',eO']
     refine call_sc (containsF_sc ((hs.take i).map rpsV) _ (fun j=>withinB (pts (hs.getD i [])) (pts (hs.getD j []))||withinB (pts (hs.getD j [])) (pts (hs.getD i []))) rfl (by omega) (fun j H K hj hb hK=> ?_) ?_)
     ·rw [hlen] at hj
      rw [take_getD hj (by omega),(ring j hj).2]
      exact hole2_sc _ _ rh (ring j hj).1 hb hK
     rw [hlen]
     cases hc:anyTo i (fun j=>withinB (pts (hs.getD i [])) (pts (hs.getD j []))||withinB (pts (hs.getD j [])) (pts (hs.getD i []))) with
     |true=>
      rw [if_pos rfl]
      simp (disch:=omega) only [↓RS,RZ,simprocAttr]
     |false=>
      rw [if_neg (by simp)]
      by_cases hi0:0<i
      ·obtain ⟨rb,eb⟩:=ring (i-1) (by omega)
       have eb':(((hs.take i).map rpsV).map fun v=>[v]).getD (i-1) []=[.lst 6 ((pts (hs.getD (i-1) [])).map pc)]:=by
        rw [one_getD (by rw [hlen];omega),take_getD (by omega) (by omega),eb];rfl
       have l1:=rh.lo
       have l2:=rb.lo
       have p1:=pc_getD (l:=pts (hs.getD i [])) (k:=0) (by omega)
       have p2:=pc_getD (l:=pts (hs.getD (i-1) [])) (k:=0) (by omega)
       have v:=vcmp_pc ((pts (hs.getD (i-1) [])).getD 0 default) ((pts (hs.getD i [])).getD 0 default) (Nat.le_trans (hl_get rb.ht (by omega)) (by omega)) (Nat.le_trans (hl_get rh.ht (by omega)) (by omega))
       by_cases hv:0≤cmpP ((pts (hs.getD (i-1) [])).getD 0 default) ((pts (hs.getD i [])).getD 0 default)
       ·rw [if_pos ⟨hi0,hv⟩]
        simp (disch:=omega) only [↓RS,RZ,simprocAttr,eh',one_length,hlen,eb',pc_length,p1,p2,pc]
        refine cX v ?_
        simp (disch:=omega) only [↓RS,RZ,simprocAttr]
       ·rw [if_neg (fun h=>hv h.2)]
        simp (disch:=omega) only [↓RS,RZ,simprocAttr,eh',one_length,hlen,eb',pc_length,p1,p2,pc]
        refine cX v ?_
        simp (disch:=omega) only [↓RS,RZ,simprocAttr]
      ·rw [if_neg (fun h=>hi0 h.1)]
       simp (disch:=omega) only [↓RS,RZ,simprocAttr]
 ·rw [if_pos h0]
  simp (disch:=omega) only [↓RS,RZ,simprocAttr]
end Go.Av
namespace Go.Av
open Go.RowKit
open Go.Proofs.Tryz (prog)
def firstNz (n:Nat) (f:Nat→Int):Int:=match (List.range n).find? (fun i=>decide (f i≠0)) with
 |some i=>f i
 |none=>0
theorem firstNz_found {n i:Nat} {f:Nat→Int} (hi:i<n) (h:f i≠0) (hf:∀ j,j<i→f j=0):firstNz n f=f i:=by
 unfold firstNz
 have:(List.range n).find? (fun i=>decide (f i≠0))=some i:=by
  rw [List.find?_range_eq_some]
  exact ⟨by simpa using h,by simpa using hi,fun j hj=>by simp [hf j hj]⟩
 rw [this]
theorem firstNz_none {n:Nat} {f:Nat→Int} (hf:∀ j,j<n→f j=0):firstNz n f=0:=by
 unfold firstNz
 have:(List.range n).find? (fun i=>decide (f i≠0))=none:=by
  rw [List.find?_eq_none];intro j hj;simp [hf j (by simpa using hj)]
 rw [this]
theorem firstNz_zero {n:Nat} {f:Nat→Int} (h:firstNz n f=0):∀ j,j<n→f j=0:=by
 intro j hj
 unfold firstNz at h
 cases hf:(List.range n).find? (fun i=>decide (f i≠0)) with
 |none=>rw [List.find?_eq_none] at hf;simpa using hf j (by simpa using hj)
 |some i=>
  rw [hf] at h
  have:=List.find?_some hf
  simp at this
  exact absurd h this
theorem chkH_ring {O:List Rp} {hs:List (List Rp)} {i:Nat} (h:chkH O hs i=0):chkR (hs.getD i [])=0:=by
 unfold chkH at h
 split at h
 ·exact h
 ·rename_i h2;simpa using h2
def chkP (O:List Rp) (hs:List (List Rp)):Int:=if chkR O≠0 then chkR O else if 8<hs.length then 4 else firstNz hs.length (chkH O hs)
theorem Pcheck_pc (O:List Rp) (hs:List (List Rp)) (hn:hs.length<2^50) (nO:O.length<2^50) (kO:∀ p∈O,p.le (2^16)) (kh:∀ l∈hs,l.length<2^50∧∀ p∈l,p.le (2^16)):
 PC prog 49 [pgV O hs] (.prim (.int .i64 (chkP O hs))):=by
 have c:=Rcheck_pc O nO kO
 refine PCi ?_
 conv in trip _ _=>cbv
 simp only [runT,RN,simprocAttr]
 unfold chkP
 by_cases h0:chkR O=0
 ·rw [if_neg (fun h=>h h0)]
  rw [h0] at c
  by_cases h8:8<hs.length
  ·rw [if_pos h8]
   simp (disch:=omega) only [↓RS,RZ,simprocAttr,pgV,hsV,rpsV,one_length,hs_length]
   refine cX c ?_
   simp (disch:=omega) only [↓RS,RZ,simprocAttr,one_length,hs_length]
  ·rw [if_neg h8]
   simp (disch:=omega) only [↓RS,RZ,simprocAttr,pgV,hsV,rpsV,one_length,hs_length]
   refine cX c ?_
   simp (disch:=omega) only [↓RS,RZ,simprocAttr,one_length,hs_length]
   refine wp_lp (fun (i:Nat) J=>ov [(0,pgV O hs),(1,.ptr 0 0 0),(18,.prim (.int .i64 ((hs.length:Nat):Int))),(19,.prim (.int .i64 ((i:Nat):Int)))] J 0 29) (fun i H=>(i≤hs.length∧∀ j,j<i→chkH O hs j=0)∧H=[some (.row 2 true [[rpsV O,hsV hs]])]) (fun i=>hs.length-i) 0 rfl ⟨⟨Nat.zero_le _,fun j hj=>absurd hj (Nat.not_lt_zero j)⟩,rfl⟩ ?_
   rintro i J _ ⟨⟨hi,hp⟩,rfl⟩
   try conv in ov _ _ _ _=>simp only [ov,List.lookup,RO,simprocAttr]
   rcases Nat.lt_or_ge i hs.length with hlt|hge
   ·have hc:=hole_pc O hs i hlt hn h0 kO kh (fun j hj=>chkH_ring (hp j hj))
    simp (disch:=omega) only [↓RS,RZ,simprocAttr,pgV,hsV,rpsV,one_length,hs_length]
    refine cX hc ?_
    by_cases hz:chkH O hs i=0
    ·rw [hz]
     simp (disch:=omega) only [↓RS,RZ,simprocAttr]
     exact lp_next (i+1) rfl ⟨⟨hlt,fun j hj=>by
      rcases Nat.lt_or_ge j i with h|h
      ·exact hp j h
      ·rw [show j=i by omega];exact hz⟩,rfl⟩ (by omega)
    ·rw [firstNz_found hlt hz hp]
     simp (disch:=omega) only [↓RS,RZ,simprocAttr]
   ·have hia:i=hs.length:=by omega
    subst hia
    rw [firstNz_none hp]
    simp (disch:=omega) only [↓RS,RZ,simprocAttr,pgV,hsV,rpsV,one_length,hs_length]
 ·rw [if_pos h0]
  simp (disch:=omega) only [↓RS,RZ,simprocAttr,pgV,hsV,rpsV,one_length,hs_length]
  refine cX c ?_
  simp (disch:=omega) only [↓RS,RZ,simprocAttr]
end Go.Av
