/- Helping texts: Pn. -/
import Derived.Test.YtbidkolaahnbiaaGreatKPk
import Derived.Test.YtbidkolaahnbiaaGreatKSe
import Derived.Test.YtbidkolaahnbiaaGreatKFa
set_option linter.unusedSimpArgs false
set_option linter.unusedVariables false
set_option maxRecDepth 100000
set_option maxHeartbeats 16000000
namespace Go.Av
open Go.RowKit
open Go.Proofs.Tryz (prog)
theorem rneedlessG_pc (l:List Pt) (hn:l.length≤64) (hL:hl l (2^26)):PC prog 228 [psV l] (.prim (.int .i64 (idxP l.length (badAt l)))):=by
 refine PCi ?_
 conv in trip _ _=>cbv
 simp only [runT,RN,simprocAttr]
 simp (disch:=omega) only [↓RS,RZ,simprocAttr,psV,pc_length]
 refine wp_lp (fun (i:Nat) J=>ov [(0,psV l),(3,.prim (.int .i64 ((l.length:Nat):Int))),(4,.prim (.int .i64 ((i:Nat):Int)))] J 0 41) (fun i _=>i≤l.length∧∀ j,j<i→badAt l j=false) (fun i=>l.length-i) 0 rfl ⟨Nat.zero_le _,fun j hj=>absurd hj (Nat.not_lt_zero j)⟩ ?_
 rintro i J H ⟨hi,hf⟩
 try conv in ov _ _ _ _=>simp only [ov,List.lookup,RO,simprocAttr]
 rcases Nat.lt_or_ge i l.length with hlt|hge
 ·have m1:=Nat.mod_lt (i+l.length-1) (show 0<l.length by omega)
  have g1:=pc_getD hlt
  have g2:=pc_getD m1
  have n1:=rnext_pc l i (by omega) (by omega) (by omega)
  have o:=rorient_pc (l.getD ((i+l.length-1)%l.length) default) (l.getD i default) (nx l i) (hl_get hL m1) (hl_get hL hlt) (nx_le hL (by omega))
  have e1:=eqA_pc (l.getD i default) (nx l i)
  have ebad:badAt l i=(decide (l.getD i default=nx l i)||flatAt l i):=rfl
  have efl:flatAt l i=decide (orient (l.getD ((i+l.length-1)%l.length) default) (l.getD i default) (nx l i)=0):=rfl
  by_cases h1:l.getD i default=nx l i
  ·rw [decide_eq_true h1] at e1 ebad
   rw [idxP_found hlt ebad hf]
   simp (disch:=omega) only [↓RS,RZ,simprocAttr,psV,pc_length,g1,pc,tmodN]
   refine cX n1 ?_
   simp (disch:=omega) only [↓RS,RZ,simprocAttr,psV,pc_length,g1,g2,pc,pV,ptV,e1,tmodN]
  ·rw [decide_eq_false h1] at e1 ebad
   rw [efl] at ebad
   by_cases h2:orient (l.getD ((i+l.length-1)%l.length) default) (l.getD i default) (nx l i)=0
   ·rw [decide_eq_true h2] at ebad
    rw [idxP_found hlt ebad hf]
    simp (disch:=omega) only [↓RS,RZ,simprocAttr,psV,pc_length,g1,pc,tmodN]
    refine cX n1 ?_
    simp (disch:=omega) only [↓RS,RZ,simprocAttr,psV,pc_length,g1,g2,pc,pV,ptV,e1,tmodN]
    refine cX n1 ?_
    simp (disch:=omega) only [↓RS,RZ,simprocAttr,psV,pc_length,g1,g2,pc,pV,ptV,tmodN]
    refine cX o ?_
    simp (disch:=omega) only [↓RS,RZ,simprocAttr]
   ·rw [decide_eq_false h2] at ebad
    simp (disch:=omega) only [↓RS,RZ,simprocAttr,psV,pc_length,g1,pc,tmodN]
    refine cX n1 ?_
    simp (disch:=omega) only [↓RS,RZ,simprocAttr,psV,pc_length,g1,g2,pc,pV,ptV,e1,tmodN]
    refine cX n1 ?_
    simp (disch:=omega) only [↓RS,RZ,simprocAttr,psV,pc_length,g1,g2,pc,pV,ptV,tmodN]
    refine cX o ?_
    simp (disch:=omega) only [↓RS,RZ,simprocAttr]
    exact lp_next (i+1) rfl ⟨hlt,fun j hj=>by
     rcases Nat.lt_or_ge j i with h|h
     ·exact hf j h
     ·rw [show j=i by omega];exact ebad⟩ (by omega)
 ·have hia:i=l.length:=by omega
  subst hia
  rw [idxP_none hf]
  simp (disch:=omega) only [↓RS,RZ,simprocAttr,psV,pc_length]
def Rep (v:V) (m:List Pt) (H:Hp):Prop:=v=psV m∨∃ b,v= .sref b 0 m.length m.length 6 false∧get H b=some (.row 6 true (m.map pc))
theorem eraseIdx_take {m:List Pt} {i k:Nat} (hk:k<m.length):(m.take (k+1)).eraseIdx i=(m.take k).eraseIdx i++(if k=i then [] else [m.getD k default]):=by
 have hl:(m.take k).length=k:=by rw [List.length_take];omega
 rw [List.take_add_one,List.getElem?_eq_getElem hk,List.getD_eq_getElem?_getD,List.getElem?_eq_getElem hk]
 simp only [Option.toList_some,Option.getD_some]
 by_cases h:k=i
 ·subst h
  have e:(m.take k).eraseIdx k=m.take k:=List.eraseIdx_of_length_le (by omega)
  rw [if_pos rfl,List.append_nil,e,List.eraseIdx_append_of_length_le (by omega),hl,Nat.sub_self];simp
 ·rw [if_neg h]
  rcases Nat.lt_or_ge i k with h1|h1
  ·rw [List.eraseIdx_append_of_lt_length (by omega)]
  ·rw [List.eraseIdx_append_of_length_le (by omega),hl,List.eraseIdx_of_length_le (l:=[_]) (by simp;omega),List.eraseIdx_of_length_le (by omega)]
theorem view_pts {n b:Nat} {m:List Pt} (hb:b<n):viewArgs ((List.replicate n none).set b (some (.row 6 true (m.map pc)))) [.sref b 0 m.length m.length 6 false]=some [psV m]:=by
 have h:get ((List.replicate n none).set b (some (Blk.row 6 true (m.map pc)))) b=some (.row 6 true (m.map pc)):=get_eq (by rw [List.length_replicate];exact hb)
 generalize (List.replicate n none).set b _=M at*
 have hml:(m.map pc).length=m.length:=List.length_map ..
 have htk:(m.map pc).take m.length=m.map pc:=by rw [List.take_of_length_le (by omega)]
 have hvl:= @viewLL_prims M 7 _ (pc_prims m)
 simp [viewArgs_cons,viewArgs_nil,view,h,htk,hvl,hml,psV]
 rfl
theorem rcanon10G_pc (l:List Rp) (hn:l.length<2^40) (hle:∀ p∈l,p.le (2^16)):PC prog 160 [rpsV l] (canV l):=by
 have c:=rcanonical_pc l hn (fun p hp=>Rp.le_up (hle p hp) (by omega))
 unfold canV canE canL
 by_cases h64:64<l.length
 ·rw [if_pos h64,if_neg (by decide)]
  refine PCi ?_
  conv in trip _ _=>cbv
  simp only [runT,RN,simprocAttr]
  simp (disch:=omega) only [↓RS,RZ,simprocAttr,rpsV,rpc_length]
 rw [if_neg h64]
 cases ho:allOk l with
 |false=>
  rw [if_pos rfl,if_neg (by decide)]
  rw [ho] at c
  refine PCi ?_
  conv in trip _ _=>cbv
  simp only [runT,RN,simprocAttr]
  simp (disch:=omega) only [↓RS,RZ,simprocAttr,rpsV,rpc_length]
  refine cX c ?_
  simp (disch:=omega) only [↓RS,RZ,simprocAttr]
 |true=>
 rw [if_neg (show ¬(true=false) by decide)]
 rw [ho] at c
 have hL0:hl (pts l) (2^16):=hl_pts ho hle (by omega)
 have hn0:(pts l).length≤64:=by rw [pts_length];omega
 rw [raw_can ho] at c ⊢
 clear h64 ho hle hn
 generalize pts l=L at*
 have hkp:= @simp_keep L
 have none7:get ([]:Hp) 7=none:=rfl
 refine PCi ?_
 conv in trip _ _=>cbv
 simp only [runT,RN,simprocAttr]
 simp (disch:=omega) only [↓RS,RZ,simprocAttr,psV,pc_length]
 refine cX c ?_
 simp (disch:=omega) only [↓RS,RZ,simprocAttr,psV,pc_length]
 refine wp_lp (fun (s:List Pt×V) J=>ov [(0,s.2)] J 0 75) (fun s H=>Rep s.2 s.1 H∧s.1.length≤64∧hl s.1 (2^16)∧simpL s.1=simpL L) (fun s=>s.1.length) (L,psV L) rfl ⟨.inl rfl,hn0,hL0,rfl⟩ ?_
 rintro ⟨m,v⟩ J H ⟨hrep,hm64,hmL,hsm⟩
 try conv in ov _ _ _ _=>simp only [ov,List.lookup,RO,simprocAttr]
 simp only at hrep hm64 hmL hsm ⊢
 have nd:=rneedlessG_pc m hm64 (fun p hp=>Nat.le_trans (hmL p hp) (by omega))
 have hml:(m.map pc).length=m.length:=List.length_map ..
 have htk:(m.map pc).take m.length=m.map pc:=by rw [List.take_of_length_le (by omega)]
 by_cases hgo:3≤m.length∧0≤idxP m.length (badAt m)
 ·obtain ⟨h3,hx⟩:=hgo
  obtain ⟨i,hxi,hi,hbad,hfst⟩:∃ i:Nat,idxP m.length (badAt m)=i∧i<m.length∧badAt m i=true∧∀ j,j<i→badAt m j=false:=by
   unfold idxP at hx ⊢
   cases hf:(List.range m.length).find? (badAt m) with
   |none=>rw [hf] at hx;simp at hx
   |some i=>
    rw [List.find?_range_eq_some] at hf
    exact ⟨i,rfl,by simpa using hf.2.1,by simpa using hf.1,fun j hj=>by simpa using hf.2.2 j hj⟩
  rw [hxi] at nd
  have hst:=simp_step h3 hi hbad hfst
  have hel:=List.length_eraseIdx_of_lt hi
  rcases hrep with rfl|⟨b,rfl,hg⟩
  ·skip
   simp (disch:=omega) only [↓RS,RZ,simprocAttr,psV,pc_length]
   refine cX nd ?_
   simp (disch:=omega) only [↓RS,RZ,simprocAttr,psV,pc_length]
   refine cX nd ?_
   simp (disch:=omega) only [↓RS,RZ,simprocAttr,psV,pc_length]
   refine wp_lp (fun (s:Nat×V) J=>ov [(0,psV m),(4,.prim (.int .i64 ((i:Nat):Int))),(5,s.2),(6,.prim (.int .i64 ((s.1:Nat):Int)))] J 0 75) (fun s H'=>s.1≤m.length∧Bufn H.length H' s.2 6 (((m.take s.1).eraseIdx i).map pc)) (fun s=>m.length-s.1) (0,.prim (.slice none 0 0)) rfl ⟨Nat.zero_le _,by simp only [List.take_zero,List.eraseIdx_nil,List.map_nil];exact .nil (Nat.le_refl _)⟩ ?_
   rintro ⟨k,r⟩ J' H' ⟨hk,hB⟩
   try conv in ov _ _ _ _=>simp only [ov,List.lookup,RO,simprocAttr]
   simp only at hk hB ⊢
   have d1:=hB.one
   have d2:=hB.cel
   rcases Nat.lt_or_ge k m.length with hlt|hge
   ·have et:=eraseIdx_take (i:=i) hlt
    have g1:=pc_getD hlt
    have hkl:((m.take k).eraseIdx i).length≤64:=by rw [List.length_eraseIdx,List.length_take];split<;>omega
    by_cases hki:k=i
    ·rw [if_pos hki,List.append_nil] at et
     simp (disch:=omega) only [↓RS,RZ,simprocAttr,psV,pc_length]
     exact lp_next (k+1,r) rfl ⟨hlt,by simp only;rw [et];exact hB⟩ (by simp only;omega)
    ·rw [if_neg hki] at et
     have hki':((k:Nat):Int)≠(i:Int):=by omega
     simp (disch:=omega) only [↓RS,RZ,simprocAttr,psV,pc_length,g1,pc,d1,d2]
     refine Bufn.append (hB.app _) (by simp [cellV]) (by simp only [List.length_cons,List.length_nil,List.length_map];omega) (by simp only [List.length_cons,List.length_nil,List.length_map];omega) ?_
     intro v' H3 hb3 hkp
     have e1:=hb3.one
     have e2:=hb3.cel
     simp (disch:=omega) only [↓RS,RZ,simprocAttr,e1,e2]
     refine lp_next (k+1,v') rfl ⟨hlt,?_⟩ (by simp only;omega)
     show Bufn H.length H3 v' 6 (((m.take (k+1)).eraseIdx i).map pc)
     rw [et,List.map_append]
     exact hb3
   ·have hkm:k=m.length:=by omega
    subst hkm
    rw [List.take_length] at hB
    obtain ⟨b2,hb2,rfl,hg2⟩:=hB.cases (by intro e;have:=congrArg List.length e;rw [List.length_map,hel] at this;simp only [List.length_nil] at this;omega)
    have hml2:((m.eraseIdx i).map pc).length=(m.eraseIdx i).length:=List.length_map ..
    rw [hml2]
    simp (disch:=omega) only [↓RS,RZ,simprocAttr,psV,pc_length]
    exact lp_next (m.eraseIdx i,.sref b2 0 (m.eraseIdx i).length (m.eraseIdx i).length 6 false) rfl ⟨.inr ⟨b2,rfl,hg2⟩,by simp only;omega,fun p hp=>hmL p (List.mem_of_mem_eraseIdx hp),by rw [←hsm];exact hst.symm⟩ (by simp only;omega)
  ·have hvl:= @viewLL_prims H 7 _ (pc_prims m)
   have hbl:=get_lt_len hg
   simp (disch:=omega) only [↓RS,RZ,simprocAttr,hg,htk,hvl,hml]
   refine cX nd ?_
   simp (disch:=omega) only [↓RS,RZ,simprocAttr,hg,htk,hvl,hml]
   refine cX nd ?_
   simp (disch:=omega) only [↓RS,RZ,simprocAttr,hg,htk,hvl,hml]
   refine wp_lp (fun (s:Nat×V) J=>ov [(0,.sref b 0 m.length m.length 6 false),(4,.prim (.int .i64 ((i:Nat):Int))),(5,s.2),(6,.prim (.int .i64 ((s.1:Nat):Int)))] J 0 75) (fun s H'=>s.1≤m.length∧Bufn H.length H' s.2 6 (((m.take s.1).eraseIdx i).map pc)∧get H' b=some (.row 6 true (m.map pc))) (fun s=>m.length-s.1) (0,.prim (.slice none 0 0)) rfl ⟨Nat.zero_le _,by simp only [List.take_zero,List.eraseIdx_nil,List.map_nil];exact .nil (Nat.le_refl _),hg⟩ ?_
   rintro ⟨k,r⟩ J' H' ⟨hk,hB,hg⟩
   try conv in ov _ _ _ _=>simp only [ov,List.lookup,RO,simprocAttr]
   simp only at hk hB hg ⊢
   have d1:=hB.one
   have d2:=hB.cel
   rcases Nat.lt_or_ge k m.length with hlt|hge
   ·have et:=eraseIdx_take (i:=i) hlt
    have g1:=pcr_get hlt
    have hkl:((m.take k).eraseIdx i).length≤64:=by rw [List.length_eraseIdx,List.length_take];split<;>omega
    by_cases hki:k=i
    ·rw [if_pos hki,List.append_nil] at et
     simp (disch:=omega) only [↓RS,RZ,simprocAttr,hg,htk,hvl,hml]
     exact lp_next (k+1,r) rfl ⟨hlt,by simp only;rw [et];exact hB,hg⟩ (by simp only;omega)
    ·rw [if_neg hki] at et
     have hki':((k:Nat):Int)≠(i:Int):=by omega
     simp (disch:=omega) only [↓RS,RZ,simprocAttr,hg,htk,hvl,hml,g1,pc,d1,d2,get_app hg]
     refine Bufn.append (hB.app _) (by simp [cellV]) (by simp only [List.length_cons,List.length_nil,List.length_map];omega) (by simp only [List.length_cons,List.length_nil,List.length_map];omega) ?_
     intro v' H3 hb3 hkp
     have e1:=hb3.one
     have e2:=hb3.cel
     simp (disch:=omega) only [↓RS,RZ,simprocAttr,e1,e2]
     refine lp_next (k+1,v') rfl ⟨hlt,?_,hkp b _ hbl (get_app hg)⟩ (by simp only;omega)
     show Bufn H.length H3 v' 6 (((m.take (k+1)).eraseIdx i).map pc)
     rw [et,List.map_append]
     exact hb3
   ·have hkm:k=m.length:=by omega
    subst hkm
    rw [List.take_length] at hB
    obtain ⟨b2,hb2,rfl,hg2⟩:=hB.cases (by intro e;have:=congrArg List.length e;rw [List.length_map,hel] at this;simp only [List.length_nil] at this;omega)
    have hml2:((m.eraseIdx i).map pc).length=(m.eraseIdx i).length:=List.length_map ..
    rw [hml2]
    simp (disch:=omega) only [↓RS,RZ,simprocAttr,hg,htk,hvl,hml]
    exact lp_next (m.eraseIdx i,.sref b2 0 (m.eraseIdx i).length (m.eraseIdx i).length 6 false) rfl ⟨.inr ⟨b2,rfl,hg2⟩,by simp only;omega,fun p hp=>hmL p (List.mem_of_mem_eraseIdx hp),by rw [←hsm];exact hst.symm⟩ (by simp only;omega)
 ·have hms:simpL m=m:=simp_stop (by
   by_cases h3:m.length<3
   ·exact .inl h3
   ·exact .inr (idxP_neg fun h=>hgo ⟨by omega,h⟩))
  rw [←hsm,hms] at hkp ⊢
  clear hsm hL0 hn0 c
  have hx0:3≤m.length→idxP m.length (badAt m)<0:=fun h=>by
   rcases Int.lt_or_le (idxP m.length (badAt m)) 0 with k|k
   ·exact k
   ·exact absurd ⟨h,k⟩ hgo
  generalize idxP m.length (badAt m)=ix at*
  rcases hrep with rfl|⟨b,rfl,hg⟩
  ·skip
   by_cases h3:m.length<3
   ·rw [if_pos h3,if_neg (by decide)]
    simp (disch:=omega) only [↓RS,RZ,simprocAttr,psV,pc_length]
   rw [if_neg h3]
   have hix:=hx0 (by omega)
   have kp:=hkp (by omega)
   have x:=rcrossing_pc m (by omega) (fun p hp=>Nat.le_trans (hmL p hp) (by omega))
   rw [rcross_eq (fun i hi=>(kp i hi).1)] at x
   cases hx:crossB m with
   |true=>
    rw [if_pos rfl,if_neg (by decide)]
    rw [hx] at x
    simp (disch:=omega) only [↓RS,RZ,simprocAttr,psV,pc_length]
    refine cX nd ?_
    simp (disch:=omega) only [↓RS,RZ,simprocAttr,psV,pc_length]
    refine cX x ?_
    simp (disch:=omega) only [↓RS,RZ,simprocAttr]
   |false=>
   rw [if_neg (show ¬(false=true) by decide),if_pos rfl]
   rw [hx] at x
   have hne:m≠[]:=by intro e;rw [e] at h3;simp at h3
   have a:=rArea_pc m (by omega) hmL
   have hta:=ht_area64 hm64 hmL
   have s:=rsignQ_pc (areaL m) (by omega)
   have tu:=rturned_pc m hne (by omega)
   have hsg:=sign_area m
   simp (disch:=omega) only [↓RS,RZ,simprocAttr,psV,pc_length]
   refine cX nd ?_
   simp (disch:=omega) only [↓RS,RZ,simprocAttr,psV,pc_length]
   refine cX x ?_
   simp (disch:=omega) only [↓RS,RZ,simprocAttr,psV,pc_length]
   refine cX a ?_
   simp (disch:=omega) only [↓RS,RZ,simprocAttr,qV,rV]
   refine cX s ?_
   by_cases ha:areaL m<0
   ·have hcm2:=hsg.2 ha
    have hcan:canonL m=startL m.reverse:=by unfold canonL;rw [if_pos ha]
    simp (disch:=omega) only [↓RS,RZ,simprocAttr,psV,pc_length]
    refine cX tu ?_
    have hml2:m.reverse.length=m.length:=List.length_reverse
    have hmh:hl m.reverse (2^26):=fun p hp=>Nat.le_trans (hmL p (List.mem_reverse.1 hp)) (by omega)
    rw [hcan]
    clear hcan tu a s x nd hsg hta hkp kp
    generalize m.reverse=m2 at*
    have le:=rleast_pc m2 (by omega) (by omega) hmh
    have hlk:=leastTo_in (L:=m2) (by omega)
    rw [show startL m2=rotL m2 (leastTo m2 m2.length) from rfl,rotL_range hlk]
    generalize leastTo m2 m2.length=k at*
    have hpos:0<m2.length:=by omega
    simp (disch:=omega) only [↓RS,RZ,simprocAttr,psV,pc_length]
    refine cX le ?_
    simp (disch:=omega) only [↓RS,RZ,simprocAttr,psV,pc_length]
    refine wp_lp (fun (s:Nat×V) J=>ov [(0,psV m2),(7,s.2),(8,.prim (.int .i64 ((k:Nat):Int))),(9,.prim (.int .i64 ((s.1:Nat):Int)))] J 0 75) (fun s H'=>s.1≤m2.length∧Bufn H.length H' s.2 6 (((List.range s.1).map fun j=>m2.getD ((k+j)%m2.length) default).map pc)) (fun s=>m2.length-s.1) (0,.prim (.slice none 0 0)) rfl ⟨Nat.zero_le _,.nil (Nat.le_refl _)⟩ ?_
    rintro ⟨i,v⟩ J' H' ⟨hi,hB⟩
    try conv in ov _ _ _ _=>simp only [ov,List.lookup,RO,simprocAttr]
    simp only at hi hB ⊢
    have d1:=hB.one
    have d2:=hB.cel
    rcases Nat.lt_or_ge i m2.length with hlt|hge
    ·have mm:=Nat.mod_lt (k+i) hpos
     have g1:=pc_getD mm
     have hrl:(List.range i).length=i:=List.length_range
     simp (disch:=omega) only [↓RS,RZ,simprocAttr,psV,pc_length,g1,pc,tmodN,d1,d2]
     refine Bufn.append (hB.app _) (by simp [cellV]) (by simp only [List.length_cons,List.length_nil,List.length_map,hrl];omega) (by simp only [List.length_cons,List.length_nil,List.length_map,hrl];omega) ?_
     intro v' H3 hb3 hkp
     have e1:=hb3.one
     have e2:=hb3.cel
     simp (disch:=omega) only [↓RS,RZ,simprocAttr,e1,e2]
     refine lp_next (i+1,v') rfl ⟨hlt,?_⟩ (by simp only;omega)
     show Bufn H.length H3 v' 6 (((List.range (i+1)).map fun j=>m2.getD ((k+j)%m2.length) default).map pc)
     rw [range_map_succ,List.map_append]
     exact hb3
    ·have hia:i=m2.length:=by omega
     subst hia
     have hrn:(List.range m2.length).map (fun j=>m2.getD ((k+j)%m2.length) default)≠[]:=by
      intro e
      have:=congrArg List.length e
      rw [List.length_map,List.length_range] at this
      simp only [List.length_nil] at this
      omega
     obtain ⟨b2,_,rfl,hg2⟩:=hB.cases (by simpa using hrn)
     have hlen:(((List.range m2.length).map fun j=>m2.getD ((k+j)%m2.length) default).map pc).length=m2.length:=by simp
     have hvl2:= @viewLL_prims H' 6 _ (pc_prims ((List.range m2.length).map fun j=>m2.getD ((k+j)%m2.length) default))
     have htk2:(((List.range m2.length).map fun j=>m2.getD ((k+j)%m2.length) default).map pc).take m2.length=((List.range m2.length).map fun j=>m2.getD ((k+j)%m2.length) default).map pc:=by rw [List.take_of_length_le (by omega)]
     rw [hlen]
     simp (disch:=omega) only [↓RS,RZ,simprocAttr,psV,pc_length,hg2,hlen,htk2,hvl2]
   ·have hcm2:¬cmpQ (areaL m) 0<0:=fun h=>ha (hsg.1 h)
    have hcan:canonL m=startL m:=by unfold canonL;rw [if_neg ha]
    rw [hcan]
    clear hcan tu a s x nd hsg hta hkp kp
    generalize hm2:m=m2 at*
    have hml2:(m2.map pc).length=m2.length:=List.length_map ..
    have hmh:hl m2 (2^26):=fun p hp=>Nat.le_trans (hmL p hp) (by omega)
    have le:=rleast_pc m2 (by omega) (by omega) hmh
    have hlk:=leastTo_in (L:=m2) (by omega)
    rw [show startL m2=rotL m2 (leastTo m2 m2.length) from rfl,rotL_range hlk]
    generalize leastTo m2 m2.length=k at*
    have hpos:0<m2.length:=by omega
    simp (disch:=omega) only [↓RS,RZ,simprocAttr,psV,pc_length]
    refine cX le ?_
    simp (disch:=omega) only [↓RS,RZ,simprocAttr,psV,pc_length]
    refine wp_lp (fun (s:Nat×V) J=>ov [(0,psV m2),(7,s.2),(8,.prim (.int .i64 ((k:Nat):Int))),(9,.prim (.int .i64 ((s.1:Nat):Int)))] J 0 75) (fun s H'=>s.1≤m2.length∧Bufn H.length H' s.2 6 (((List.range s.1).map fun j=>m2.getD ((k+j)%m2.length) default).map pc)) (fun s=>m2.length-s.1) (0,.prim (.slice none 0 0)) rfl ⟨Nat.zero_le _,.nil (Nat.le_refl _)⟩ ?_
    rintro ⟨i,v⟩ J' H' ⟨hi,hB⟩
    try conv in ov _ _ _ _=>simp only [ov,List.lookup,RO,simprocAttr]
    simp only at hi hB ⊢
    have d1:=hB.one
    have d2:=hB.cel
    rcases Nat.lt_or_ge i m2.length with hlt|hge
    ·have mm:=Nat.mod_lt (k+i) hpos
     have g1:=pc_getD mm
     have hrl:(List.range i).length=i:=List.length_range
     simp (disch:=omega) only [↓RS,RZ,simprocAttr,psV,pc_length,g1,pc,tmodN,d1,d2]
     refine Bufn.append (hB.app _) (by simp [cellV]) (by simp only [List.length_cons,List.length_nil,List.length_map,hrl];omega) (by simp only [List.length_cons,List.length_nil,List.length_map,hrl];omega) ?_
     intro v' H3 hb3 hkp
     have e1:=hb3.one
     have e2:=hb3.cel
     simp (disch:=omega) only [↓RS,RZ,simprocAttr,e1,e2]
     refine lp_next (i+1,v') rfl ⟨hlt,?_⟩ (by simp only;omega)
     show Bufn H.length H3 v' 6 (((List.range (i+1)).map fun j=>m2.getD ((k+j)%m2.length) default).map pc)
     rw [range_map_succ,List.map_append]
     exact hb3
    ·have hia:i=m2.length:=by omega
     subst hia
     have hrn:(List.range m2.length).map (fun j=>m2.getD ((k+j)%m2.length) default)≠[]:=by
      intro e
      have:=congrArg List.length e
      rw [List.length_map,List.length_range] at this
      simp only [List.length_nil] at this
      omega
     obtain ⟨b2,_,rfl,hg2⟩:=hB.cases (by simpa using hrn)
     have hlen:(((List.range m2.length).map fun j=>m2.getD ((k+j)%m2.length) default).map pc).length=m2.length:=by simp
     have hvl2:= @viewLL_prims H' 6 _ (pc_prims ((List.range m2.length).map fun j=>m2.getD ((k+j)%m2.length) default))
     have htk2:(((List.range m2.length).map fun j=>m2.getD ((k+j)%m2.length) default).map pc).take m2.length=((List.range m2.length).map fun j=>m2.getD ((k+j)%m2.length) default).map pc:=by rw [List.take_of_length_le (by omega)]
     rw [hlen]
     simp (disch:=omega) only [↓RS,RZ,simprocAttr,psV,pc_length,hg2,hlen,htk2,hvl2]
  ·have hvl:= @viewLL_prims H 7 _ (pc_prims m)
   have hbl:=get_lt_len hg
   by_cases h3:m.length<3
   ·rw [if_pos h3,if_neg (by decide)]
    simp (disch:=omega) only [↓RS,RZ,simprocAttr,hg,htk,hvl,hml]
   rw [if_neg h3]
   have hix:=hx0 (by omega)
   have kp:=hkp (by omega)
   have x:=rcrossing_pc m (by omega) (fun p hp=>Nat.le_trans (hmL p hp) (by omega))
   rw [rcross_eq (fun i hi=>(kp i hi).1)] at x
   cases hx:crossB m with
   |true=>
    rw [if_pos rfl,if_neg (by decide)]
    rw [hx] at x
    simp (disch:=omega) only [↓RS,RZ,simprocAttr,hg,htk,hvl,hml]
    refine cX nd ?_
    simp (disch:=omega) only [↓RS,RZ,simprocAttr,hg,htk,hvl,hml]
    refine cX x ?_
    simp (disch:=omega) only [↓RS,RZ,simprocAttr]
   |false=>
   rw [if_neg (show ¬(false=true) by decide),if_pos rfl]
   rw [hx] at x
   have hne:m≠[]:=by intro e;rw [e] at h3;simp at h3
   have a:=rArea_pc m (by omega) hmL
   have hta:=ht_area64 hm64 hmL
   have s:=rsignQ_pc (areaL m) (by omega)
   have tu:=rturned_pc m hne (by omega)
   have hsg:=sign_area m
   simp (disch:=omega) only [↓RS,RZ,simprocAttr,hg,htk,hvl,hml]
   refine cX nd ?_
   simp (disch:=omega) only [↓RS,RZ,simprocAttr,hg,htk,hvl,hml]
   refine cX x ?_
   simp (disch:=omega) only [↓RS,RZ,simprocAttr,hg,htk,hvl,hml]
   refine cX a ?_
   simp (disch:=omega) only [↓RS,RZ,simprocAttr,qV,rV]
   refine cX s ?_
   by_cases ha:areaL m<0
   ·have hcm2:=hsg.2 ha
    have hcan:canonL m=startL m.reverse:=by unfold canonL;rw [if_pos ha]
    simp (disch:=omega) only [↓RS,RZ,simprocAttr,hg,htk,hvl,hml]
    refine call_sc (SC_freeze1 hg (view_pts hbl) tu ?_)
    generalize H.set b none=H9 at*
    have hml2:m.reverse.length=m.length:=List.length_reverse
    have hmh:hl m.reverse (2^26):=fun p hp=>Nat.le_trans (hmL p (List.mem_reverse.1 hp)) (by omega)
    rw [hcan]
    clear hcan tu a s x nd hsg hta hkp kp
    generalize m.reverse=m2 at*
    have le:=rleast_pc m2 (by omega) (by omega) hmh
    have hlk:=leastTo_in (L:=m2) (by omega)
    rw [show startL m2=rotL m2 (leastTo m2 m2.length) from rfl,rotL_range hlk]
    generalize leastTo m2 m2.length=k at*
    have hpos:0<m2.length:=by omega
    simp (disch:=omega) only [↓RS,RZ,simprocAttr,psV,pc_length]
    refine cX le ?_
    simp (disch:=omega) only [↓RS,RZ,simprocAttr,psV,pc_length]
    refine wp_lp (fun (s:Nat×V) J=>ov [(0,psV m2),(7,s.2),(8,.prim (.int .i64 ((k:Nat):Int))),(9,.prim (.int .i64 ((s.1:Nat):Int)))] J 0 75) (fun s H'=>s.1≤m2.length∧Bufn H9.length H' s.2 6 (((List.range s.1).map fun j=>m2.getD ((k+j)%m2.length) default).map pc)) (fun s=>m2.length-s.1) (0,.prim (.slice none 0 0)) rfl ⟨Nat.zero_le _,.nil (Nat.le_refl _)⟩ ?_
    rintro ⟨i,v⟩ J' H' ⟨hi,hB⟩
    try conv in ov _ _ _ _=>simp only [ov,List.lookup,RO,simprocAttr]
    simp only at hi hB ⊢
    have d1:=hB.one
    have d2:=hB.cel
    rcases Nat.lt_or_ge i m2.length with hlt|hge
    ·have mm:=Nat.mod_lt (k+i) hpos
     have g1:=pc_getD mm
     have hrl:(List.range i).length=i:=List.length_range
     simp (disch:=omega) only [↓RS,RZ,simprocAttr,psV,pc_length,g1,pc,tmodN,d1,d2]
     refine Bufn.append (hB.app _) (by simp [cellV]) (by simp only [List.length_cons,List.length_nil,List.length_map,hrl];omega) (by simp only [List.length_cons,List.length_nil,List.length_map,hrl];omega) ?_
     intro v' H3 hb3 hkp
     have e1:=hb3.one
     have e2:=hb3.cel
     simp (disch:=omega) only [↓RS,RZ,simprocAttr,e1,e2]
     refine lp_next (i+1,v') rfl ⟨hlt,?_⟩ (by simp only;omega)
     show Bufn H9.length H3 v' 6 (((List.range (i+1)).map fun j=>m2.getD ((k+j)%m2.length) default).map pc)
     rw [range_map_succ,List.map_append]
     exact hb3
    ·have hia:i=m2.length:=by omega
     subst hia
     have hrn:(List.range m2.length).map (fun j=>m2.getD ((k+j)%m2.length) default)≠[]:=by
      intro e
      have:=congrArg List.length e
      rw [List.length_map,List.length_range] at this
      simp only [List.length_nil] at this
      omega
     obtain ⟨b2,_,rfl,hg2⟩:=hB.cases (by simpa using hrn)
     have hlen:(((List.range m2.length).map fun j=>m2.getD ((k+j)%m2.length) default).map pc).length=m2.length:=by simp
     have hvl2:= @viewLL_prims H' 6 _ (pc_prims ((List.range m2.length).map fun j=>m2.getD ((k+j)%m2.length) default))
     have htk2:(((List.range m2.length).map fun j=>m2.getD ((k+j)%m2.length) default).map pc).take m2.length=((List.range m2.length).map fun j=>m2.getD ((k+j)%m2.length) default).map pc:=by rw [List.take_of_length_le (by omega)]
     rw [hlen]
     simp (disch:=omega) only [↓RS,RZ,simprocAttr,psV,pc_length,hg2,hlen,htk2,hvl2]
   ·have hcm2:¬cmpQ (areaL m) 0<0:=fun h=>ha (hsg.1 h)
    have hcan:canonL m=startL m:=by unfold canonL;rw [if_neg ha]
    rw [hcan]
    clear hcan tu a s x nd hsg hta hkp kp
    generalize hm2:m=m2 at*
    have hml2:(m2.map pc).length=m2.length:=List.length_map ..
    have hmh:hl m2 (2^26):=fun p hp=>Nat.le_trans (hmL p hp) (by omega)
    have le:=rleast_pc m2 (by omega) (by omega) hmh
    have hlk:=leastTo_in (L:=m2) (by omega)
    rw [show startL m2=rotL m2 (leastTo m2 m2.length) from rfl,rotL_range hlk]
    generalize leastTo m2 m2.length=k at*
    have hpos:0<m2.length:=by omega
    simp (disch:=omega) only [↓RS,RZ,simprocAttr,hg,htk,hvl,hml2]
    refine cX le ?_
    simp (disch:=omega) only [↓RS,RZ,simprocAttr,hg,htk,hvl,hml2]
    refine wp_lp (fun (s:Nat×V) J=>ov [(0,.sref b 0 m2.length m2.length 6 false),(7,s.2),(8,.prim (.int .i64 ((k:Nat):Int))),(9,.prim (.int .i64 ((s.1:Nat):Int)))] J 0 75) (fun s H'=>s.1≤m2.length∧Bufn H.length H' s.2 6 (((List.range s.1).map fun j=>m2.getD ((k+j)%m2.length) default).map pc)∧get H' b=some (.row 6 true (m2.map pc))) (fun s=>m2.length-s.1) (0,.prim (.slice none 0 0)) rfl ⟨Nat.zero_le _,.nil (Nat.le_refl _),hg⟩ ?_
    rintro ⟨i,v⟩ J' H' ⟨hi,hB,hg⟩
    try conv in ov _ _ _ _=>simp only [ov,List.lookup,RO,simprocAttr]
    simp only at hi hB hg ⊢
    have d1:=hB.one
    have d2:=hB.cel
    rcases Nat.lt_or_ge i m2.length with hlt|hge
    ·have mm:=Nat.mod_lt (k+i) hpos
     have g1:=pcr_get mm
     have hrl:(List.range i).length=i:=List.length_range
     simp (disch:=omega) only [↓RS,RZ,simprocAttr,hg,htk,hvl,hml2,g1,pc,tmodN,d1,d2,get_app hg]
     refine Bufn.append (hB.app _) (by simp [cellV]) (by simp only [List.length_cons,List.length_nil,List.length_map,hrl];omega) (by simp only [List.length_cons,List.length_nil,List.length_map,hrl];omega) ?_
     intro v' H3 hb3 hkp
     have e1:=hb3.one
     have e2:=hb3.cel
     simp (disch:=omega) only [↓RS,RZ,simprocAttr,e1,e2]
     refine lp_next (i+1,v') rfl ⟨hlt,?_,hkp b _ hbl (get_app hg)⟩ (by simp only;omega)
     show Bufn H.length H3 v' 6 (((List.range (i+1)).map fun j=>m2.getD ((k+j)%m2.length) default).map pc)
     rw [range_map_succ,List.map_append]
     exact hb3
    ·have hia:i=m2.length:=by omega
     subst hia
     have hrn:(List.range m2.length).map (fun j=>m2.getD ((k+j)%m2.length) default)≠[]:=by
      intro e
      have:=congrArg List.length e
      rw [List.length_map,List.length_range] at this
      simp only [List.length_nil] at this
      omega
     obtain ⟨b2,_,rfl,hg2⟩:=hB.cases (by simpa using hrn)
     have hlen:(((List.range m2.length).map fun j=>m2.getD ((k+j)%m2.length) default).map pc).length=m2.length:=by simp
     have hvl2:= @viewLL_prims H' 6 _ (pc_prims ((List.range m2.length).map fun j=>m2.getD ((k+j)%m2.length) default))
     have htk2:(((List.range m2.length).map fun j=>m2.getD ((k+j)%m2.length) default).map pc).take m2.length=((List.range m2.length).map fun j=>m2.getD ((k+j)%m2.length) default).map pc:=by rw [List.take_of_length_le (by omega)]
     rw [hlen]
     simp (disch:=omega) only [↓RS,RZ,simprocAttr,hg,htk,hvl,hml2,hg2,hlen,htk2,hvl2]
end Go.Av
