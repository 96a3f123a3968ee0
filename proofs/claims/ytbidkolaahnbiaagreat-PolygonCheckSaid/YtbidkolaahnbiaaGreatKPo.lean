/- Helping texts: Po, Pq. -/
import Derived.Test.YtbidkolaahnbiaaGreatKPn
import Derived.Test.YtbidkolaahnbiaaGreatKPm
import Derived.Test.YtbidkolaahnbiaaGreatKSe
import Derived.Test.YtbidkolaahnbiaaGreatKMb
set_option linter.unusedSimpArgs false
set_option linter.unusedVariables false
set_option maxRecDepth 100000
set_option maxHeartbeats 16000000
namespace Go.Av
open Go.RowKit
open Go.Proofs.Tryz (prog)
theorem rg_getD {hs:List (List Rp)} {i:Nat} (h:i<hs.length):((hs.map rpsV).map fun v=>[v]).getD i []=[rpsV (hs.getD i [])]:=by
 rw [one_getD (by rw [List.length_map];exact h),hs_getD h]
theorem canS_fold (hs:List (List Rp)):(hs.map canL).foldl insH []=canS hs:=by
 unfold canS
 rw [←isort_ins,List.length_map]
theorem rcan_check {O:List Rp} {hs:List (List Rp)} (h:Small O hs) (h10:hs.length≤10) (hok:∀ l∈O::hs,canE l=0):
 PC prog 75 [cgV (canL O) (canS hs)] (.prim (.int .i64 (chkP ((canL O).map Pt.rp) ((canS hs).map fun l=>l.map Pt.rp)))):=by
 obtain ⟨one,hSm,hSl⟩:=can_bounds h hok
 have:=rcheckP_pc ((canL O).map Pt.rp) ((canS hs).map fun l=>l.map Pt.rp) (by rw [List.length_map];omega) (by rw [List.length_map];have:=(one O (List.mem_cons_self ..)).1;omega) (rp_le (one O (List.mem_cons_self ..)).2) (fun l hl=>by
  obtain ⟨m,hm,rfl⟩:=List.mem_map.1 hl
  exact ⟨by rw [List.length_map];have:=(hSm m hm).1;omega,rp_le (hSm m hm).2⟩)
 rw [←cg_pg] at this
 exact this
theorem rcanonPG_pc (O:List Rp) (hs:List (List Rp)) (h10:hs.length≤10) (sm:Small O hs):PC prog 73 [pgV O hs] (canPV O hs):=by
 have hO:=sm.get (i:=0) (Nat.zero_le _)
 have c0:=rcanon10G_pc O sm.nO sm.kO
 unfold canV at c0
 by_cases he0:canE O=0
 rotate_left
 ·have hF:canF O hs=canE O:=firstNz_found (i:=0) (by omega) he0 fun j hj=>absurd hj (Nat.not_lt_zero j)
  have hP:canP O hs=canE O:=by unfold canP;rw [if_pos (by rw [hF];exact he0),hF]
  unfold canPV
  rw [hP,if_neg he0]
  rw [if_neg he0] at c0
  unfold noV
  generalize canE O=e at*
  refine PCi ?_
  conv in trip _ _=>cbv
  simp only [runT,RN,simprocAttr]
  simp (disch:=omega) only [↓RS,RZ,simprocAttr,pgV,hsV,rpsV]
  refine cX c0 ?_
  simp (disch:=omega) only [↓RS,RZ,simprocAttr]
 rw [if_pos he0,he0] at c0
 have ckS:=fun hok=>rcan_check sm h10 hok
 rcases Nat.eq_zero_or_pos hs.length with hz|hpos
 ·have hz:hs=[]:=List.length_eq_zero_iff.1 hz
  subst hz
  have hF:canF O []=0:=firstNz_none fun j hj=>by
   rw [show j=0 by simp only [List.length_nil] at hj;omega];exact he0
  have hck:=ckS fun l hl=>by rw [List.mem_singleton.1 hl];exact he0
  have hP:canP O []=chkP ((canL O).map Pt.rp) ((canS []).map fun l=>l.map Pt.rp):=by unfold canP;rw [if_neg (fun h=>h hF)]
  rw [←hP] at hck
  unfold canPV
  have hS0:canS []=[]:=rfl
  rw [hS0] at hck ⊢
  generalize canP O []=e at*
  generalize canL O=L' at*
  have ck:PC prog 75 [.agg [psV L',.prim (.slice none 0 0)]] (.prim (.int .i64 (e))):=PC_nilA hck
  by_cases he:e=0
  ·rw [if_pos he]
   rw [he] at ck
   refine PC_nilR ?_
   refine PCi ?_
   conv in trip _ _=>cbv
   simp only [runT,RN,simprocAttr]
   simp (disch:=omega) only [↓RS,RZ,simprocAttr,pgV,hsV,rpsV,psV,List.map_nil]
   refine cX c0 ?_
   simp (disch:=omega) only [↓RS,RZ,simprocAttr,psV]
   refine wp_iter 1 ?_
   simp (disch:=omega) only [↓RS,RZ,simprocAttr,iterL_s,itQ_normal,itQ_exit,itQ_ret,psV]
   refine cX ck ?_
   simp (disch:=omega) only [↓RS,RZ,simprocAttr,psV]
  ·rw [if_neg he]
   unfold noV
   refine PCi ?_
   conv in trip _ _=>cbv
   simp only [runT,RN,simprocAttr]
   simp (disch:=omega) only [↓RS,RZ,simprocAttr,pgV,hsV,rpsV,psV,List.map_nil]
   refine cX c0 ?_
   simp (disch:=omega) only [↓RS,RZ,simprocAttr,psV]
   refine wp_iter 1 ?_
   simp (disch:=omega) only [↓RS,RZ,simprocAttr,iterL_s,itQ_normal,itQ_exit,itQ_ret,psV]
   refine cX ck ?_
   simp (disch:=omega) only [↓RS,RZ,simprocAttr,psV]
 ·have hSl:(canS hs).length=hs.length:=by unfold canS;rw [isortH_length,List.length_map]
  have hzF:∀ i,i<hs.length→(∀ j,j<i→canE (hs.getD j [])=0)→canE (hs.getD i [])≠0→canPV O hs=noV (canE (hs.getD i [])):=fun i hi hf hne=>by
   have hF:canF O hs=canE (hs.getD i []):=firstNz_found (i:=i+1) (by omega) hne fun j hj=>by
    cases j with
    |zero=>exact he0
    |succ j=>exact hf j (by omega)
   have hP:canP O hs=canE (hs.getD i []):=by unfold canP;rw [if_pos (by rw [hF];exact hne),hF]
   unfold canPV
   rw [hP,if_neg hne]
  have hfin:(∀ j,j<hs.length→canE (hs.getD j [])=0)→PC prog 75 [cgV (canL O) (canS hs)] (.prim (.int .i64 (canP O hs))):=fun hf=>by
   have hF:canF O hs=0:=firstNz_none fun j hj=>by
    cases j with
    |zero=>exact he0
    |succ j=>exact hf j (by omega)
   have hP:canP O hs=chkP ((canL O).map Pt.rp) ((canS hs).map fun l=>l.map Pt.rp):=by unfold canP;rw [if_neg (fun h=>h hF)]
   rw [hP]
   refine ckS fun l hl=> ?_
   rcases List.mem_cons.1 hl with rfl|hl
   ·exact he0
   ·obtain ⟨j,hj,rfl⟩:=List.mem_iff_getElem.1 hl
    have:=hf j hj
    rwa [List.getD_eq_getElem?_getD,List.getElem?_eq_getElem hj] at this
  have canl:∀ l∈hs,canE l=0→3≤(canL l).length∧hl (canL l) (2^20):=fun l hl he=>by
   have hc:=(canE_ok he (sm.kh l hl).2).2.2
   have:=hc.lo
   unfold canL
   exact ⟨by rw [canonL_length (by omega)];exact hc.lo,fun p hp=>Nat.le_trans (hc.ht p (canonL_mem hp)) (by omega)⟩
  have hPV:canPV O hs=if canP O hs=0 then .tup [cgV (canL O) (canS hs),.prim (.int .i64 (0))] else noV (canP O hs):=rfl
  have hSf:=canS_fold hs
  generalize canPV O hs=PV at*
  generalize canP O hs=e at*
  generalize canL O=L' at*
  refine PCi ?_
  conv in trip _ _=>cbv
  simp only [runT,RN,simprocAttr]
  simp (disch:=omega) only [↓RS,RZ,simprocAttr,pgV,hsV,rpsV]
  refine cX c0 ?_
  simp (disch:=omega) only [↓RS,RZ,simprocAttr,psV]
  refine wp_lp (fun (s:Nat×V) J=>ov [(1,.ptr 0 0 0),(2,.ptr 1 0 0),(6,.ptr 2 0 0),(7,.prim (.int .i64 ((s.1:Nat):Int)))] J 0 87) (fun s H=>s.1≤hs.length∧(∀ j,j<s.1→canE (hs.getD j [])=0)∧get H 0=some (.row 2 true [[rpsV O,.lst 1 ((hs.map rpsV).map fun v=>[v])]])∧get H 1=some (.row 2 true [[.prim (.slice none 0 0),.prim (.slice none 0 0)]])∧get H 2=some (.row 2 true [[psV L',s.2]])∧Bufn 3 H s.2 1 ((((hs.take s.1).map canL).foldl insH []).map hcel)) (fun s=>hs.length-s.1) (0,.prim (.slice none 0 0)) rfl ⟨Nat.zero_le _,fun j hj=>absurd hj (Nat.not_lt_zero j),rfl,rfl,rfl,.nil (by simp)⟩ ?_
  rintro ⟨i,v⟩ J H ⟨hi,hf,g0,g1,g2,hB⟩
  try conv in ov _ _ _ _=>simp only [ov,List.lookup,RO,simprocAttr]
  simp only at hi hf g0 g1 g2 hB ⊢
  have len_fold:∀ (X S:List (List Pt)),(X.foldl insH S).length=S.length+X.length:=by
   intro X
   induction X with
   |nil=>intro S;rfl
   |cons a X ih=>intro S;rw [List.foldl_cons,ih,insH_length,List.length_cons];omega
  rcases Nat.lt_or_ge i hs.length with hlt|hge
  ·have g:=rg_getD hlt
   have hm:hs.getD i []∈hs:=by rw [List.getD_eq_getElem?_getD,List.getElem?_eq_getElem hlt];exact List.getElem_mem hlt
   have mk:=sm.get (i:=i+1) (by omega)
   have cc:=rcanon10G_pc (hs.getD i []) mk.1 mk.2
   unfold canV at cc
   by_cases hci:canE (hs.getD i [])=0
   rotate_left
   ·rw [if_neg hci] at cc
    rw [hzF i hlt hf hci]
    unfold noV
    have s3:∀ x,get (H.set 1 x) 1=x:=fun x=>get_eq (get_lt_len g1)
    generalize canE (hs.getD i [])=ei at*
    generalize hs.getD i []=hi0 at*
    simp (disch:=omega) only [↓RS,RZ,simprocAttr,g,rpsV,g0,one_length,hs_length]
    refine cX cc ?_
    simp (disch:=omega) only [↓RS,RZ,simprocAttr,g1,s3]
   rw [if_pos hci,hci] at cc
   have hf':∀ j,j<i+1→canE (hs.getD j [])=0:=fun j hj=>by
    rcases Nat.lt_or_ge j i with h|h
    ·exact hf j h
    ·rw [show j=i by omega];exact hci
   have eS:((hs.take (i+1)).map canL).foldl insH []=insH (((hs.take i).map canL).foldl insH []) (canL (hs.getD i [])):=by
    rw [List.take_add_one,List.getElem?_eq_getElem hlt,List.map_append,List.foldl_append,List.getD_eq_getElem?_getD,List.getElem?_eq_getElem hlt];rfl
   have sl:(((hs.take i).map canL).foldl insH []).length=i:=by
    rw [len_fold,List.length_map,List.length_take];simp only [List.length_nil];omega
   have sq:∀ a∈((hs.take i).map canL).foldl insH [],3≤a.length∧hl a (2^20):=by
    have:∀ (X S:List (List Pt)),(∀ a∈X,3≤a.length∧hl a (2^20))→(∀ a∈S,3≤a.length∧hl a (2^20))→∀ a∈X.foldl insH S,3≤a.length∧hl a (2^20):=by
     intro X
     induction X with
     |nil=>intro S _ h;exact h
     |cons b X ih=>intro S h1 h2;exact ih (insH S b) (fun a ha=>h1 a (List.mem_cons_of_mem _ ha)) (insH_okH h2 (h1 b (List.mem_cons_self ..)))
    refine this _ _ (fun a ha=> ?_) (fun a ha=>by cases ha)
    obtain ⟨x,hx,rfl⟩:=List.mem_map.1 ha
    obtain ⟨j,hj,rfl⟩:=List.mem_iff_getElem.1 hx
    rw [List.length_take] at hj
    rw [List.getElem_take]
    refine canl _ (List.getElem_mem _) ?_
    have:=hf j (by omega)
    rwa [List.getD_eq_getElem?_getD,List.getElem?_eq_getElem (by omega)] at this
   have hh:=canl _ hm hci
   generalize ((hs.take i).map canL).foldl insH []=T at*
   generalize canL (hs.getD i [])=h at*
   have d1:=hB.one
   have d2:=hB.cel
   have hN:=hB.1
   have p1:=pc_getD (l:=h) (k:=0) (by omega)
   rcases hB.2 with ⟨e0,rfl⟩|⟨b,hb,rfl,hgb⟩
   ·have hT:T=[]:=List.map_eq_nil_iff.1 e0
    subst hT
    have hi0:i=0:=by simpa using sl.symm
    subst hi0
    simp (disch:=omega) only [↓RS,RZ,simprocAttr,g,rpsV,g0,one_length,hs_length]
    refine cX cc ?_
    simp (disch:=omega) only [↓RS,RZ,simprocAttr,psV,g2]
    refine wp_iter 1 ?_
    have n1:(H.length==2)=false:=by rw [beq_eq_false_iff_ne];omega
    have n2:(2==H.length)=false:=by rw [beq_eq_false_iff_ne];omega
    have n3:∀ x,((H++[x]).length==2)=false:=fun x=>by rw [beq_eq_false_iff_ne,List.length_append];omega
    have a2:∀ x,get (H++[x]) 2=some (.row 2 true [[psV L',.prim (.slice none 0 0)]]):=fun x=>get_app g2
    simp (disch:=omega) only [↓RS,RZ,simprocAttr,iterL_s,itQ_normal,itQ_exit,itQ_ret,psV,g2,get_app_len,n1,n2,n3,a2]
    refine append_lit0 get_app_len ?_
    simp (disch:=omega) only [↓RS,RZ,simprocAttr,psV,get_app_len,n1,n2,n3,a2]
    refine append_nil1 (by simp [cellV]) (by simp) (by simp) (by simp) ?_
    have a3:∀ x y,get (H++[x]++[y]) 2=some (.row 2 true [[psV L',.prim (.slice none 0 0)]]):=fun x y=>get_app (get_app g2)
    simp (disch:=omega) only [↓RS,RZ,simprocAttr,psV,a3]
    refine lp_next (0+1,.sref (H++[some (Blk.row 1 true [[psV h]])]).length 0 1 1 1 false) rfl ⟨hlt,hf',?_,?_,?_,?_⟩ (by simp only;omega)
    ·rw [get_ne (by omega)];exact get_app (get_app g0)
    ·rw [get_ne (by omega)];exact get_app (get_app g1)
    ·rw [get_eq (by rw [List.length_append,List.length_append];omega)];rfl
    ·rw [eS]
     refine Bufn.set ⟨by rw [List.length_append,List.length_append];omega,.inr ⟨(H++[some (Blk.row 1 true [[psV h]])]).length,by rw [List.length_append];omega,rfl,get_app_len⟩⟩ (by omega)
   ·have hTl:(T.map hcel).length=i:=by rw [List.length_map];exact sl
    rw [hTl] at g2
    have hbl:=get_lt_len hgb
    simp (disch:=omega) only [↓RS,RZ,simprocAttr,g,rpsV,g0,one_length,hs_length]
    refine cX cc ?_
    simp (disch:=omega) only [↓RS,RZ,simprocAttr,psV,g2]
    refine wp_lp (fun (k:Nat) J=>ov [(1,.ptr 0 0 0),(2,.ptr 1 0 0),(6,.ptr 2 0 0),(7,.prim (.int .i64 ((i:Nat):Int))),(8,psV h),(10,.prim (.int .i64 ((k:Nat):Int)))] J 0 87) (fun k H'=>(k≤i∧insK T h i=insK T h k)∧H'=H) (fun k=>k) i rfl ⟨⟨Nat.le_refl _,rfl⟩,rfl⟩ ?_
    rintro k J' H' ⟨⟨hk,hkk⟩,hH⟩
    try conv in ov _ _ _ _=>simp only [ov,List.lookup,RO,simprocAttr]
    rw [hH]
    clear hH
    by_cases hgo:0<k∧0<cmpH (T.getD (k-1) []) h
    ·obtain ⟨hk0,hgt⟩:=hgo
     have hm2:T.getD (k-1) []∈T:=by rw [List.getD_eq_getElem?_getD,List.getElem?_eq_getElem (by omega)];exact List.getElem_mem _
     have hq:=sq _ hm2
     have gT:=hc_get (l:=T) (i:=k-1) (by omega)
     have p2:=pc_getD (l:=T.getD (k-1) []) (k:=0) (by omega)
     have vc:=rvcmp_pc ((T.getD (k-1) []).getD 0 default) (h.getD 0 default) (Nat.le_trans (hl_get hq.2 (by omega)) (by omega)) (Nat.le_trans (hl_get hh.2 (by omega)) (by omega))
     have hin:insK T h k=insK T h (k-1):=by
      cases k with
      |zero=>omega
      |succ j=>rw [insK];exact if_pos hgt
     have hgt:0<cmpP ((T.getD (k-1) []).getD 0 default) (h.getD 0 default):=hgt
     simp (disch:=omega) only [↓RS,RZ,simprocAttr,psV,g2,hgb,gT,hcel,pc_length,p1,p2,pc]
     refine cX vc ?_
     simp (disch:=omega) only [↓RS,RZ,simprocAttr]
     exact lp_next (k-1) rfl ⟨⟨by omega,by rw [hkk,hin]⟩,rfl⟩ (by omega)
    ·have hk2:insK T h i=k:=by
      rw [hkk]
      cases k with
      |zero=>rfl
      |succ j=>rw [insK];exact if_neg (fun c=>hgo ⟨by omega,c⟩)
     have eIns:insH T h=T.take k++h::T.drop k:=by unfold insH;rw [sl,hk2]
     have n1:(H.length==2)=false:=by rw [beq_eq_false_iff_ne];omega
     have n2:(2==H.length)=false:=by rw [beq_eq_false_iff_ne];omega
     have n3:∀ x,((H++[x]).length==2)=false:=fun x=>by rw [beq_eq_false_iff_ne,List.length_append];omega
     have n4:(H.length==b)=false:=by rw [beq_eq_false_iff_ne];omega
     have n5:(b==H.length)=false:=by rw [beq_eq_false_iff_ne];omega
     have n6:∀ x,((H++[x]).length==b)=false:=fun x=>by rw [beq_eq_false_iff_ne,List.length_append];omega
     have n7:(b==2)=false:=by rw [beq_eq_false_iff_ne];omega
     have n8:(2==b)=false:=by rw [beq_eq_false_iff_ne];omega
     have a1:∀ x,get (H++[x]) b=some (.row 1 true (T.map hcel)):=fun x=>get_app hgb
     have a2:∀ x,get (H++[x]) 2=some (.row 2 true [[psV L',.sref b 0 i i 1 false]]):=fun x=>get_app g2
     have a3:∀ x y,get (H++[x]++[y]) 2=some (.row 2 true [[psV L',.sref b 0 i i 1 false]]):=fun x y=>get_app (get_app g2)
     have a4:∀ x y z,get (H++[x]++[y]++[z]) 2=some (.row 2 true [[psV L',.sref b 0 i i 1 false]]):=fun x y z=>get_app (get_app (get_app g2))
     by_cases hk0:k=0
     case' pos=>
      simp (disch:=omega) only [↓RS,RZ,simprocAttr,psV,g2,hgb,get_app_len,n1,n2,n3,n4,n5,n6,n7,n8,a1,a2,hTl]
     case' neg=>
      have hm2:T.getD (k-1) []∈T:=by rw [List.getD_eq_getElem?_getD,List.getElem?_eq_getElem (by omega)];exact List.getElem_mem _
      have hq:=sq _ hm2
      have gT:=hc_get (l:=T) (i:=k-1) (by omega)
      have p2:=pc_getD (l:=T.getD (k-1) []) (k:=0) (by omega)
      have vc:=rvcmp_pc ((T.getD (k-1) []).getD 0 default) (h.getD 0 default) (Nat.le_trans (hl_get hq.2 (by omega)) (by omega)) (Nat.le_trans (hl_get hh.2 (by omega)) (by omega))
      have hgt:¬0<cmpP ((T.getD (k-1) []).getD 0 default) (h.getD 0 default):=fun c=>hgo ⟨by omega,c⟩
      simp (disch:=omega) only [↓RS,RZ,simprocAttr,psV,g2,hgb,gT,hcel,pc_length,p1,p2,pc]
      refine cX vc ?_
      simp (disch:=omega) only [↓RS,RZ,simprocAttr,psV,g2,hgb,get_app_len,n1,n2,n3,n4,n5,n6,n7,n8,a1,a2,hTl]
     all_goals (
      have hyl:((T.drop k).map hcel).length=i-k:=by rw [List.length_map,List.length_drop,sl]
      have ey:List.take (i-k) (List.drop k (T.map hcel))=(T.drop k).map hcel:=by rw [←List.map_drop,List.take_of_length_le (by omega)]
      have hes:(T.map hcel).take k++([.lst 6 (h.map pc)]::(T.drop k).map hcel)=(insH T h).map hcel:=by
       rw [eIns,List.map_append,List.map_cons,List.map_take];rfl
      have hil:((insH T h).map hcel).length=i+1:=by rw [List.length_map,insH_length,sl]
      rw [ey]
      by_cases hki:k=i
      ·have e:(T.drop k).map hcel=[]:=List.length_eq_zero_iff.1 (by omega)
       rw [e] at hes ⊢
       refine append_lit0 get_app_len ?_
       simp (disch:=omega) only [↓RS,RZ,simprocAttr,psV,get_app_len,n1,n2,n3,n4,n5,n6,n7,n8,a1,a2,hTl]
       rw [Nat.sub_zero]
       refine append_pre (get_app hgb) (by rw [hTl];exact hk) (by simp [cellV]) (by simp) (by simp;omega) (by simp;omega) ?_
       rw [hes]
       simp (disch:=omega) only [↓RS,RZ,simprocAttr,psV,a3]
       refine lp_next (i+1,.sref (H++[some (Blk.row 1 true [[psV h]])]).length 0 (k+1) (k+1) 1 false) rfl ⟨hlt,hf',?_,?_,?_,?_⟩ (by simp only;omega)
       ·rw [get_ne (by omega)];exact get_app (get_app g0)
       ·rw [get_ne (by omega)];exact get_app (get_app g1)
       ·rw [get_eq (by rw [List.length_append,List.length_append];omega)];rfl
       ·rw [eS]
        refine Bufn.set ⟨by rw [List.length_append,List.length_append];omega,.inr ⟨(H++[some (Blk.row 1 true [[psV h]])]).length,by rw [List.length_append];omega,by rw [hil,hki],get_app_len⟩⟩ (by omega)
      ·refine append_lit1 get_app_len (hcel_cell _) (by omega) (by simp only;omega) (by omega) ?_
       rw [hyl]
       have tk:List.take (1+(i-k)) ([V.lst 6 (h.map pc)]::(T.drop k).map hcel)=[V.lst 6 (h.map pc)]::(T.drop k).map hcel:=by rw [List.take_of_length_le (by rw [List.length_cons,hyl];omega)]
       have a5:∀ x y,get (H++[x]++[y]) b=some (.row 1 true (T.map hcel)):=fun x y=>get_app (get_app hgb)
       have m1:∀ x,((H++[x]).length==H.length)=false:=fun x=>by rw [beq_eq_false_iff_ne,List.length_append];simp
       have m2:∀ x,(H.length==(H++[x]).length)=false:=fun x=>by rw [beq_eq_false_iff_ne,List.length_append];simp
       have m3:∀ x y,((H++[x]++[y]).length==2)=false:=fun x y=>by rw [beq_eq_false_iff_ne,List.length_append,List.length_append];omega
       simp (disch:=omega) only [↓RS,RZ,simprocAttr,psV,get_app_len,n1,n2,n3,n4,n5,n6,n7,n8,a1,a3,a5,m1,m2,m3,hTl,hyl,tk,List.length_cons]
       rw [Nat.sub_zero]
       refine append_pre (get_app (get_app hgb)) (by rw [hTl];exact hk) (fun y hy=>by
        rcases List.mem_cons.1 hy with rfl|hy
        ·simp [cellV]
        ·exact hcel_cell _ y hy) (by simp) (by rw [List.length_cons,hyl];simp only;omega) (by rw [List.length_cons,hyl];omega) ?_
       rw [hes,List.length_cons,hyl]
       simp (disch:=omega) only [↓RS,RZ,simprocAttr,psV,a4]
       generalize hX:H++[some (Blk.row 1 true [[V.lst 6 (h.map pc)]])]++[some (Blk.row 1 true ([V.lst 6 (h.map pc)]::(T.drop k).map hcel))]=X
       have hXl:X.length=H.length+2:=by rw [←hX,List.length_append,List.length_append];rfl
       have x0:∀ {c K},get H c=some K→get X c=some K:=fun g=>by rw [←hX];exact get_app (get_app g)
       refine lp_next (i+1,.sref X.length 0 (k+(i-k+1)) (k+(i-k+1)) 1 false) rfl ⟨hlt,hf',?_,?_,?_,?_⟩ (by simp only;omega)
       ·rw [get_ne (by omega)];exact get_app (x0 g0)
       ·rw [get_ne (by omega)];exact get_app (x0 g1)
       ·rw [get_eq (by rw [List.length_append];omega)]
       ·rw [eS]
        refine Bufn.set ⟨by rw [List.length_append];omega,.inr ⟨X.length,by omega,by rw [hil,show k+(i-k+1)=i+1 by omega],get_app_len⟩⟩ (by omega)
     )
  ·have hia:i=hs.length:=by omega
   subst hia
   have hck:=hfin hf
   rw [List.take_length,hSf] at hB
   have eg:((canS hs).map psV).map (fun v=>[v])=(canS hs).map hcel:=by rw [List.map_map];rfl
   unfold cgV at hck hPV
   rw [eg] at hck hPV
   generalize canS hs=S at*
   have hSm:(S.map hcel).length=hs.length:=by rw [List.length_map];exact hSl
   obtain ⟨b,hb,rfl,hgb⟩:=hB.cases (by intro e;rw [e] at hSm;simp only [List.length_nil] at hSm;omega)
   rw [hSm] at g2
   have k2:(S.map hcel).take hs.length=S.map hcel:=by rw [List.take_of_length_le (by omega)]
   have k3:=viewLL_hcel H 6 S
   have ck:PC prog 75 [.agg [.lst 6 (L'.map pc),.lst 1 (S.map hcel)]] (.prim (.int .i64 (e))):=hck
   have s1:∀ x,get (H.set 1 x) 1=x:=fun x=>get_eq (get_lt_len g1)
   have s2:∀ x,get (H.set 1 x) b=some (.row 1 true (S.map hcel)):=fun x=>by rw [get_ne (by omega)];exact hgb
   have k4:∀ x,view.viewLL (H.set 1 x) 6 (S.map hcel)=some (S.map hcel):=fun x=>viewLL_hcel _ 5 S
   by_cases he:e=0
   ·rw [if_pos he] at hPV
    rw [hPV]
    rw [he] at ck
    simp (disch:=omega) only [↓RS,RZ,simprocAttr,rpsV,psV,g0,g2,hgb,hSm,k2,k3,one_length,hs_length]
    refine cX ck ?_
    simp (disch:=omega) only [↓RS,RZ,simprocAttr,psV,g1,g2,s1,s2,hSm,k2,k4]
   ·rw [if_neg he] at hPV
    rw [hPV]
    unfold noV
    simp (disch:=omega) only [↓RS,RZ,simprocAttr,rpsV,psV,g0,g2,hgb,hSm,k2,k3,one_length,hs_length]
    refine cX ck ?_
    simp (disch:=omega) only [↓RS,RZ,simprocAttr,psV,g1,g2,s1,s2,hSm,k2,k4]
end Go.Av
namespace Go.Av
open Go.RowKit
open Go.Proofs.Tryz (prog)
theorem polygonCheck_pc (O:List Rp) (hs:List (List Rp)) (hr:Read O hs):PC prog 14 [pgV O hs] (.prim (.bool true)):=by
 have aw:=awake_pc
 have g1:=greatP_pc O hs (by have:=hr.n;unfold maxLen at this;omega) (by have:=hr.o.1;unfold maxLen at this;omega) hr.o.2 (fun l hl=>⟨by have:=(hr.h l hl).1;unfold maxLen at this;omega,(hr.h l hl).2⟩)
 cases hg1:greatP O hs with
 |true=>
  rw [hg1] at g1
  refine PCi ?_
  conv in trip _ _=>cbv
  simp only [runT,RN,simprocAttr]
  simp (disch:=omega) only [↓RS,RZ,simprocAttr,pgV,hsV,rpsV]
  refine cX g1 ?_
  simp (disch:=omega) only [↓RS,RZ,simprocAttr]
  refine cX aw ?_
  simp (disch:=omega) only [↓RS,RZ,simprocAttr]
 |false=>
  rw [hg1] at g1
  have sm:=small_of hg1
  have h10:=(greatP_small hg1).2.2.1
  have c1:=PCanonG_pc O hs h10 sm
  have c2:=rcanonPG_pc O hs h10 sm
  have k1:=sm.check
  have k2:=sm.rcheck
  generalize chkP O hs=z at*
  have main:∃ A B e,canPV O hs= .tup [.agg [A,B],.prim (.int .i64 (e))]∧((∃ a b,A= .lst 6 a∧B= .lst 1 b)∨(A= .prim (.slice none 0 0)∧B= .prim (.slice none 0 0)))∧PC prog 24 [.agg [A,B],.agg [A,B]] (.prim (.bool true)):=by
   unfold canPV
   by_cases he:canP O hs=0
   ·rw [if_pos he]
    have hF:canF O hs=0:=by
     unfold canP at he
     by_cases h:canF O hs=0
     ·exact h
     ·rw [if_pos h] at he;exact he
    have hok:∀ l∈O::hs,canE l=0:=fun l hl=>by
     obtain ⟨j,hj,rfl⟩:=List.mem_iff_getElem.1 hl
     have:=firstNz_zero hF j (by simpa using hj)
     rwa [List.getD_eq_getElem?_getD,List.getElem?_eq_getElem hj] at this
    obtain ⟨one,hS,hSl⟩:=can_bounds sm hok
    refine ⟨_,_,_,rfl,.inl ⟨_,_,rfl,rfl⟩,?_⟩
    exact rsameC_pc (canL O) (canS hs) (by have:=(one O (List.mem_cons_self ..)).1;omega) (by omega) fun l hl=>by have:=(hS l hl).1;omega
   ·rw [if_neg he]
    exact ⟨_,_,_,rfl,.inr ⟨rfl,rfl⟩,rsameN_pc⟩
  obtain ⟨A,B,e,hv,hAB,same⟩:=main
  rw [hv] at c1 c2
  clear hv hr hg1 sm
  rcases hAB with ⟨a,b,rfl,rfl⟩|⟨rfl,rfl⟩
  all_goals
   refine PCi ?_
   conv in trip _ _=>cbv
   simp only [runT,RN,simprocAttr]
   simp (disch:=omega) only [↓RS,RZ,simprocAttr,pgV,hsV,rpsV]
   refine cX g1 ?_
   simp (disch:=omega) only [↓RS,RZ,simprocAttr,pgV,hsV,rpsV]
   refine cX c1 ?_
   simp (disch:=omega) only [↓RS,RZ,simprocAttr,pgV,hsV,rpsV]
   refine cX c2 ?_
   simp (disch:=omega) only [↓RS,RZ,simprocAttr,pgV,hsV,rpsV]
   refine cX k1 ?_
   simp (disch:=omega) only [↓RS,RZ,simprocAttr,pgV,hsV,rpsV]
   refine cX k2 ?_
   simp (disch:=omega) only [↓RS,RZ,simprocAttr]
   refine cX same ?_
   simp (disch:=omega) only [↓RS,RZ,simprocAttr]
   refine cX aw ?_
   simp (disch:=omega) only [↓RS,RZ,simprocAttr]
end Go.Av
