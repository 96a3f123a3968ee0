/- Helping texts: Pm. -/
import Derived.Test.YtbidkolaahnbiaaGreatKPk
import Derived.Test.YtbidkolaahnbiaaGreatKSe
set_option linter.unusedSimpArgs false
set_option linter.unusedVariables false
set_option maxRecDepth 100000
set_option maxHeartbeats 16000000
open Nat (reduceAdd reduceLT reduceLeDiff reducePow reduceDiv reduceMod reduceEqDiff)
namespace Go.Av
open Go.RowKit
open Go.Proofs.Tryz (prog)
def canF (O:List Rp) (hs:List (List Rp)):Int:=firstNz (hs.length+1) fun i=>canE ((O::hs).getD i [])
def canS (hs:List (List Rp)):List (List Pt):=isortH (hs.map canL) (hs.length-1)
def canP (O:List Rp) (hs:List (List Rp)):Int:=if canF O hs≠0 then canF O hs else chkP ((canL O).map Pt.rp) ((canS hs).map fun l=>l.map Pt.rp)
theorem rring_val {O:List Rp} {hs:List (List Rp)} {i:Nat} (hi:i≤hs.length):(rpsV O::hs.map rpsV).getD i undefV=rpsV ((O::hs).getD i []):=by
 cases i with
 |zero=>rfl
 |succ i=>
  rw [List.getD_cons_succ,List.getD_cons_succ,List.getD_eq_getElem?_getD,List.getD_eq_getElem?_getD,List.getElem?_map,List.getElem?_eq_getElem hi];rfl
theorem Small.get {O:List Rp} {hs:List (List Rp)} (h:Small O hs) {i:Nat} (hi:i≤hs.length):((O::hs).getD i []).length<2^40∧∀ p∈(O::hs).getD i [],p.le (2^16):=by
 cases i with
 |zero=>exact ⟨h.nO,h.kO⟩
 |succ i=>
  rw [List.getD_cons_succ,List.getD_eq_getElem?_getD,List.getElem?_eq_getElem hi]
  exact h.kh _ (List.getElem_mem _)
def outR (O:List Rp):Nat→V
 |0=> .prim (.slice none 0 0)
 |_+1=>psV (canL O)
theorem Small.okH {O:List Rp} {hs:List (List Rp)} (h:Small O hs) (hok:∀ l∈hs,canE l=0):okH (hs.map canL):=by
 intro i hi
 rw [List.length_map] at hi
 have e:(hs.map canL).getD i []=canL (hs.getD i []):=by
  rw [List.getD_eq_getElem?_getD,List.getElem?_map,List.getD_eq_getElem?_getD,List.getElem?_eq_getElem hi];rfl
 have hm:hs.getD i []∈hs:=by rw [List.getD_eq_getElem?_getD,List.getElem?_eq_getElem hi];exact List.getElem_mem hi
 have hc:=(canE_ok (hok _ hm) (h.kh _ hm).2).2.2
 have hl0:=hc.lo
 have hn:=canonL_length (l:=simpL (pts (hs.getD i []))) (by omega)
 have hh:=hc.hi
 rw [e]
 exact ⟨fun h0=>by rw [canL] at h0;rw [h0] at hn;simp only [List.length_nil] at hn;omega,by rw [canL];omega,fun p hp=>Nat.le_trans (hc.ht p (canonL_mem hp)) (by omega)⟩
theorem can_bounds {O:List Rp} {hs:List (List Rp)} (h:Small O hs) (hok:∀ l∈O::hs,canE l=0):(∀ l∈O::hs,(canL l).length≤64∧hl (canL l) (2^16))∧(∀ l∈canS hs,l.length≤64∧hl l (2^16))∧(canS hs).length=hs.length:=by
 have one:∀ l∈O::hs,(canL l).length≤64∧hl (canL l) (2^16):=fun l hl=>by
  have hle:∀ p∈l,p.le (2^16):=by
   rcases List.mem_cons.1 hl with rfl|hl
   ·exact h.kO
   ·exact (h.kh l hl).2
  have hc:=(canE_ok (hok l hl) hle).2.2
  have:=hc.lo;have:=hc.hi
  unfold canL
  exact ⟨by rw [canonL_length (by omega)];omega,fun p hp=>hc.ht p (canonL_mem hp)⟩
 have hSm:∀ l∈canS hs,l.length≤64∧hl l (2^16):=by
  unfold canS
  rw [show hs.length-1=(hs.map canL).length-1 by rw [List.length_map],isort_ins]
  have:∀ (X S:List (List Pt)) (Q:List Pt→Prop),(∀ a∈S,Q a)→(∀ a∈X,Q a)→∀ a∈X.foldl insH S,Q a:=by
   intro X
   induction X with
   |nil=>intro S Q h1 _;exact h1
   |cons b X ih=>
    intro S Q h1 h2
    refine ih _ Q (fun a ha=> ?_) fun a ha=>h2 a (List.mem_cons_of_mem _ ha)
    rcases List.mem_cons.1 ((insH_perm S b).mem_iff.1 ha) with rfl|ha
    ·exact h2 _ (List.mem_cons_self ..)
    ·exact h1 a ha
  refine this _ [] (fun l=>l.length≤64∧hl l (2^16)) (fun a ha=>by cases ha) fun a ha=> ?_
  obtain ⟨l,hl,rfl⟩:=List.mem_map.1 ha
  exact one l (List.mem_cons_of_mem _ hl)
 have hSl:(canS hs).length=hs.length:=by unfold canS;rw [isortH_length,List.length_map]
 exact ⟨one,hSm,hSl⟩
theorem can_check {O:List Rp} {hs:List (List Rp)} (h:Small O hs) (h10:hs.length≤10) (hok:∀ l∈O::hs,canE l=0):
 PC prog 74 [cgV (canL O) (canS hs)] (.prim (.int .i64 (chkP ((canL O).map Pt.rp) ((canS hs).map fun l=>l.map Pt.rp)))):=by
 obtain ⟨one,hSm,hSl⟩:=can_bounds h hok
 have:=Pcheck_pc ((canL O).map Pt.rp) ((canS hs).map fun l=>l.map Pt.rp) (by rw [List.length_map];omega) (by rw [List.length_map];have:=(one O (List.mem_cons_self ..)).1;omega) (rp_le (one O (List.mem_cons_self ..)).2) (fun l hl=>by
  obtain ⟨m,hm,rfl⟩:=List.mem_map.1 hl
  exact ⟨by rw [List.length_map];have:=(hSm m hm).1;omega,rp_le (hSm m hm).2⟩)
 rw [←cg_pg] at this
 exact this
theorem PCanonR_pc (O:List Rp) (hs:List (List Rp)) (h10:hs.length≤10) (sm:Small O hs) (u:V) (hu:u=if canP O hs≠0 then .agg [.prim (.slice none 0 0),.prim (.slice none 0 0)] else .agg [psV (canL O),if hs=[] then .prim (.slice none 0 0) else .lst 1 ((canS hs).map hcel)]):
 PC prog 72 [pgV O hs] (.tup [u,.prim (.int .i64 (canP O hs))]):=by
 have ckS:=fun hok=>can_check sm h10 hok
 refine PCi ?_
 conv in trip _ _=>cbv
 simp only [runT,RN,Nat.reduceAdd,Nat.reduceSub]
 simp (disch:=omega) only [↓RS,RZ,reduceCtorEq,reduceAdd,reduceLT,reduceLeDiff,List.reduceReplicate,reducePow,reduceDiv,reduceMod,reduceEqDiff,Nat.reduceBEq,pgV,hsV]
 refine call_sc (rings_sc (rpsV O) (hs.map rpsV) ?_)
 simp (disch:=omega) only [↓RS,RZ,reduceCtorEq,reduceAdd,reduceLT,reduceLeDiff,List.reduceReplicate,reducePow,reduceDiv,reduceMod,reduceEqDiff,Nat.reduceBEq]
 refine wp_rf mixed (n:=5) (k:=2) rfl rfl rfl (by kernel_rfl) ?_
 conv in lcC _=>cbv
 conv in lcC _=>cbv
 intro R B D hR hyc
 simp only [List.nil_append,List.cons_append] at hyc ⊢
 refine rings1_sc (rpsV O) (hs.map rpsV) (by rw [List.length_map];omega) (fun i H=>(∀ j,j<i→canE ((O::hs).getD j [])=0)∧∃ v,NilTo i v∧get H 1=some (.row 2 true [[.prim (.slice none 0 0),.prim (.slice none 0 0)]])∧get H 2=some (.row 1 true [[.prim (.int .i64 (0))]])∧get H 3=some (.row 2 true [[outR O i,v]])∧get H 4=some (.row 2 true [[rpsV O,.lst 1 ((hs.map rpsV).map fun v=>[v])]])∧get H 5=some R∧Bufn 6 H v 1 (((hs.take (i-1)).map canL).map hcel))
  (fun H=>canF O hs≠0∧get H 1=some (.row 2 true [[.prim (.slice none 0 0),.prim (.slice none 0 0)]])∧get H 2=some (.row 1 true [[.prim (.int .i64 (canF O hs))]])∧get H 5=some (D .ret)) ?_ ?_ ?_ ?_ ?_
 ·rintro i H ⟨_,v,h⟩;exact h.2.2.2.2.1
 ·rintro i H hlt ⟨hz,v,hv,h1,h2,h3,h4,h5,h6⟩
  rw [List.length_map] at hlt
  rw [rring_val hlt]
  refine hyc _ _ _ rfl h5 ?_
  clear hyc
  simp (disch:=omega) only [↓RS,RZ,reduceCtorEq,reduceAdd,reduceLT,reduceLeDiff,List.reduceReplicate,reducePow,reduceDiv,reduceMod,reduceEqDiff,Nat.reduceBEq,yieldT_cons,yieldT_nil,rpsV]
  rw [bgQ_normal]
  refine ⟨h5,?_⟩
  have hN:=h6.1
  have q1:get (H.set 5 (some B)) 1=some (.row 2 true [[.prim (.slice none 0 0),.prim (.slice none 0 0)]]):=by rw [get_ne (by omega)];exact h1
  have q2:get (H.set 5 (some B)) 2=some (.row 1 true [[.prim (.int .i64 (0))]]):=by rw [get_ne (by omega)];exact h2
  have q3:get (H.set 5 (some B)) 3=some (.row 2 true [[outR O i,v]]):=by rw [get_ne (by omega)];exact h3
  have q4:get (H.set 5 (some B)) 4=some (.row 2 true [[rpsV O,.lst 1 ((hs.map rpsV).map fun v=>[v])]]):=by rw [get_ne (by omega)];exact h4
  have q5:get (H.set 5 (some B)) 5=some B:=get_eq (by omega)
  have q6:=h6.set (c:=5) (x:=some B) (by omega)
  have hN1:6≤(H.set 5 (some B)).length:=by rw [List.length_set];exact hN
  generalize H.set 5 (some B)=H1 at q1 q2 q3 q4 q5 q6 hN1 ⊢
  obtain ⟨m1,m2⟩:=sm.get hlt
  have cc:=RcanonG_pc ((O::hs).getD i []) m1 m2
  unfold canV at cc
  by_cases he:canE ((O::hs).getD i [])=0
  ·rw [if_pos he,he] at cc
   have hz':∀ j,j<i+1→canE ((O::hs).getD j [])=0:=fun j hj=>by
    rcases Nat.lt_or_ge j i with h|h
    ·exact hz j h
    ·rw [show j=i by omega];exact he
   simp (disch:=omega) only [↓RS,RZ,reduceCtorEq,reduceAdd,reduceLT,reduceLeDiff,List.reduceReplicate,reducePow,reduceDiv,reduceMod,reduceEqDiff,Nat.reduceBEq]
   refine cX cc ?_
   have c1:=q6.one
   have c2:=q6.cel
   rcases i with _|i
   ·simp only [outR,List.getD_cons_zero] at*
    simp (disch:=omega) only [↓RS,RZ,reduceCtorEq,reduceAdd,reduceLT,reduceLeDiff,List.reduceReplicate,reducePow,reduceDiv,reduceMod,reduceEqDiff,Nat.reduceBEq,q3,psV,c1,c2]
    rw [rdQ_normal]
    refine ⟨by rw [get_ne (by omega)];exact q5,.inl ⟨rfl,hz',v,fun _=>hv (Nat.zero_le _),?_,?_,?_,?_,?_,?_⟩⟩
    ·rw [get_ne (by omega),get_ne (by omega)];exact q1
    ·rw [get_ne (by omega),get_ne (by omega)];exact q2
    ·rw [get_ne (by omega),get_eq (by omega)]
    ·rw [get_ne (by omega),get_ne (by omega)];exact q4
    ·rw [get_eq (by rw [List.length_set];omega)]
    ·exact (q6.set (by omega)).set (by omega)
   ·have q3:get H1 3=some (.row 2 true [[.lst 6 ((canL O).map pc),v]]):=q3
    simp only [List.getD_cons_succ]
    have hi':i<hs.length:=hlt
    simp (disch:=omega) only [↓RS,RZ,reduceCtorEq,reduceAdd,reduceLT,reduceLeDiff,List.reduceReplicate,reducePow,reduceDiv,reduceMod,reduceEqDiff,Nat.reduceBEq,q3,psV,c1,c2]
    refine Bufn.append (q6.app _) (by simp [cellV]) (by simp only [List.length_cons,List.length_nil,List.length_map,List.length_take];omega) (by simp only [List.length_cons,List.length_nil,List.length_map,List.length_take];omega) ?_
    intro v' H2 hb hk
    have r1:=hk 1 _ (by omega) (get_app q1)
    have r2:=hk 2 _ (by omega) (get_app q2)
    have r3:=hk 3 _ (by omega) (get_app q3)
    have r4:=hk 4 _ (by omega) (get_app q4)
    have r5:=hk 5 _ (by omega) (get_app q5)
    have c1:=hb.one
    have c2:=hb.cel
    simp (disch:=omega) only [↓RS,RZ,reduceCtorEq,reduceAdd,reduceLT,reduceLeDiff,List.reduceReplicate,reducePow,reduceDiv,reduceMod,reduceEqDiff,Nat.reduceBEq,r3,c1,c2]
    rw [rdQ_normal]
    have hl3:=hb.1
    refine ⟨by rw [get_ne (by omega)];exact r5,.inl ⟨rfl,hz',v',fun h=>absurd h (by omega),?_,?_,?_,?_,?_,?_⟩⟩
    ·rw [get_ne (by omega),get_ne (by omega)];exact r1
    ·rw [get_ne (by omega),get_ne (by omega)];exact r2
    ·rw [get_ne (by omega),get_eq (by omega)];rfl
    ·rw [get_ne (by omega),get_ne (by omega)];exact r4
    ·rw [get_eq (by rw [List.length_set];omega)]
    ·have e:((hs.take (i+1+1-1)).map canL).map hcel=((hs.take (i+1-1)).map canL).map hcel++[[.lst 6 ((canL (hs.getD i [])).map pc)]]:=by
      rw [show i+1+1-1=i+1 by omega,show i+1-1=i by omega,List.take_add_one,List.getElem?_eq_getElem hi',List.map_append,List.map_append,List.getD_eq_getElem?_getD,List.getElem?_eq_getElem hi'];rfl
     rw [e]
     exact (hb.set (by omega)).set (by omega)
  ·rw [if_neg he] at cc
   have hF:canF O hs=canE ((O::hs).getD i []):=firstNz_found (by omega) he hz
   rw [←hF] at cc he
   generalize canF O hs=e at*
   have s2:∀ x,get (H1.set 1 x) 2=some (.row 1 true [[.prim (.int .i64 (0))]]):=fun x=>by rw [get_ne (by omega)];exact q2
   simp (disch:=omega) only [↓RS,RZ,reduceCtorEq,reduceAdd,reduceLT,reduceLeDiff,List.reduceReplicate,reducePow,reduceDiv,reduceMod,reduceEqDiff,Nat.reduceBEq]
   refine cX cc ?_
   simp (disch:=omega) only [↓RS,RZ,reduceCtorEq,reduceAdd,reduceLT,reduceLeDiff,List.reduceReplicate,reducePow,reduceDiv,reduceMod,reduceEqDiff,Nat.reduceBEq,q1,q2,s2]
   rw [rdQ_ret]
   refine ⟨by rw [get_ne (by omega),get_ne (by omega)];exact q5,.inr ⟨rfl,?_,?_,?_⟩⟩
   ·rw [get_ne (by omega),get_ne (by omega),get_eq (by omega)]
   ·rw [get_ne (by omega),get_eq (by rw [List.length_set];omega)]
   ·rw [get_eq (by rw [List.length_set,List.length_set];omega)]
 ·exact ⟨fun j hj=>absurd hj (Nat.not_lt_zero j),_,fun _=>rfl,rfl,rfl,rfl,rfl,rfl,.nil (by simp)⟩
 ·rintro w H ⟨hz,v,hv,h1,h2,h3,h4,h5,h6⟩
  refine .inl ⟨h5,?_⟩
  rw [List.length_map] at hz hv
  rw [List.length_map,Nat.add_sub_cancel,List.take_length] at h6
  have hN:=h6.1
  have q1:get (H.set 5 none) 1=some (.row 2 true [[.prim (.slice none 0 0),.prim (.slice none 0 0)]]):=by rw [get_ne (by omega)];exact h1
  have q2:get (H.set 5 none) 2=some (.row 1 true [[.prim (.int .i64 (0))]]):=by rw [get_ne (by omega)];exact h2
  have q3:get (H.set 5 none) 3=some (.row 2 true [[.lst 6 ((canL O).map pc),v]]):=by rw [get_ne (by omega)];exact h3
  have q6:=h6.set (c:=5) (x:=none) (by omega)
  generalize H.set 5 none=H1 at q1 q2 q3 q6 ⊢
  have hN1:=q6.1
  clear h1 h2 h3 h4 h5 h6 hyc
  have hF:canF O hs=0:=firstNz_none hz
  have hok:∀ l∈O::hs,canE l=0:=fun l hl=>by
   obtain ⟨j,hj,rfl⟩:=List.mem_iff_getElem.1 hl
   have:=hz j (by simpa using hj)
   rwa [List.getD_eq_getElem?_getD,List.getElem?_eq_getElem hj] at this
  have hck:=ckS hok
  have hP:canP O hs=chkP ((canL O).map Pt.rp) ((canS hs).map fun l=>l.map Pt.rp):=by unfold canP;rw [if_neg (fun h=>h hF)]
  rw [←hP] at hck
  generalize canP O hs=e at*
  have s2:∀ (H1:Hp),6≤H1.length→get H1 2=some (.row 1 true [[.prim (.int .i64 (0))]])→∀ x,get (H1.set 1 x) 2=some (.row 1 true [[.prim (.int .i64 (0))]]):=fun H1 hN1 q2 x=>by rw [get_ne (by omega)];exact q2
  have s3:∀ (H1:Hp),6≤H1.length→∀ x y,get ((H1.set 1 x).set 2 y) 1=x:=fun H1 hN1 x y=>by rw [get_ne (by omega),get_eq (by omega)]
  have s4:∀ (H1:Hp),6≤H1.length→∀ x y,get ((H1.set 1 x).set 2 y) 2=y:=fun H1 hN1 x y=>by rw [get_eq (by rw [List.length_set];omega)]
  by_cases hzz:hs=[]
  ·subst hzz
   have hv:=hv (Nat.le_refl _)
   subst hv
   have hS0:canS []=[]:=rfl
   rw [hS0] at hck
   have ck:PC prog 74 [.agg [psV (canL O),.prim (.slice none 0 0)]] (.prim (.int .i64 (e))):=PC_nilA hck
   rw [if_pos rfl] at hu
   have t2:=s2 H1 hN1 q2
   have t3:=s3 H1 hN1
   have t4:=s4 H1 hN1
   by_cases he:e=0
   ·rw [if_neg (fun h=>h he)] at hu
    rw [he] at ck ⊢
    subst hu
    simp (disch:=omega) only [↓RS,RZ,reduceCtorEq,reduceAdd,reduceLT,reduceLeDiff,List.reduceReplicate,reducePow,reduceDiv,reduceMod,reduceEqDiff,Nat.reduceBEq,q3]
    refine call_sc (stable0_sc ?_)
    simp (disch:=omega) only [↓RS,RZ,reduceCtorEq,reduceAdd,reduceLT,reduceLeDiff,List.reduceReplicate,reducePow,reduceDiv,reduceMod,reduceEqDiff,Nat.reduceBEq,q3]
    refine cX ck ?_
    simp (disch:=omega) only [↓RS,RZ,reduceCtorEq,reduceAdd,reduceLT,reduceLeDiff,List.reduceReplicate,reducePow,reduceDiv,reduceMod,reduceEqDiff,Nat.reduceBEq,q1,q2,q3,t2,t3,t4,psV]
   ·rw [if_pos he] at hu
    subst hu
    simp (disch:=omega) only [↓RS,RZ,reduceCtorEq,reduceAdd,reduceLT,reduceLeDiff,List.reduceReplicate,reducePow,reduceDiv,reduceMod,reduceEqDiff,Nat.reduceBEq,q3]
    refine call_sc (stable0_sc ?_)
    simp (disch:=omega) only [↓RS,RZ,reduceCtorEq,reduceAdd,reduceLT,reduceLeDiff,List.reduceReplicate,reducePow,reduceDiv,reduceMod,reduceEqDiff,Nat.reduceBEq,q3]
    refine cX ck ?_
    simp (disch:=omega) only [↓RS,RZ,reduceCtorEq,reduceAdd,reduceLT,reduceLeDiff,List.reduceReplicate,reducePow,reduceDiv,reduceMod,reduceEqDiff,Nat.reduceBEq,q1,q2,q3,t2,t3,t4,psV]
  ·rw [if_neg hzz] at hu
   have hpos:0<hs.length:=List.length_pos_iff.2 hzz
   obtain ⟨b,hb,rfl,hg⟩:=q6.cases (by simpa using hzz)
   have hml:(hs.map canL).length=hs.length:=List.length_map ..
   have hml2:((hs.map canL).map hcel).length=hs.length:=by rw [List.length_map];exact hml
   have so:= @stable_sc (hs.map canL) (by omega) (by omega) (sm.okH fun l hl=>hok l (List.mem_cons_of_mem _ hl)) b false H1
   have hSe:isortH (hs.map canL) (hs.length-1)=canS hs:=rfl
   rw [hml,hSe] at so
   rw [hml2] at q3
   have hbl:=get_lt_len hg
   simp (disch:=omega) only [↓RS,RZ,reduceCtorEq,reduceAdd,reduceLT,reduceLeDiff,List.reduceReplicate,reducePow,reduceDiv,reduceMod,reduceEqDiff,Nat.reduceBEq,q3]
   refine call_sc (so hg ?_)
   have hSl:(canS hs).length=hs.length:=by rw [←hSe,isortH_length];exact hml
   have eg:((canS hs).map psV).map (fun v=>[v])=(canS hs).map hcel:=by rw [List.map_map];rfl
   unfold cgV at hck
   rw [eg] at hck
   generalize canS hs=S at*
   have p1:get (H1.set b (some (.row 1 true (S.map hcel)))) 1=_:=(get_ne (by omega)).trans q1
   have p2:get (H1.set b (some (.row 1 true (S.map hcel)))) 2=_:=(get_ne (by omega)).trans q2
   have p3:get (H1.set b (some (.row 1 true (S.map hcel)))) 3=_:=(get_ne (by omega)).trans q3
   have pb:get (H1.set b (some (.row 1 true (S.map hcel)))) b=some (.row 1 true (S.map hcel)):=get_eq hbl
   have hl2:6≤(H1.set b (some (Blk.row 1 true (S.map hcel)))).length:=by rw [List.length_set];omega
   generalize H1.set b (some (Blk.row 1 true (S.map hcel)))=H2 at p1 p2 p3 pb hl2 ⊢
   have k1:(S.map hcel).length=hs.length:=by rw [List.length_map];exact hSl
   have k2:(S.map hcel).take hs.length=S.map hcel:=by rw [List.take_of_length_le (by omega)]
   have k3:=viewLL_hcel H2 6 S
   have ck:PC prog 74 [.agg [.lst 6 ((canL O).map pc),.lst 1 (S.map hcel)]] (.prim (.int .i64 (e))):=hck
   have t2:=s2 H2 hl2 p2
   have t3:=s3 H2 hl2
   have t4:=s4 H2 hl2
   have t5:∀ x y,get ((H2.set 1 x).set 2 y) b=some (.row 1 true (S.map hcel)):=fun x y=>by rw [get_ne (by omega),get_ne (by omega)];exact pb
   have k4:∀ x y,view.viewLL ((H2.set 1 x).set 2 y) 6 (S.map hcel)=some (S.map hcel):=fun x y=>viewLL_hcel _ 5 S
   by_cases he:e=0
   ·rw [if_neg (fun h=>h he)] at hu
    rw [he] at ck ⊢
    subst hu
    simp (disch:=omega) only [↓RS,RZ,reduceCtorEq,reduceAdd,reduceLT,reduceLeDiff,List.reduceReplicate,reducePow,reduceDiv,reduceMod,reduceEqDiff,Nat.reduceBEq,p3,pb,k1,k2,k3]
    refine cX ck ?_
    simp (disch:=omega) only [↓RS,RZ,reduceCtorEq,reduceAdd,reduceLT,reduceLeDiff,List.reduceReplicate,reducePow,reduceDiv,reduceMod,reduceEqDiff,Nat.reduceBEq,p1,p2,p3,t2,t3,t4,t5,k1,k2,k4,psV]
   ·rw [if_pos he] at hu
    subst hu
    simp (disch:=omega) only [↓RS,RZ,reduceCtorEq,reduceAdd,reduceLT,reduceLeDiff,List.reduceReplicate,reducePow,reduceDiv,reduceMod,reduceEqDiff,Nat.reduceBEq,p3,pb,k1,k2,k3]
    refine cX ck ?_
    simp (disch:=omega) only [↓RS,RZ,reduceCtorEq,reduceAdd,reduceLT,reduceLeDiff,List.reduceReplicate,reducePow,reduceDiv,reduceMod,reduceEqDiff,Nat.reduceBEq,p1,p2,p3,t2,t3,t4,t5,k1,k2,k4,psV]
 ·rintro w H ⟨he,h1,h2,h5⟩
  refine .inr ⟨.ret,h5,?_⟩
  have hP:canP O hs=canF O hs:=by unfold canP;rw [if_pos he]
  rw [hP] at hu ⊢
  rw [if_pos he] at hu
  subst hu
  have e1:get (H.set 5 none) 1=some (.row 2 true [[.prim (.slice none 0 0),.prim (.slice none 0 0)]]):=by rw [get_ne (by omega)];exact h1
  have e2:get (H.set 5 none) 2=some (.row 1 true [[.prim (.int .i64 (canF O hs))]]):=by rw [get_ne (by omega)];exact h2
  simp (disch:=omega) only [↓RS,RZ,reduceCtorEq,reduceAdd,reduceLT,reduceLeDiff,List.reduceReplicate,reducePow,reduceDiv,reduceMod,reduceEqDiff,Nat.reduceBEq,e1,e2]
def canPV (O:List Rp) (hs:List (List Rp)):V:=if canP O hs=0 then .tup [cgV (canL O) (canS hs),.prim (.int .i64 (0))] else noV (canP O hs)
theorem PCanonG_pc (O:List Rp) (hs:List (List Rp)) (h10:hs.length≤10) (sm:Small O hs):PC prog 72 [pgV O hs] (canPV O hs):=by
 have h:=PCanonR_pc O hs h10 sm _ rfl
 unfold canPV
 by_cases he:canP O hs=0
 ·rw [if_neg (fun k=>k he),he] at h
  rw [if_pos he]
  have e:((canS hs).map psV).map (fun v=>[v])=(canS hs).map hcel:=by rw [List.map_map];rfl
  unfold cgV
  rw [e]
  by_cases hz:hs=[]
  ·rw [if_pos hz] at h
   have hS0:canS hs=[]:=by rw [hz];rfl
   rw [hS0]
   exact PC_nilR h
  ·rwa [if_neg hz] at h
 ·rw [if_pos he] at h
  rw [if_neg he]
  exact h
end Go.Av
