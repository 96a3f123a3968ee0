/- Helping texts: Tc, Td, Pg, Te, Ph. -/
import Derived.Test.YtbidkolaahnbiaaGreatKDa
import Derived.Test.YtbidkolaahnbiaaGreatKCv
import Derived.Test.YtbidkolaahnbiaaGreatKSg
import Derived.Test.YtbidkolaahnbiaaGreatKPe
import Derived.Test.YtbidkolaahnbiaaGreatKMb
import Derived.Test.YtbidkolaahnbiaaGreatKDv
set_option linter.unusedSimpArgs false
set_option linter.unusedVariables false
set_option maxRecDepth 100000
set_option maxHeartbeats 16000000
namespace Go.Av
open Go.RowKit
open Go.Proofs.Tryz (prog)
variable {H:Type} {enc:TypeId×Value→H} {W:World} {base:Nat} {spare:Nat→Bool} {held:Bool}
structure R2 where
 a:Rp
 b:Rp
def R2.fit (s:R2):Prop:=s.a.fit∧s.b.fit
end Go.Av
namespace Go.Av
open Go.RowKit
open Go.Proofs.Tryz (prog)
variable {O:List Rp} {hs:List (List Rp)}
end Go.Av
namespace Go.Av
open Go.RowKit
open Go.Proofs.Tryz (prog)
theorem eqA_pt8 {X Y Z W:Rt}:eqA (tyOf prog) 8 31 (.agg [.prim (.bool X.neg),.prim (.string (bs (X.num))),.prim (.string (bs (X.den))),.prim (.bool Y.neg),.prim (.string (bs (Y.num))),.prim (.string (bs (Y.den)))]) (.agg [.prim (.bool Z.neg),.prim (.string (bs (Z.num))),.prim (.string (bs (Z.den))),.prim (.bool W.neg),.prim (.string (bs (W.num))),.prim (.string (bs (W.den)))])=some (decide (X=Z∧Y=W)):=by
 have h1:= @eqA_rat 5 X.neg Z.neg X.num X.den Z.num Z.den
 have h2:= @eqA_rat 5 Y.neg W.neg Y.num Y.den W.num W.den
 unfold eqA
 simp only [RT,eqA.eqFs,Bool.false_eq_true,if_false,String.reduceEq,readAt,TK.isAgg,if_true,List.length_cons,List.length_nil,Nat.reduceAdd,Nat.reduceLeDiff,List.drop_zero,List.drop_succ_cons,List.take_succ_cons,List.take_zero,h1,h2]
 have e1:decide (Rt.mk X.neg X.num X.den=Rt.mk Z.neg Z.num Z.den)=decide (X=Z):=rfl
 have e2:decide (Rt.mk Y.neg Y.num Y.den=Rt.mk W.neg W.num W.den)=decide (Y=W):=rfl
 rw [e1,e2]
 by_cases a:X=Z<;>by_cases b:Y=W<;>simp [a,b]
theorem eqA_sg (s t:Sg):eqA (tyOf prog) 9 79 (.agg (sgc s)) (.agg (sgc t))=some (decide (s=t)):=by
 have h1:= @eqA_pt8 (can s.a.x) (can s.a.y) (can t.a.x) (can t.a.y)
 have h2:= @eqA_pt8 (can s.b.x) (can s.b.y) (can t.b.x) (can t.b.y)
 rw [can_eq] at h1 h2
 unfold eqA
 simp only [RT,sgc,eqA.eqFs,Bool.false_eq_true,if_false,String.reduceEq,readAt,TK.isAgg,if_true,List.length_cons,List.length_nil,Nat.reduceAdd,Nat.reduceLeDiff,List.drop_zero,List.drop_succ_cons,List.take_succ_cons,List.take_zero,h1,h2]
 have e:decide (s=t)=(decide (s.a=t.a)&&decide (s.b=t.b)):=by
  rw [←Bool.decide_and,decide_eq_decide]
  exact ⟨fun h=>by subst h;exact ⟨rfl,rfl⟩,fun h=>by cases s;cases t;simp only at h;rw [h.1,h.2]⟩
 rw [e]
 by_cases a:s.a=t.a<;>by_cases b:s.b=t.b<;>simp [a,b]
theorem equalS_pc (E:List Sg) (hn:E.length<2^40):PC prog 68 [ssV E,ssV E] (.prim (.bool true)):=by
 refine PCi ?_
 conv in trip _ _=>cbv
 simp only [runT,RN,simprocAttr]
 simp (disch:=omega) only [↓RS,RZ,simprocAttr,ssV,sgc_length]
 refine wp_lp (fun (i:Nat) J=>ov [(0,ssV E),(1,ssV E),(4,.prim (.bool false)),(11,ssV E),(12,.prim (.int .i64 ((E.length:Nat):Int))),(13,.prim (.int .i64 ((i:Nat):Int)))] J 0 26) (fun i H=>i≤E.length∧H=[]) (fun i=>E.length-i) 0 rfl ⟨Nat.zero_le _,rfl⟩ ?_
 rintro i J _ ⟨hi,rfl⟩
 try conv in ov _ _ _ _=>simp only [ov,List.lookup,RO,simprocAttr]
 rcases Nat.lt_or_ge i E.length with hlt|hge
 ·have g1:=sgc_getD hlt
  have e:=eqA_sg (E.getD i sg0) (E.getD i sg0)
  rw [decide_eq_true rfl] at e
  generalize E.getD i sg0=s at*
  simp only [sgc] at e
  simp (disch:=omega) only [↓RS,RZ,simprocAttr,ssV,sgc_length,g1,sgc,e]
  exact lp_next (i+1) rfl ⟨hlt,rfl⟩ (by omega)
 ·have hia:i=E.length:=by omega
  subst hia
  simp (disch:=omega) only [↓RS,RZ,simprocAttr,ssV,sgc_length]
theorem equalS0_pc:PC prog 68 [.prim (.slice none 0 0),.lst 12 []] (.prim (.bool true)):=by
 refine PCi ?_
 conv in trip _ _=>cbv
 simp only [runT,RN,simprocAttr]
 simp (disch:=omega) only [↓RS,RZ,simprocAttr]
 refine wp_iter 1 ?_
 simp (disch:=omega) only [↓RS,RZ,simprocAttr,iterL_s,itQ_normal,itQ_exit,itQ_ret]
theorem equalV0_pc:PC prog 69 [.prim (.slice none 0 0),.lst 6 []] (.prim (.bool true)):=by
 refine PCi ?_
 conv in trip _ _=>cbv
 simp only [runT,RN,simprocAttr]
 simp (disch:=omega) only [↓RS,RZ,simprocAttr]
 refine wp_iter 1 ?_
 simp (disch:=omega) only [↓RS,RZ,simprocAttr,iterL_s,itQ_normal,itQ_exit,itQ_ret]
variable {O:List Rp} {hs:List (List Rp)}
theorem areaBad_pc (sm:Small O hs) (hbad:chkP O hs≠0):PC prog 34 [pgV O hs] (.tup [qV 0,.prim (.int .i64 (1))]):=by
 have ck:=sm.check
 rw [qV0]
 generalize chkP O hs=z at*
 refine PCi ?_
 conv in trip _ _=>cbv
 simp only [runT,RN,simprocAttr]
 simp (disch:=omega) only [↓RS,RZ,simprocAttr,pgV,hsV,rpsV]
 refine cX ck ?_
 simp (disch:=omega) only [↓RS,RZ,simprocAttr]
theorem rareaBad_pc (sm:Small O hs) (hbad:chkP O hs≠0):PC prog 62 [pgV O hs] (.tup [qV 0,.prim (.int .i64 (1))]):=by
 have ck:=sm.rcheck
 rw [qV0]
 generalize chkP O hs=z at*
 refine PCi ?_
 conv in trip _ _=>cbv
 simp only [runT,RN,simprocAttr]
 simp (disch:=omega) only [↓RS,RZ,simprocAttr,pgV,hsV,rpsV]
 refine cX ck ?_
 simp (disch:=omega) only [↓RS,RZ,simprocAttr]
theorem edgesBad_pc (sm:Small O hs) (hbad:chkP O hs≠0):PC prog 59 [pgV O hs] (.tup [.prim (.slice none 0 0),.prim (.int .i64 (1))]):=by
 have ck:=sm.check
 generalize chkP O hs=z at*
 refine PCi ?_
 conv in trip _ _=>cbv
 simp only [runT,RN,simprocAttr]
 simp (disch:=omega) only [↓RS,RZ,simprocAttr,pgV,hsV,rpsV]
 refine cX ck ?_
 simp (disch:=omega) only [↓RS,RZ,simprocAttr]
theorem redgesBad_pc (sm:Small O hs) (hbad:chkP O hs≠0):PC prog 64 [pgV O hs] (.tup [.lst 12 [],.prim (.int .i64 (1))]):=by
 have ck:=sm.rcheck
 generalize chkP O hs=z at*
 refine PCi ?_
 conv in trip _ _=>cbv
 simp only [runT,RN,simprocAttr]
 simp (disch:=omega) only [↓RS,RZ,simprocAttr,pgV,hsV,rpsV]
 refine cX ck ?_
 simp (disch:=omega) only [↓RS,RZ,simprocAttr]
theorem cornersBad_pc (sm:Small O hs) (hbad:chkP O hs≠0):PC prog 65 [pgV O hs] (.tup [.prim (.slice none 0 0),.prim (.int .i64 (1))]):=by
 have ck:=sm.check
 generalize chkP O hs=z at*
 refine PCi ?_
 conv in trip _ _=>cbv
 simp only [runT,RN,simprocAttr]
 simp (disch:=omega) only [↓RS,RZ,simprocAttr,pgV,hsV,rpsV]
 refine cX ck ?_
 simp (disch:=omega) only [↓RS,RZ,simprocAttr]
theorem rcornersBad_pc (sm:Small O hs) (hbad:chkP O hs≠0):PC prog 66 [pgV O hs] (.tup [.lst 6 [],.prim (.int .i64 (1))]):=by
 have ck:=sm.rcheck
 generalize chkP O hs=z at*
 refine PCi ?_
 conv in trip _ _=>cbv
 simp only [runT,RN,simprocAttr]
 simp (disch:=omega) only [↓RS,RZ,simprocAttr,pgV,hsV,rpsV]
 refine cX ck ?_
 simp (disch:=omega) only [↓RS,RZ,simprocAttr]
theorem interiorBad_pc (sm:Small O hs) (hbad:chkP O hs≠0):PC prog 55 [pgV O hs] (.tup [pV pt0,.prim (.int .i64 (1))]):=by
 have ck:=sm.check
 rw [pV0]
 generalize chkP O hs=z at*
 refine PCi ?_
 conv in trip _ _=>cbv
 simp only [runT,RN,simprocAttr]
 simp (disch:=omega) only [↓RS,RZ,simprocAttr,pgV,hsV,rpsV]
 refine cX ck ?_
 simp (disch:=omega) only [↓RS,RZ,simprocAttr]
theorem rinteriorBad_pc (sm:Small O hs) (hbad:chkP O hs≠0):PC prog 67 [pgV O hs] (.tup [pV pt0,.prim (.int .i64 (1))]):=by
 have ck:=sm.rcheck
 rw [pV0]
 generalize chkP O hs=z at*
 refine PCi ?_
 conv in trip _ _=>cbv
 simp only [runT,RN,simprocAttr]
 simp (disch:=omega) only [↓RS,RZ,simprocAttr,pgV,hsV,rpsV]
 refine cX ck ?_
 simp (disch:=omega) only [↓RS,RZ,simprocAttr]
theorem insideBad_pc (sm:Small O hs) (q:Rp) (hq:q.le (2^20)) (hbad:chkP O hs≠0∨¬q.can):PC prog 44 [pgV O hs,ptV q.x q.y] (.tup [.prim (.int .i64 (0)),.prim (.int .i64 (1))]):=by
 have ck:=sm.check
 have c1:=vcheck_pc q.x q.y (Rp.le32 hq).1 (Rp.le32 hq).2
 by_cases hz:chkP O hs=0
 ·rw [hz] at ck
  rw [if_neg (show ¬(q.x=can q.x.val∧q.y=can q.y.val) from hbad.resolve_left fun k=>k hz)] at c1
  refine PCi ?_
  conv in trip _ _=>cbv
  simp only [runT,RN,simprocAttr]
  simp (disch:=omega) only [↓RS,RZ,simprocAttr,pgV,hsV,rpsV,ptV]
  refine cX ck ?_
  simp (disch:=omega) only [↓RS,RZ,simprocAttr,hsV,rpsV,ptV]
  refine cX c1 ?_
  simp (disch:=omega) only [↓RS,RZ,simprocAttr]
 ·generalize chkP O hs=z at*
  refine PCi ?_
  conv in trip _ _=>cbv
  simp only [runT,RN,simprocAttr]
  simp (disch:=omega) only [↓RS,RZ,simprocAttr,pgV,hsV,rpsV,ptV]
  refine cX ck ?_
  simp (disch:=omega) only [↓RS,RZ,simprocAttr]
theorem rinsideBad_pc (sm:Small O hs) (q:Rp) (hq:q.le (2^20)) (hbad:chkP O hs≠0∨¬q.can):PC prog 63 [pgV O hs,ptV q.x q.y] (.tup [.prim (.int .i64 (0)),.prim (.int .i64 (1))]):=by
 have ck:=sm.rcheck
 have c1:=rvcheck_pc q.x q.y (Rp.le32 hq).1 (Rp.le32 hq).2
 by_cases hz:chkP O hs=0
 ·rw [hz] at ck
  rw [if_neg (show ¬(q.x=can q.x.val∧q.y=can q.y.val) from hbad.resolve_left fun k=>k hz)] at c1
  refine PCi ?_
  conv in trip _ _=>cbv
  simp only [runT,RN,simprocAttr]
  simp (disch:=omega) only [↓RS,RZ,simprocAttr,pgV,hsV,rpsV,ptV]
  refine cX ck ?_
  simp (disch:=omega) only [↓RS,RZ,simprocAttr,hsV,rpsV,ptV]
  refine cX c1 ?_
  simp (disch:=omega) only [↓RS,RZ,simprocAttr]
 ·generalize chkP O hs=z at*
  refine PCi ?_
  conv in trip _ _=>cbv
  simp only [runT,RN,simprocAttr]
  simp (disch:=omega) only [↓RS,RZ,simprocAttr,pgV,hsV,rpsV,ptV]
  refine cX ck ?_
  simp (disch:=omega) only [↓RS,RZ,simprocAttr]
end Go.Av
namespace Go.Av
open Go.RowKit
open Go.Proofs.Tryz (prog)
variable {O:List Rp} {hs:List (List Rp)}
theorem le16 {p:Rp} (h:p.le (2^16)):p.le (2^20):=⟨Rt.le_mono h.1 (by omega),Rt.le_mono h.2 (by omega)⟩
theorem hp_raw16 {p:Rp} (h:p.can) (hl:p.le (2^16)):hp ⟨p.x.val,p.y.val⟩≤2^16:=by
 have h1:=hl.1
 have h2:=hl.2
 rw [h.1] at h1
 rw [h.2] at h2
 exact hp_mk (ht_of_le h1 (by omega)) (ht_of_le h2 (by omega))
end Go.Av
namespace Go.Av
open Go.RowKit
open Go.Proofs.Tryz (prog)
variable {O:List Rp} {hs:List (List Rp)}
theorem both_inside (hg:greatP O hs=false) (sm:Small O hs) (q:Rp) (hq:q.le (2^16)):
 ∃ n z:Int,PC prog 44 [pgV O hs,ptV q.x q.y] (.tup [.prim (.int .i64 (n)),.prim (.int .i64 (z))])∧PC prog 63 [pgV O hs,ptV q.x q.y] (.tup [.prim (.int .i64 (n)),.prim (.int .i64 (z))]):=by
 by_cases hbad:chkP O hs≠0∨¬q.can
 ·exact ⟨0,1,insideBad_pc sm q (le16 hq) hbad,rinsideBad_pc sm q (le16 hq) hbad⟩
 ·rw [not_or,Decidable.not_not,Classical.not_not] at hbad
  obtain ⟨hz,h1⟩:=hbad
  obtain ⟨hf,_,_⟩:=good_of hg hz
  have e:ptV q.x q.y=pV ⟨q.x.val,q.y.val⟩:=ptV_pV h1
  have hh:=hp_raw16 h1 hq
  rw [hf.val,e]
  exact ⟨_,_,hf.valid.inside_pc _ hh,rInsideP_pc hf.valid _ (by omega)⟩
structure Reads (O:List Rp) (hs:List (List Rp)) (r:Rat) (Q:Pt) (z:Int) (u v c d:V):Prop where
 a1:PC prog 34 [pgV O hs] (.tup [qV r,.prim (.int .i64 (z))])
 a2:PC prog 62 [pgV O hs] (.tup [qV r,.prim (.int .i64 (z))])
 e1:PC prog 59 [pgV O hs] (.tup [u,.prim (.int .i64 (z))])
 e2:PC prog 64 [pgV O hs] (.tup [v,.prim (.int .i64 (z))])
 ee:PC prog 68 [u,v] (.prim (.bool true))
 c1:PC prog 65 [pgV O hs] (.tup [c,.prim (.int .i64 (z))])
 c2:PC prog 66 [pgV O hs] (.tup [d,.prim (.int .i64 (z))])
 ce:PC prog 69 [c,d] (.prim (.bool true))
 i1:PC prog 55 [pgV O hs] (.tup [pV Q,.prim (.int .i64 (z))])
 i2:PC prog 67 [pgV O hs] (.tup [pV Q,.prim (.int .i64 (z))])
theorem reads_bad (sm:Small O hs) (h:chkP O hs≠0):Reads O hs 0 pt0 1 (.prim (.slice none 0 0)) (.lst 12 []) (.prim (.slice none 0 0)) (.lst 6 []):=
 ⟨areaBad_pc sm h,rareaBad_pc sm h,edgesBad_pc sm h,redgesBad_pc sm h,equalS0_pc,cornersBad_pc sm h,rcornersBad_pc sm h,equalV0_pc,interiorBad_pc sm h,rinteriorBad_pc sm h⟩
theorem reads_good (hg:greatP O hs=false) (h:chkP O hs=0):∃ (r:Rat) (Q:Pt) (E:List Sg) (C:List Pt),Reads O hs r Q 0 (ssV E) (ssV E) (psV C) (psV C):=by
 obtain ⟨hf,_,_⟩:=good_of hg h
 have hv:=hf.valid
 have h50:=hf.few50 hg
 have hE:=(cornersTo_le hv.rgs ((hs.map pts).length+1) (Nat.le_refl _)).2
 have cE:=EdgesP_pc hf
 have cC:=Corners_pc hf
 rw [←show (hs.map pts).length=hs.length from List.length_map ..] at cC cE
 have cV:=equalV_pc (cornersTo (pts O::hs.map pts) ((hs.map pts).length+1)) (cornersTo (pts O::hs.map pts) ((hs.map pts).length+1)) (by omega) (by omega)
 rw [decide_eq_true rfl] at cV
 have A1:=hv.area_pc
 have A2:=rAreaP_pc hv
 have E2:=rEdgesP_pc hv
 have C2:=rCornersP_pc hv
 have I1:=interiorG_pc hv h50 rfl rfl
 have I2:=rInterior_pc hv rfl rfl
 rw [←hf.val] at A1 A2 cE E2 cC C2 I1 I2
 exact ⟨_,_,_,_,⟨A1,A2,cE,E2,equalS_pc _ (by omega),cC,C2,cV,I1,I2⟩⟩
theorem polygonReads_pc (O:List Rp) (hs:List (List Rp)) (q:Rp) (hr:Read O hs) (hq:q.fit):PC prog 12 [pgV O hs,ptV q.x q.y] (.prim (.bool true)):=by
 have aw:=awake_pc
 have g1:=greatP_pc O hs (by have:=hr.n;unfold maxLen at this;omega) (by have:=hr.o.1;unfold maxLen at this;omega) hr.o.2 (fun l hl=>⟨by have:=(hr.h l hl).1;unfold maxLen at this;omega,(hr.h l hl).2⟩)
 have g2:=great_pc [q] (by simp) (by intro p hp;simp at hp;subst hp;exact hq)
 cases hg1:greatP O hs with
 |true=>
  rw [hg1] at g1
  refine PC_intro mixed (FnD.of (by kernel_rfl)) ?_
  simp only [lcOf,Go.Proofs.Tryz.func12,Go.Proofs.Tryz.f12,liteF]
  conv in (occs:= *) opsL _ _ _=>all_goals cbv
  conv in ntOf _ _=>cbv
  conv in rsOf _ _=>cbv
  simp only [RN,Nat.reduceAdd,Nat.reduceSub]
  simp (disch:=omega) only [↓RS,RZ,simprocAttr,pgV,hsV,rpsV,ptV]
  refine cX g1 ?_
  simp (disch:=omega) only [↓RS,RZ,simprocAttr]
  refine cX aw ?_
  simp (disch:=omega) only [↓RS,RZ,simprocAttr]
 |false=>
 rw [hg1] at g1
 cases hg2:greatL [q] with
 |true=>
  rw [hg2] at g2
  have g2:PC prog 56 [.lst 6 [rpc q]] (.prim (.bool true)):=g2
  refine PC_intro mixed (FnD.of (by kernel_rfl)) ?_
  simp only [lcOf,Go.Proofs.Tryz.func12,Go.Proofs.Tryz.f12,liteF]
  conv in (occs:= *) opsL _ _ _=>all_goals cbv
  conv in ntOf _ _=>cbv
  conv in rsOf _ _=>cbv
  simp only [RN,Nat.reduceAdd,Nat.reduceSub]
  simp (disch:=omega) only [↓RS,RZ,simprocAttr,pgV,hsV,rpsV,ptV]
  refine cX g1 ?_
  simp (disch:=omega) only [↓RS,RZ,simprocAttr,pgV,hsV,rpsV]
  refine cX g2 ?_
  simp (disch:=omega) only [↓RS,RZ,simprocAttr]
  refine cX aw ?_
  simp (disch:=omega) only [↓RS,RZ,simprocAttr]
 |false=>
  rw [hg2] at g2
  have g2:PC prog 56 [.lst 6 [rpc q]] (.prim (.bool false)):=g2
  have sm:=small_of hg1
  have lq:=greatL_le hg2 q (by simp)
  obtain ⟨n,zn,n1,n2⟩:=both_inside hg1 sm q lq
  have main:∃ (r:Rat) (Q:Pt) (z:Int) (u v c d:V),Reads O hs r Q z u v c d∧((∃ E C,u= .lst 12 E∧v= .lst 12 E∧c= .lst 6 C∧d= .lst 6 C)∨(u= .prim (.slice none 0 0)∧v= .lst 12 []∧c= .prim (.slice none 0 0)∧d= .lst 6 [])):=by
   by_cases hz:chkP O hs=0
   ·obtain ⟨r,Q,E,C,h⟩:=reads_good hg1 hz
    exact ⟨r,Q,0,_,_,_,_,h,.inl ⟨_,_,rfl,rfl,rfl,rfl⟩⟩
   ·exact ⟨_,_,_,_,_,_,_,reads_bad sm hz,.inr ⟨rfl,rfl,rfl,rfl⟩⟩
  obtain ⟨r,Q,z,u,v,c,d,R,hc⟩:=main
  obtain ⟨a1,a2,e1,e2,ee,c1,c2,ce,i1,i2⟩:=R
  have er:=eqA_q r r
  rw [decide_eq_true rfl] at er
  have eQ:=eqA_pc Q Q
  rw [decide_eq_true rfl] at eQ
  clear hr hq hg1 hg2 sm lq
  rcases hc with ⟨E,C,rfl,rfl,rfl,rfl⟩|⟨rfl,rfl,rfl,rfl⟩
  all_goals
   refine PC_intro mixed (FnD.of (by kernel_rfl)) ?_
   simp only [lcOf,Go.Proofs.Tryz.func12,Go.Proofs.Tryz.f12,liteF]
   conv in (occs:= *) opsL _ _ _=>all_goals cbv
   conv in ntOf _ _=>cbv
   conv in rsOf _ _=>cbv
   simp only [RN,Nat.reduceAdd,Nat.reduceSub]
   simp (disch:=omega) only [↓RS,RZ,simprocAttr,pgV,hsV,rpsV,ptV]
   refine cX g1 ?_
   simp (disch:=omega) only [↓RS,RZ,simprocAttr,pgV,hsV,rpsV]
   refine cX g2 ?_
   simp (disch:=omega) only [↓RS,RZ,simprocAttr,pgV,hsV,rpsV]
   refine cX a1 ?_
   simp (disch:=omega) only [↓RS,RZ,simprocAttr,pgV,hsV,rpsV,qV,rV]
   refine cX a2 ?_
   simp (disch:=omega) only [↓RS,RZ,simprocAttr,pgV,hsV,rpsV,qV,rV,rpc,ptV]
   refine cX n1 ?_
   simp (disch:=omega) only [↓RS,RZ,simprocAttr,pgV,hsV,rpsV,rpc,ptV]
   refine cX n2 ?_
   simp (disch:=omega) only [↓RS,RZ,simprocAttr,pgV,hsV,rpsV]
   refine cX e1 ?_
   simp (disch:=omega) only [↓RS,RZ,simprocAttr,pgV,hsV,rpsV]
   refine cX e2 ?_
   simp (disch:=omega) only [↓RS,RZ,simprocAttr,pgV,hsV,rpsV]
   refine cX c1 ?_
   simp (disch:=omega) only [↓RS,RZ,simprocAttr,pgV,hsV,rpsV]
   refine cX c2 ?_
   simp (disch:=omega) only [↓RS,RZ,simprocAttr,pgV,hsV,rpsV]
   refine cX i1 ?_
   simp (disch:=omega) only [↓RS,RZ,simprocAttr,pgV,hsV,rpsV,pV,ptV]
   refine cX i2 ?_
   simp (disch:=omega) only [↓RS,RZ,simprocAttr,pgV,hsV,rpsV,pV,ptV,er]
   refine cX ee ?_
   simp (disch:=omega) only [↓RS,RZ,simprocAttr,er]
   refine cX ce ?_
   simp (disch:=omega) only [↓RS,RZ,simprocAttr,eQ]
   refine cX aw ?_
   simp (disch:=omega) only [↓RS,RZ,simprocAttr]
end Go.Av
