/- Helping texts: Ds, Dt, Du. -/
import Derived.Test.YtbidkolaahnbiaaGreatKDh
import Derived.Test.YtbidkolaahnbiaaGreatKDq
set_option linter.unusedSimpArgs false
set_option linter.unusedVariables false
set_option maxRecDepth 100000
set_option maxHeartbeats 16000000
namespace Go.Av
open Go.RowKit
open Go.Proofs.Tryz (prog)
theorem set_self {H:Hp} {b:Nat} {k:Blk} (h:get H b=some k):H.set b (some k)=H:=by
 refine List.ext_getElem? fun c=> ?_
 rw [List.getElem?_set]
 split
 ·rename_i hc
  subst hc
  have hl:=get_lt_len h
  rw [if_pos hl]
  simp only [get,List.getElem?_eq_getElem hl,Option.join_some] at h ⊢
  rw [h]
 ·rfl
def swapAt (l:List Rat) (j:Nat):List Rat:=(l.set (j+1) (l.getD j 0)).set j (l.getD (j+1) 0)
def bubble (l:List Rat):Nat→List Rat
 |0=>l
 |j+1=>if cmpQ (l.getD (j+1) 0) (l.getD j 0)<0 then bubble (swapAt l j) j else l
def isortTo (l:List Rat):Nat→List Rat
 |0=>l
 |i+1=>bubble (isortTo l i) (i+1)
theorem swapAt_length (l:List Rat) (j:Nat):(swapAt l j).length=l.length:=by simp [swapAt]
theorem bubble_length:∀ (j:Nat) (l:List Rat),(bubble l j).length=l.length
 |0,l=>rfl
 |j+1,l=>by unfold bubble;split;· rw [bubble_length j,swapAt_length]
            rfl
theorem isortTo_length (l:List Rat):∀ i,(isortTo l i).length=l.length
 |0=>rfl
 |i+1=>by rw [isortTo,bubble_length,isortTo_length l i]
def hq (l:List Rat) (k:Nat):Prop:=∀ i,i<l.length→ht (l.getD i 0)≤k
theorem getD_set {l:List Rat} {i j:Nat} {x:Rat} (hj:j<l.length):(l.set j x).getD i 0=if i=j then x else l.getD i 0:=by
 rw [List.getD_eq_getElem?_getD,List.getElem?_set,List.getD_eq_getElem?_getD]
 by_cases h:j=i
 ·subst h;simp [hj]
 ·rw [if_neg h,if_neg (fun e=>h e.symm)]
theorem hq_swap {l:List Rat} {j k:Nat} (h:hq l k) (hj:j+1<l.length):hq (swapAt l j) k:=by
 intro i hi
 rw [swapAt_length] at hi
 unfold swapAt
 rw [getD_set (by rw [List.length_set];omega),getD_set hj]
 split
 ·exact h _ hj
 ·split
  ·exact h _ (by omega)
  ·exact h _ hi
theorem hq_bubble {k:Nat}:∀ (j:Nat) (l:List Rat),hq l k→j<l.length→hq (bubble l j) k
 |0,l,h,_=>h
 |j+1,l,h,hj=>by
  unfold bubble;split
  ·exact hq_bubble j _ (hq_swap h hj) (by rw [swapAt_length];omega)
  ·exact h
theorem hq_isort {l:List Rat} {k:Nat} (h:hq l k):∀ i,i<l.length→hq (isortTo l i) k
 |0,_=>h
 |i+1,hi=>hq_bubble _ _ (hq_isort h i (by omega)) (by rw [isortTo_length];exact hi)
theorem qc_get {l:List Rat} {i:Nat} (h:i<l.length):(l.map qc)[i]? =some (qc (l.getD i 0)):=by
 rw [List.getElem?_map,List.getD_eq_getElem?_getD,List.getElem?_eq_getElem h];rfl
theorem qc_swap {l:List Rat} {j:Nat} (hj:j+1<l.length):((l.map qc).set (j+1) (qc (l.getD j 0))).set j (qc (l.getD (j+1) 0))=(swapAt l j).map qc:=by
 unfold swapAt;rw [List.map_set,List.map_set]
theorem isort_sc (l:List Rat) (hn:l.length≤2^20) (h2:1≤l.length) (hl0:hq l (2^30)) {b:Nat} {fx:Bool} {H:Hp} {K:V→Hp→Prop} (hb:get H b=some (.row 3 true (l.map qc)))
 (hK:K (.tup []) (H.set b (some (.row 3 true ((isortTo l (l.length-1)).map qc))))):
 SC prog 254 [.sref b 0 l.length l.length 3 fx,.prim (.int .i64 ((0:Nat):Int)),.prim (.int .i64 ((l.length:Nat):Int)),.clo 54 [] []] H K:=by
 have hbl:=get_lt_len hb
 have s1:∀ x,get (H.set b x) b=x:=fun x=>get_eq hbl
 refine SCi ?_
 conv in trip _ _=>cbv
 simp only [runT,RN,simprocAttr]
 simp (disch:=omega) only [↓RS,RZ,simprocAttr]
 refine wp_lp (fun (i:Nat) J=>ov [(0,.sref b 0 l.length l.length 3 fx),(1,.prim (.int .i64 ((0:Nat):Int))),(2,.prim (.int .i64 ((l.length:Nat):Int))),(3,.clo 54 [] []),(8,.prim (.int .i64 ((i:Nat):Int)))] J 0 53) (fun i H'=>(1≤i∧i≤l.length)∧H'=H.set b (some (.row 3 true ((isortTo l (i-1)).map qc)))) (fun i=>l.length-i) 1 rfl ⟨⟨Nat.le_refl _,h2⟩,(set_self hb).symm⟩ ?_
 rintro i J _ ⟨⟨hi1,hi⟩,rfl⟩
 try conv in ov _ _ _ _=>simp only [ov,List.lookup,RO,simprocAttr]
 rcases Nat.lt_or_ge i l.length with hlt|hge
 ·simp (disch:=omega) only [↓RS,RZ,simprocAttr]
  refine wp_lp (fun (j:Nat) J=>ov [(0,.sref b 0 l.length l.length 3 fx),(1,.prim (.int .i64 ((0:Nat):Int))),(2,.prim (.int .i64 ((l.length:Nat):Int))),(3,.clo 54 [] []),(8,.prim (.int .i64 ((i:Nat):Int))),(9,.prim (.int .i64 ((j:Nat):Int)))] J 0 53)
   (fun j H'=>∃ m:List Rat,(m.length=l.length∧hq m (2^30)∧j≤i∧bubble m j=bubble (isortTo l (i-1)) i)∧H'=H.set b (some (.row 3 true (m.map qc)))) (fun j=>j) i rfl ⟨isortTo l (i-1),⟨isortTo_length l _,hq_isort hl0 _ (by omega),Nat.le_refl _,rfl⟩,rfl⟩ ?_
  rintro j J _ ⟨m,⟨hml,hmq,hji,hm⟩,rfl⟩
  try conv in ov _ _ _ _=>simp only [ov,List.lookup,RO,simprocAttr]
  have fin:isortTo l (i+1-1)=bubble m j:=by
   rw [hm,Nat.add_sub_cancel]
   obtain ⟨i,rfl⟩:∃ k,i=k+1:=⟨i-1,by omega⟩
   rfl
  rcases j with _|k
  ·simp (disch:=omega) only [↓RS,RZ,simprocAttr]
   exact lp_next (i+1) rfl ⟨⟨by omega,hlt⟩,by rw [fin];rfl⟩ (by omega)
  ·have g1:=qc_get (l:=m) (i:=k) (by omega)
   have g2:=qc_get (l:=m) (i:=k+1) (by omega)
   have c:=cmpQ_pc (m.getD (k+1) 0) (m.getD k 0) (Nat.le_trans (hmq _ (by omega)) (by omega)) (Nat.le_trans (hmq _ (by omega)) (by omega))
   simp (disch:=omega) only [↓RS,RZ,simprocAttr,s1,g1,g2,qc,Nat.add_sub_cancel,Nat.zero_add]
   refine cX c ?_
   by_cases hc:cmpQ (m.getD (k+1) 0) (m.getD k 0)<0
   ·have s2:∀ x y,(H.set b x).set b y=H.set b y:=fun x y=>List.set_set ..
    have g3:∀ x,((m.map qc).set (k+1) x)[k]? =some (qc (m.getD k 0)):=fun x=>by rw [List.getElem?_set_ne (by omega)];exact g1
    simp (disch:=omega) only [↓RS,RZ,simprocAttr,s1,s2,g1,g2,g3,qc,Nat.add_sub_cancel,Nat.zero_add]
    refine lp_next k rfl ⟨swapAt m k,⟨by rw [swapAt_length];exact hml,hq_swap hmq (by omega),by omega,?_⟩,?_⟩ (Nat.lt_succ_self k)
    ·rw [←hm]
     conv=>rhs;unfold bubble
     rw [if_pos hc]
    ·rw [←qc_swap (by omega)];rfl
   ·simp (disch:=omega) only [↓RS,RZ,simprocAttr]
    refine lp_next (i+1) rfl ⟨⟨by omega,hlt⟩,?_⟩ (by omega)
    rw [fin]
    unfold bubble
    rw [if_neg hc]
 ·have hia:i=l.length:=by omega
  subst hia
  simp (disch:=omega) only [↓RS,RZ,simprocAttr]
  exact hK
theorem pdq_sc (l:List Rat) (hn:l.length≤12) (h2:1≤l.length) (hl0:hq l (2^30)) (lim:Int) {b:Nat} {fx:Bool} {H:Hp} {K:V→Hp→Prop} (hb:get H b=some (.row 3 true (l.map qc)))
 (hK:K (.tup []) (H.set b (some (.row 3 true ((isortTo l (l.length-1)).map qc))))):
 SC prog 193 [.sref b 0 l.length l.length 3 fx,.prim (.int .i64 (0)),.prim (.int .i64 ((l.length:Nat):Int)),.prim (.int .i64 (lim)),.clo 54 [] []] H K:=by
 refine SCi ?_
 conv in trip _ _=>cbv
 simp only [runT,RN,simprocAttr]
 simp (disch:=omega) only [↓RS,RZ,simprocAttr]
 refine wp_iter 1 ?_
 simp (disch:=omega) only [↓RS,RZ,simprocAttr,iterL_s,itQ_normal,itQ_exit,itQ_ret,Int.sub_zero]
 refine call_sc (isort_sc l (by omega) h2 hl0 hb ?_)
 simp (disch:=omega) only [↓RS,RZ,simprocAttr]
 exact hK
theorem len64_pc (x:Nat) (hx:x<256):PC prog 263 [.prim (.int .u64 ((x:Nat):Int))] (.prim (.int .i64 ((blen x:Nat):Int))):=by
 refine PCi ?_
 conv in trip _ _=>cbv
 simp only [runT,RN,simprocAttr]
 have fin:some (V.prim (Value.int IntKind.i64 (IntKind.i64.wrap ((0:Int)+IntKind.i64.wrap ((lenTab.getD x 0).toNat:Nat)))))=some (V.prim (Value.int IntKind.i64 (blen x:Nat))):=by
  have:= @blen_le x 8 hx
  rw [lenTab_spec x hx,wrap_nat_i64 (by omega),wrap_i64 (by omega) (by omega)]
  simp
 simp (maxSteps:=2000000) (disch:=omega) only [↓RS,RY,simprocAttr]
 exact fin
theorem blen64_pc (x:Nat) (hx:x<256):PC prog 194 [.prim (.int .u64 ((x:Nat):Int))] (.prim (.int .i64 ((blen x:Nat):Int))):=by
 have c:=len64_pc x hx
 refine PCi ?_
 conv in trip _ _=>cbv
 simp only [runT,RN,simprocAttr]
 simp (disch:=omega) only [↓RS,RZ,simprocAttr,wrap_nat_u64]
 refine cX c ?_
 simp (disch:=omega) only [↓RS,RZ,simprocAttr]
theorem sort_sc (l:List Rat) (hn:l.length≤12) (h2:1≤l.length) (hl0:hq l (2^30)) {b:Nat} {fx:Bool} {H:Hp} {K:V→Hp→Prop} (hb:get H b=some (.row 3 true (l.map qc)))
 (hK:K (.tup []) (H.set b (some (.row 3 true ((isortTo l (l.length-1)).map qc))))):
 SC prog 118 [.sref b 0 l.length l.length 3 fx,.clo 54 [] []] H K:=by
 have c:=blen64_pc l.length (by omega)
 refine SCi ?_
 conv in trip _ _=>cbv
 simp only [runT,RN,simprocAttr]
 simp (disch:=omega) only [↓RS,RZ,simprocAttr,wrap_nat_u64]
 refine cX c ?_
 simp (disch:=omega) only [↓RS,RZ,simprocAttr]
 refine call_sc (pdq_sc l hn h2 hl0 _ hb ?_)
 simp (disch:=omega) only [↓RS,RZ,simprocAttr]
 exact hK
end Go.Av
namespace Go.Av
open Go.RowKit
open Go.Proofs.Tryz (prog)
def clearP (P:Program) (T:List V) (H:Hp) (K:V→Hp→Prop) (d:Option Operand) (t:Option TypeId):Prop:=match d,t with
 |some d,some t=>match tyOf P t with
  |some { k:= .slice e,.. }=>match tyOf P e with
   |some ei=>wpClear H ei (ev T d) K
   |none=>False
  |_=>False
 |_,_=>False
theorem wpOp_clear {P:Program} {T:List V} {H:Hp} {K:V→Hp→Prop} {args:Array Operand} {ts:Array TypeId}:wpOp P T H (.call { callee:= .builtin .clear,args,argTypes:=ts }) K=clearP P T H K args[0]? ts[0]? :=by
 unfold wpOp wpVal
 simp only [evN,evA,evL,wpEff];rfl
theorem eqA_q (a b:Rat):eqA (tyOf prog) 9 27 (.agg [.prim (.bool (can a).neg),.prim (.string (bs ((can a).num))),.prim (.string (bs ((can a).den)))]) (.agg [.prim (.bool (can b).neg),.prim (.string (bs ((can b).num))),.prim (.string (bs ((can b).den)))])=some (decide (a=b)):=by
 rw [eqA_rat]
 have:decide (Rt.mk (can a).neg (can a).num (can a).den=Rt.mk (can b).neg (can b).num (can b).den)=decide (a=b):=by
  rw [decide_eq_decide]
  exact ⟨fun h=>can_inj h,fun h=>by subst h;rfl⟩
 rw [this]
theorem compact_sc (a b c d:Rat) (h1:a≠b) (h2:b≠c) (h3:c≠d) {k:Nat} {fx:Bool} {H:Hp} {K:V→Hp→Prop} (hb:get H k=some (.row 3 true ([a,a,b,b,c,c,d,d].map qc)))
 (hK:K (.sref k 0 4 8 3 fx) (H.set k (some (.row 3 true ([a,b,c,d,0,0,0,0].map qc))))):
 SC prog 128 [.sref k 0 8 8 3 fx] H K:=by
 have hbl:=get_lt_len hb
 have s1:∀ x,get (H.set k x) k=x:=fun x=>get_eq hbl
 have s2:∀ x y,(H.set k x).set k y=H.set k y:=fun x y=>List.set_set ..
 have d0:∀ x:Rat,decide (x=x)=true:=fun x=>decide_eq_true rfl
 have d1:decide (b=a)=false:=decide_eq_false (Ne.symm h1)
 have d2:decide (c=b)=false:=decide_eq_false (Ne.symm h2)
 have d3:decide (d=c)=false:=decide_eq_false (Ne.symm h3)
 have hz:qc 0=[.prim (.bool false),.prim (.string (bs ([]))),.prim (.string (bs ([])))]:=by simp only [qc,can_zero]
 simp only [List.map_cons,List.map_nil] at hb hK
 refine SCi ?_
 conv in trip _ _=>cbv
 simp only [runT,RN,simprocAttr]
 simp (disch:=omega) only [↓RS,RZ,simprocAttr]
 refine wp_iter 1 ?_
 simp (disch:=omega) only [↓RS,RZ,simprocAttr,iterL_s,itQ_normal,itQ_exit,itQ_ret,Int.reduceAdd,Int.reduceSub,hb,qc,eqA_q,d0,s1,s2]
 refine wp_iter 7 ?_
 simp (disch:=omega) only [↓RS,RZ,simprocAttr,iterL_s,itQ_normal,itQ_exit,itQ_ret,Int.reduceAdd,Int.reduceSub,Nat.reduceSub,hb,qc,eqA_q,d0,d1,d2,d3,s1,s2,wpOp_clear,clearP,wpClear,splice,List.reduceReplicate]
 rw [hz] at hK
 exact hK
theorem middle_pc (a b:Rat) (ha:ht a≤2^28) (hb:ht b≤2^28):PC prog 129 [qV a,qV b] (qV ((a+b)/2)):=by
 have h1:=ht_add a b
 have h2:=ht_two
 have c:=addQ_pc a b (by omega) (by omega)
 have o:=ofQ_pc 2 (by omega) (by omega)
 have q:=quoQ_pc (a+b) 2 (by omega) (by omega) (by decide+kernel)
 refine PCi ?_
 conv in trip _ _=>cbv
 simp only [runT,RN,simprocAttr]
 simp (disch:=omega) only [↓RS,RZ,simprocAttr,qV,rV]
 refine cX c ?_
 simp (disch:=omega) only [↓RS,RZ,simprocAttr,qV,rV]
 refine cX o ?_
 simp (disch:=omega) only [↓RS,RZ,simprocAttr,qV,rV]
 refine cX q ?_
 simp (disch:=omega) only [↓RS,RZ,simprocAttr,qV,rV]
end Go.Av
namespace Go.Av
open Go.RowKit
open Go.Proofs.Tryz (prog)
def ysTo (E:List Sg) (x:Rat):Nat→List Rat
 |0=>[]
 |i+1=>if (heightS (E.getD i sg0) x).2=0 then ysTo E x i++[(heightS (E.getD i sg0) x).1] else ysTo E x i
theorem ysTo_le (E:List Sg) (x:Rat):∀ i,(ysTo E x i).length≤i
 |0=>by simp [ysTo]
 |i+1=>by have:=ysTo_le E x i;unfold ysTo;split<;>simp<;>omega
theorem sgc_getD {l:List Sg} {k:Nat} (h:k<l.length):(l.map sgc).getD k []=sgc (l.getD k sg0):=by
 rw [List.getD_eq_getElem?_getD,List.getD_eq_getElem?_getD,List.getElem?_map,List.getElem?_eq_getElem h];rfl
def xsTo (C:List Pt) (i:Nat):List Rat:=(List.range i).map fun j=>(C.getD j default).x
theorem Interior_pc {O:List Rp} {hr:List (List Rp)} (h:Fine O hr) (C:List Pt) (E:List Sg) (hC:cornersTo (pts O::hr.map pts) (hr.length+1)=C) (hE:edgesTo (pts O::hr.map pts) (hr.length+1)=E)
 (h8:C.length=8) (a b c d:Rat) (hs1:isortTo (xsTo C 8) 7=[a,a,b,b,c,c,d,d]) (hab:a≠b) (hbc:b≠c) (hcd:c≠d) (hlC:hl C (2^16)) (hta:ht a≤2^16) (htb:ht b≤2^16) (hE12:E.length≤12) (hEs:∀ s∈E,hs s≤2^20)
 (hy2:2≤(ysTo E ((a+b)/2) E.length).length) (hyq:hq (ysTo E ((a+b)/2) E.length) (2^20)) (S:List Rat) (hS:isortTo (ysTo E ((a+b)/2) E.length) ((ysTo E ((a+b)/2) E.length).length-1)=S):
 PC prog 55 [cgV (pts O) (hr.map pts)] (.tup [pV ⟨(a+b)/2,(S.getD 0 0+S.getD 1 0)/2⟩,.prim (.int .i64 (0))]):=by
 have ck:=h.check_pc
 have cc:=corners_pc _ _ h.rgs
 have ce:=edges_pc _ _ h.rgs
 rw [List.length_map,hC] at cc
 rw [List.length_map,hE] at ce
 generalize hr.map pts=Hs at*
 generalize pts O=L at*
 refine PCi ?_
 conv in trip _ _=>cbv
 simp only [runT,RN,simprocAttr]
 simp (disch:=omega) only [↓RS,RZ,simprocAttr,cgV,psV]
 refine cX ck ?_
 simp (disch:=omega) only [↓RS,RZ,simprocAttr,cgV,psV]
 refine cX cc ?_
 simp (disch:=omega) only [↓RS,RZ,simprocAttr,psV,pc_length]
 refine wp_lp (fun (s:Nat×V) J=>ov [(1,.ptr 0 0 0),(2,.ptr 1 0 0),(3,.prim (.int .i64 (0))),(4,s.2),(5,.prim (.slice none 0 0)),(18,psV C),(19,.prim (.int .i64 ((C.length:Nat):Int))),(20,.prim (.int .i64 ((s.1:Nat):Int)))] J 0 72)
  (fun s H=>s.1≤C.length∧get H 0=some (.row 2 true [[psV L,.lst 1 ((Hs.map psV).map fun v=>[v])]])∧get H 1=some (.row 6 true [pc pt0])∧Bufn 2 H s.2 3 ((xsTo C s.1).map qc)) (fun s=>C.length-s.1) (0,.prim (.slice none 0 0)) rfl ⟨Nat.zero_le _,rfl,?_,.nil (by simp)⟩ ?_
 ·have:pc pt0=[.prim (.bool false),.prim (.string (bs ([]))),.prim (.string (bs ([]))),.prim (.bool false),.prim (.string (bs ([]))),.prim (.string (bs ([])))]:=by simp only [pc,pt0,can_zero]
  rw [this];rfl
 rintro ⟨i,v⟩ J H ⟨hi,h0,h1,hB⟩
 try conv in ov _ _ _ _=>simp only [ov,List.lookup,RO,simprocAttr]
 simp only at hi hB ⊢
 rcases Nat.lt_or_ge i C.length with hlt|hge
 ·have g:=pc_getD hlt
  simp (disch:=omega) only [↓RS,RZ,simprocAttr,psV,pc_length,g,pc,set_app_len]
  refine Bufn.append ((hB.app _).app _) (by simp [cellV]) (by simp only [List.length_cons,List.length_nil,List.length_map,xsTo,List.length_range];omega) (by simp only [List.length_cons,List.length_nil,List.length_map,xsTo,List.length_range];omega) ?_
  intro v' H2 hb hk
  have r0:=hk 0 _ (by omega) (get_app (get_app h0))
  have r1:=hk 1 _ (by omega) (get_app (get_app h1))
  simp (disch:=omega) only [↓RS,RZ,simprocAttr]
  refine lp_next (i+1,v') rfl ⟨hlt,r0,r1,?_⟩ (by simp only;omega)
  unfold xsTo
  rw [range_map_succ,List.map_append]
  exact hb
 ·have hia:i=C.length:=by omega
  subst hia
  rw [h8] at hB
  have hxl:(xsTo C 8).length=8:=by simp [xsTo]
  obtain ⟨bb,hbb,rfl,hgb⟩:=hB.cases (by intro e;have:=congrArg List.length e;simp [xsTo] at this)
  have hm8:((xsTo C 8).map qc).length=8:=by rw [List.length_map];exact hxl
  rw [hm8]
  have hxq:hq (xsTo C 8) (2^30):=by
   intro j hj
   rw [hxl] at hj
   have e:(xsTo C 8).getD j 0=(C.getD j default).x:=by
    unfold xsTo;rw [List.getD_eq_getElem?_getD,List.getElem?_map,List.getElem?_range hj];rfl
   rw [e]
   have:=hl_get hlC (show j<C.length by omega)
   have:=hp_x (C.getD j default)
   omega
  have sc:= @sort_sc (xsTo C 8) (by omega) (by omega) hxq bb false H
  rw [hxl] at sc
  simp (disch:=omega) only [↓RS,RZ,simprocAttr,psV,pc_length]
  refine call_sc (sc hgb ?_)
  rw [show isortTo (xsTo C 8) (8-1)=[a,a,b,b,c,c,d,d] from hs1]
  have hlb:=get_lt_len hgb
  have s0:∀ x,get (H.set bb x) 0=some (.row 2 true [[psV L,.lst 1 ((Hs.map psV).map fun v=>[v])]]):=fun x=>by rw [get_ne (by omega)];exact h0
  have s1:∀ x,get (H.set bb x) 1=some (.row 6 true [pc pt0]):=fun x=>by rw [get_ne (by omega)];exact h1
  have sb:∀ x,get (H.set bb x) bb=x:=fun x=>get_eq hlb
  have ss:∀ x y,(H.set bb x).set bb y=H.set bb y:=fun x y=>List.set_set ..
  simp (disch:=omega) only [↓RS,RZ,simprocAttr]
  refine call_sc (compact_sc a b c d hab hbc hcd (sb _) ?_)
  rw [ss]
  have m1:=middle_pc a b (by omega) (by omega)
  simp only [List.map_cons,List.map_nil]
  simp (disch:=omega) only [↓RS,RZ,simprocAttr,sb,qc]
  refine cX m1 ?_
  have t0:=s0 (some (.row 3 true ([a,b,c,d,0,0,0,0].map qc)))
  have t1:=s1 (some (.row 3 true ([a,b,c,d,0,0,0,0].map qc)))
  have tl:bb<(H.set bb (some (Blk.row 3 true ([a,b,c,d,0,0,0,0].map qc)))).length:=by rw [List.length_set];exact hlb
  simp only [List.map_cons,List.map_nil,qc] at t0 t1 tl
  generalize H.set bb _=H1 at t0 t1 tl ⊢
  have u0:∀ x,get (H1++[x]) 0=some (.row 2 true [[psV L,.lst 1 ((Hs.map psV).map fun v=>[v])]]):=fun x=>get_app t0
  have hne:(H1.length==bb)=false:=by rw [beq_eq_false_iff_ne];omega
  simp (disch:=omega) only [↓RS,RZ,simprocAttr,qV,rV,set_app_len,u0,psV,hne]
  refine cX ce ?_
  simp (disch:=omega) only [↓RS,RZ,simprocAttr,ssV,sgc_length]
  have hx:=ht_add a b
  have hx2:=ht_div (a+b) 2
  have hx3:=ht_two
  have hxx:ht ((a+b)/2)≤2^20:=by omega
  clear hs1 hxq sc m1 s0 s1 sb ss hgb hB hne
  generalize (a+b)/2=x at*
  refine wp_lp (fun (s:Nat×V) J=>ov [(1,.ptr 0 0 0),(2,.ptr 1 0 0),(3,.prim (.int .i64 (0))),(5,s.2),(8,.ptr H1.length 0 0),(42,ssV E),(43,.prim (.int .i64 ((E.length:Nat):Int))),(44,.prim (.int .i64 ((s.1:Nat):Int)))] J 0 72)
   (fun s H=>s.1≤E.length∧get H 1=some (.row 6 true [pc pt0])∧get H H1.length=some (.row 3 true [qc x])∧Bufn (H1.length+1) H s.2 3 ((ysTo E x s.1).map qc)) (fun s=>E.length-s.1) (0,.prim (.slice none 0 0)) rfl ⟨Nat.zero_le _,get_app t1,get_app_len,.nil (by simp)⟩ ?_
  clear hi h0 h1 hge u0 t0 t1
  have hn1:2≤H1.length:=by omega
  generalize H1.length=n1 at hn1 ⊢
  rintro ⟨i,v⟩ J H ⟨hi,h1,h2,hB⟩
  try conv in ov _ _ _ _=>simp only [ov,List.lookup,RO,simprocAttr]
  simp only at hi h1 h2 hB ⊢
  rcases Nat.lt_or_ge i E.length with hlt|hge
  ·have g:=sgc_getD hlt
   have hss:hs (E.getD i sg0)≤2^20:=hEs _ (by rw [List.getD_eq_getElem?_getD,List.getElem?_eq_getElem hlt];exact List.getElem_mem hlt)
   have he:=height_pc (E.getD i sg0) x hss hxx
   have w2:∀ y,get (H++[y]) n1=some (.row 3 true [qc x]):=fun y=>get_app h2
   simp (disch:=omega) only [↓RS,RZ,simprocAttr,ssV,sgc_length,g,sgc,set_app_len,w2,qc]
   refine cX he ?_
   have hyl:=ysTo_le E x i
   have hys:ysTo E x (i+1)=if (heightS (E.getD i sg0) x).2=0 then ysTo E x i++[(heightS (E.getD i sg0) x).1] else ysTo E x i:=rfl
   generalize heightS (E.getD i sg0) x=r at hys ⊢
   obtain ⟨y,er⟩:=r
   simp only at hys ⊢
   by_cases h0:er=0
   ·rw [if_pos h0] at hys
    simp (disch:=omega) only [↓RS,RZ,simprocAttr,qV,rV,set_app_len]
    refine Bufn.append (((hB.app _).app _).app _) (by simp [cellV]) (by simp only [List.length_cons,List.length_nil,List.length_map];omega) (by simp only [List.length_cons,List.length_nil,List.length_map];omega) ?_
    intro v' H2 hb hk
    have r1:=hk 1 _ (by omega) (get_app (get_app (get_app h1)))
    have r2:=hk n1 _ (by omega) (get_app (get_app (get_app h2)))
    simp (disch:=omega) only [↓RS,RZ,simprocAttr]
    refine lp_next (i+1,v') rfl ⟨hlt,r1,r2,?_⟩ (by simp only;omega)
    show Bufn _ _ _ 3 ((ysTo E x (i+1)).map qc)
    rw [hys,List.map_append]
    exact hb
   ·rw [if_neg h0] at hys
    simp (disch:=omega) only [↓RS,RZ,simprocAttr,qV,rV,set_app_len]
    refine lp_next (i+1,v) rfl ⟨hlt,get_app (get_app h1),get_app (get_app h2),?_⟩ (by simp only;omega)
    show Bufn _ _ _ 3 ((ysTo E x (i+1)).map qc)
    rw [hys]
    exact (hB.app _).app _
  ·have hia:i=E.length:=by omega
   subst hia
   generalize hys:ysTo E x E.length=ys at*
   have hyl:ys.length≤12:=by rw [←hys];exact Nat.le_trans (ysTo_le E x _) hE12
   obtain ⟨bb,hbb,rfl,hgb⟩:=hB.cases (by intro e;have h0:=congrArg List.length e;rw [List.length_map,List.length_nil] at h0;omega)
   rw [List.length_map] at*
   have sc:= @sort_sc ys hyl (by omega) (fun j hj=>Nat.le_trans (hyq j hj) (by omega)) bb false H
   have hlb:=get_lt_len hgb
   have s1:∀ y,get (H.set bb y) 1=some (.row 6 true [pc pt0]):=fun y=>by rw [get_ne (by omega)];exact h1
   have s2:∀ y,get (H.set bb y) n1=some (.row 3 true [qc x]):=fun y=>by rw [get_ne (by omega)];exact h2
   have sb:∀ y,get (H.set bb y) bb=y:=fun y=>get_eq hlb
   simp (disch:=omega) only [↓RS,RZ,simprocAttr,ssV,sgc_length]
   refine call_sc (sc hgb ?_)
   rw [hS]
   have hSl:S.length=ys.length:=by rw [←hS,isortTo_length]
   have hSq:hq S (2^20):=by rw [←hS];exact hq_isort hyq _ (by omega)
   have g0:=qc_get (l:=S) (i:=0) (by omega)
   have g1:=qc_get (l:=S) (i:=1) (by omega)
   have m2:=middle_pc (S.getD 0 0) (S.getD 1 0) (Nat.le_trans (hSq 0 (by omega)) (by omega)) (Nat.le_trans (hSq 1 (by omega)) (by omega))
   have q1:=s1 (some (.row 3 true (S.map qc)))
   have q2:=s2 (some (.row 3 true (S.map qc)))
   have qb:=sb (some (.row 3 true (S.map qc)))
   have ql:bb<(H.set bb (some (Blk.row 3 true (S.map qc)))).length:=by rw [List.length_set];exact hlb
   generalize H.set bb (some (Blk.row 3 true (S.map qc)))=H3 at q1 q2 qb ql ⊢
   have s3:∀ y,get (H3.set 1 y) 1=y:=fun y=>get_eq (H:=H3) (Nat.lt_of_lt_of_le (by omega:1<bb) (Nat.le_of_lt ql))
   simp (disch:=omega) only [↓RS,RZ,simprocAttr,q2,qb,g0,g1,qc]
   refine cX m2 ?_
   simp (disch:=omega) only [↓RS,RZ,simprocAttr,qV,rV,q1,s3,pc]
   rfl
end Go.Av
