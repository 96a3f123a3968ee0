/- Helping texts: Fd, Fe, Fg. -/
import Derived.Test.YtbidkolaahnbiaaGreatKFa
import Derived.Test.YtbidkolaahnbiaaGreatKDq
set_option linter.unusedSimpArgs false
set_option linter.unusedVariables false
set_option maxRecDepth 100000
set_option maxHeartbeats 16000000
namespace Go.Av
open Go.RowKit
open Go.Proofs.Tryz (prog)
theorem leastTo_in {L:List Pt} (h:0<L.length):leastTo L L.length<L.length:=leastTo_lt h
end Go.Av
namespace Go.Av
open Go.RowKit
open Go.Proofs.Tryz (prog)
def cmpH (a b:List Pt):Int:=cmpP (a.getD 0 default) (b.getD 0 default)
def hcel (a:List Pt):List V:=[psV a]
theorem cmpH_pc (a b:List Pt) (ha:a≠[]∧a.length≤2^20∧hl a (2^20)) (hb:b≠[]∧b.length≤2^20∧hl b (2^20)):PC prog 158 [psV a,psV b] (.prim (.int .i64 (cmpH a b))):=by
 have l1:=List.length_pos_iff.2 ha.1
 have l2:=List.length_pos_iff.2 hb.1
 have g1:=pc_getD l1
 have g2:=pc_getD l2
 have c:=vcmp_pc (a.getD 0 default) (b.getD 0 default) (Nat.le_trans (hl_get ha.2.2 l1) (by omega)) (Nat.le_trans (hl_get hb.2.2 l2) (by omega))
 refine PCi ?_
 conv in trip _ _=>cbv
 simp only [runT,RN,simprocAttr]
 simp (disch:=omega) only [↓RS,RZ,simprocAttr,psV,pc_length,g1,g2,pc]
 refine cX c ?_
 simp (disch:=omega) only [↓RS,RZ,simprocAttr]
 rfl
def swapH (l:List (List Pt)) (j:Nat):List (List Pt):=(l.set (j+1) (l.getD j [])).set j (l.getD (j+1) [])
def bubbleH (l:List (List Pt)):Nat→List (List Pt)
 |0=>l
 |j+1=>if cmpH (l.getD (j+1) []) (l.getD j [])<0 then bubbleH (swapH l j) j else l
def isortH (l:List (List Pt)):Nat→List (List Pt)
 |0=>l
 |i+1=>bubbleH (isortH l i) (i+1)
theorem swapH_length (l:List (List Pt)) (j:Nat):(swapH l j).length=l.length:=by simp [swapH]
theorem bubbleH_length:∀ (j:Nat) (l:List (List Pt)),(bubbleH l j).length=l.length
 |0,l=>rfl
 |j+1,l=>by unfold bubbleH;split;· rw [bubbleH_length j,swapH_length]
            rfl
theorem isortH_length (l:List (List Pt)):∀ i,(isortH l i).length=l.length
 |0=>rfl
 |i+1=>by rw [isortH,bubbleH_length,isortH_length l i]
def okH (l:List (List Pt)):Prop:=∀ i,i<l.length→l.getD i []≠[]∧(l.getD i []).length≤2^20∧hl (l.getD i []) (2^20)
theorem getD_setH {l:List (List Pt)} {i j:Nat} {x:List Pt} (hj:j<l.length):(l.set j x).getD i []=if i=j then x else l.getD i []:=by
 rw [List.getD_eq_getElem?_getD,List.getElem?_set,List.getD_eq_getElem?_getD]
 by_cases h:j=i
 ·subst h;simp [hj]
 ·rw [if_neg h,if_neg (fun e=>h e.symm)]
theorem okH_swap {l:List (List Pt)} {j:Nat} (h:okH l) (hj:j+1<l.length):okH (swapH l j):=by
 intro i hi
 rw [swapH_length] at hi
 unfold swapH
 rw [getD_setH (by rw [List.length_set];omega),getD_setH hj]
 split
 ·exact h _ hj
 ·split
  ·exact h _ (by omega)
  ·exact h _ hi
theorem okH_bubble:∀ (j:Nat) (l:List (List Pt)),okH l→j<l.length→okH (bubbleH l j)
 |0,l,h,_=>h
 |j+1,l,h,hj=>by
  unfold bubbleH;split
  ·exact okH_bubble j _ (okH_swap h hj) (by rw [swapH_length];omega)
  ·exact h
theorem okH_isort {l:List (List Pt)} (h:okH l):∀ i,i<l.length→okH (isortH l i)
 |0,_=>h
 |i+1,hi=>okH_bubble _ _ (okH_isort h i (by omega)) (by rw [isortH_length];exact hi)
theorem hc_get {l:List (List Pt)} {i:Nat} (h:i<l.length):(l.map hcel)[i]? =some (hcel (l.getD i [])):=by
 rw [List.getElem?_map,List.getD_eq_getElem?_getD,List.getElem?_eq_getElem h];rfl
theorem hc_swap {l:List (List Pt)} {j:Nat} (hj:j+1<l.length):((l.map hcel).set (j+1) (hcel (l.getD j []))).set j (hcel (l.getD (j+1) []))=(swapH l j).map hcel:=by
 unfold swapH;rw [List.map_set,List.map_set]
theorem isortH_sc (l:List (List Pt)) (hn:l.length≤2^20) (h2:1≤l.length) (hl0:okH l) {b:Nat} {fx:Bool} {H:Hp} {K:V→Hp→Prop} (hb:get H b=some (.row 1 true (l.map hcel)))
 (hK:K (.tup []) (H.set b (some (.row 1 true ((isortH l (l.length-1)).map hcel))))):
 SC prog 280 [.sref b 0 l.length l.length 1 fx,.prim (.int .i64 ((0:Nat):Int)),.prim (.int .i64 ((l.length:Nat):Int)),.clo 158 [] []] H K:=by
 have hbl:=get_lt_len hb
 have s1:∀ x,get (H.set b x) b=x:=fun x=>get_eq hbl
 refine SCi ?_
 conv in trip _ _=>cbv
 simp only [runT,RN,simprocAttr]
 simp (disch:=omega) only [↓RS,RZ,simprocAttr]
 refine wp_lp (fun (i:Nat) J=>ov [(0,.sref b 0 l.length l.length 1 fx),(1,.prim (.int .i64 ((0:Nat):Int))),(2,.prim (.int .i64 ((l.length:Nat):Int))),(3,.clo 158 [] []),(8,.prim (.int .i64 ((i:Nat):Int)))] J 0 53) (fun i H'=>(1≤i∧i≤l.length)∧H'=H.set b (some (.row 1 true ((isortH l (i-1)).map hcel)))) (fun i=>l.length-i) 1 rfl ⟨⟨Nat.le_refl _,h2⟩,(set_self hb).symm⟩ ?_
 rintro i J _ ⟨⟨hi1,hi⟩,rfl⟩
 try conv in ov _ _ _ _=>simp only [ov,List.lookup,RO,simprocAttr]
 rcases Nat.lt_or_ge i l.length with hlt|hge
 ·simp (disch:=omega) only [↓RS,RZ,simprocAttr]
  refine wp_lp (fun (j:Nat) J=>ov [(0,.sref b 0 l.length l.length 1 fx),(1,.prim (.int .i64 ((0:Nat):Int))),(2,.prim (.int .i64 ((l.length:Nat):Int))),(3,.clo 158 [] []),(8,.prim (.int .i64 ((i:Nat):Int))),(9,.prim (.int .i64 ((j:Nat):Int)))] J 0 53)
   (fun j H'=>∃ m:List (List Pt),(m.length=l.length∧okH m∧j≤i∧bubbleH m j=bubbleH (isortH l (i-1)) i)∧H'=H.set b (some (.row 1 true (m.map hcel)))) (fun j=>j) i rfl ⟨isortH l (i-1),⟨isortH_length l _,okH_isort hl0 _ (by omega),Nat.le_refl _,rfl⟩,rfl⟩ ?_
  rintro j J _ ⟨m,⟨hml,hmq,hji,hm⟩,rfl⟩
  try conv in ov _ _ _ _=>simp only [ov,List.lookup,RO,simprocAttr]
  have fin:isortH l (i+1-1)=bubbleH m j:=by
   rw [hm,Nat.add_sub_cancel]
   obtain ⟨i,rfl⟩:∃ k,i=k+1:=⟨i-1,by omega⟩
   rfl
  rcases j with _|k
  ·simp (disch:=omega) only [↓RS,RZ,simprocAttr]
   exact lp_next (i+1) rfl ⟨⟨by omega,hlt⟩,by rw [fin];rfl⟩ (by omega)
  ·have g1:=hc_get (l:=m) (i:=k) (by omega)
   have g2:=hc_get (l:=m) (i:=k+1) (by omega)
   have c:=cmpH_pc (m.getD (k+1) []) (m.getD k []) (hmq _ (by omega)) (hmq _ (by omega))
   simp (disch:=omega) only [↓RS,RZ,simprocAttr,s1,g1,g2,hcel,psV,Nat.add_sub_cancel,Nat.zero_add]
   refine cX c ?_
   by_cases hc:cmpH (m.getD (k+1) []) (m.getD k [])<0
   ·have s2:∀ x y,(H.set b x).set b y=H.set b y:=fun x y=>List.set_set ..
    have g3:∀ x,((m.map hcel).set (k+1) x)[k]? =some (hcel (m.getD k [])):=fun x=>by rw [List.getElem?_set_ne (by omega)];exact g1
    simp (disch:=omega) only [↓RS,RZ,simprocAttr,s1,s2,g1,g2,g3,hcel,psV,Nat.add_sub_cancel,Nat.zero_add]
    refine lp_next k rfl ⟨swapH m k,⟨by rw [swapH_length];exact hml,okH_swap hmq (by omega),by omega,?_⟩,?_⟩ (Nat.lt_succ_self k)
    ·rw [←hm]
     conv=>rhs;unfold bubbleH
     rw [if_pos hc]
    ·rw [←hc_swap (by omega)];rfl
   ·simp (disch:=omega) only [↓RS,RZ,simprocAttr]
    refine lp_next (i+1) rfl ⟨⟨by omega,hlt⟩,?_⟩ (by omega)
    rw [fin]
    unfold bubbleH
    rw [if_neg hc]
 ·have hia:i=l.length:=by omega
  subst hia
  simp (disch:=omega) only [↓RS,RZ,simprocAttr]
  exact hK
theorem stableC_sc (l:List (List Pt)) (hn:l.length≤12) (h2:1≤l.length) (hl0:okH l) {b:Nat} {fx:Bool} {H:Hp} {K:V→Hp→Prop} (hb:get H b=some (.row 1 true (l.map hcel)))
 (hK:K (.tup []) (H.set b (some (.row 1 true ((isortH l (l.length-1)).map hcel))))):
 SC prog 226 [.sref b 0 l.length l.length 1 fx,.prim (.int .i64 ((l.length:Nat):Int)),.clo 158 [] []] H K:=by
 refine SCi ?_
 conv in trip _ _=>cbv
 simp only [runT,RN,simprocAttr]
 simp (disch:=omega) only [↓RS,RZ,simprocAttr]
 refine wp_iter 1 ?_
 simp (disch:=omega) only [↓RS,RZ,simprocAttr,iterL_s,itQ_normal,itQ_exit,itQ_ret,Int.sub_zero]
 refine call_sc (isortH_sc l (by omega) h2 hl0 hb ?_)
 simp (disch:=omega) only [↓RS,RZ,simprocAttr]
 refine wp_iter 1 ?_
 simp (disch:=omega) only [↓RS,RZ,simprocAttr,iterL_s,itQ_normal,itQ_exit,itQ_ret,Int.sub_zero]
 exact hK
theorem stable_sc (l:List (List Pt)) (hn:l.length≤12) (h2:1≤l.length) (hl0:okH l) {b:Nat} {fx:Bool} {H:Hp} {K:V→Hp→Prop} (hb:get H b=some (.row 1 true (l.map hcel)))
 (hK:K (.tup []) (H.set b (some (.row 1 true ((isortH l (l.length-1)).map hcel))))):
 SC prog 157 [.sref b 0 l.length l.length 1 fx,.clo 158 [] []] H K:=by
 refine SCi ?_
 conv in trip _ _=>cbv
 simp only [runT,RN,simprocAttr]
 simp (disch:=omega) only [↓RS,RZ,simprocAttr]
 refine call_sc (stableC_sc l hn h2 hl0 hb ?_)
 simp (disch:=omega) only [↓RS,RZ,simprocAttr]
 exact hK
theorem isort0_sc {H:Hp} {K:V→Hp→Prop} (hK:K (.tup []) H):
 SC prog 280 [.prim (.slice none 0 0),.prim (.int .i64 ((0:Nat):Int)),.prim (.int .i64 ((0:Nat):Int)),.clo 158 [] []] H K:=by
 refine SCi ?_
 conv in trip _ _=>cbv
 simp only [runT,RN,simprocAttr]
 simp (disch:=omega) only [↓RS,RZ,simprocAttr]
 refine wp_iter 1 ?_
 simp (disch:=omega) only [↓RS,RZ,simprocAttr,iterL_s,itQ_normal,itQ_exit,itQ_ret,Int.sub_zero]
 exact hK
theorem stableC0_sc {H:Hp} {K:V→Hp→Prop} (hK:K (.tup []) H):
 SC prog 226 [.prim (.slice none 0 0),.prim (.int .i64 ((0:Nat):Int)),.clo 158 [] []] H K:=by
 refine SCi ?_
 conv in trip _ _=>cbv
 simp only [runT,RN,simprocAttr]
 simp (disch:=omega) only [↓RS,RZ,simprocAttr]
 refine wp_iter 1 ?_
 simp (disch:=omega) only [↓RS,RZ,simprocAttr,iterL_s,itQ_normal,itQ_exit,itQ_ret,Int.sub_zero]
 refine call_sc (isort0_sc ?_)
 simp (disch:=omega) only [↓RS,RZ,simprocAttr]
 refine wp_iter 1 ?_
 simp (disch:=omega) only [↓RS,RZ,simprocAttr,iterL_s,itQ_normal,itQ_exit,itQ_ret,Int.sub_zero]
 exact hK
theorem stable0_sc {H:Hp} {K:V→Hp→Prop} (hK:K (.tup []) H):
 SC prog 157 [.prim (.slice none 0 0),.clo 158 [] []] H K:=by
 refine SCi ?_
 conv in trip _ _=>cbv
 simp only [runT,RN,simprocAttr]
 simp (disch:=omega) only [↓RS,RZ,simprocAttr]
 refine call_sc (stableC0_sc ?_)
 simp (disch:=omega) only [↓RS,RZ,simprocAttr]
 exact hK
end Go.Av
open Nat (reduceAdd reduceLT reduceLeDiff reducePow reduceDiv reduceMod reduceEqDiff)
namespace Go.Av
open Go.RowKit
open Go.Proofs.Tryz (prog)
theorem VR_nil {φ:Nat→Option Loc} {I:Nat→Prop} {w:World} {x:Value} (h:VR φ I w (.prim (.slice none 0 0)) x):VR φ I w (.lst 1 []) x:=by cases h;exact .lnil
theorem VR_anil {φ:Nat→Option Loc} {I:Nat→Prop} {w:World} {a:V} {x:Value} (h:VR φ I w (.agg [a,.prim (.slice none 0 0)]) x):VR φ I w (.agg [a,.lst 1 []]) x:=by
 cases h with
 |agg h1 hx=>
  refine .agg h1 fun k v x hv hxk=> ?_
  match k,hv with
  |0,hv=>exact hx 0 v x hv hxk
  |1,hv=>cases hv;exact VR_nil (hx 1 _ x rfl hxk)
  |k+2,hv=>simp at hv
theorem PC_arg {P:Program} {f:FuncId} {v v':V} {vs:List V} {r:V} (hv:∀ I w x,VR (fun _=>none) I w v x→VR (fun _=>none) I w v' x) (h:PC P f (v'::vs) r):PC P f (v::vs) r:=fun I w xs hI hxs=>
 h I w xs hI ⟨hxs.len,fun k u x hu hx=>by
  match k,hu with
  |0,hu=>cases hu;exact hv I w x (hxs.at_ 0 v x rfl hx)
  |k+1,hu=>exact hxs.at_ (k+1) u x hu hx⟩
theorem PC_nilA {P:Program} {f:FuncId} {a:V} {vs:List V} {r:V} (h:PC P f (.agg [a,.lst 1 []]::vs) r):PC P f (.agg [a,.prim (.slice none 0 0)]::vs) r:=PC_arg (fun _ _ _ h=>VR_anil h) h
theorem PC_nilR {P:Program} {f:FuncId} {us:List V} {a e:V} (h:PC P f us (.tup [.agg [a,.prim (.slice none 0 0)],e])):PC P f us (.tup [.agg [a,.lst 1 []],e]):=by
 intro I w xs hI hxs
 obtain ⟨h1,h2⟩:=h I w xs hI hxs
 refine ⟨h1,h2.mono ?_⟩
 rintro e w' ⟨x,h3,h4,h5⟩
 refine ⟨x,h3,?_,h5⟩
 cases h4 with
 |tup h1 hx=>
  refine .tup h1 fun k v x hv hxk=> ?_
  match k,hv with
  |0,hv=>cases hv;exact VR_anil (hx 0 _ x rfl hxk)
  |1,hv=>exact hx 1 v x hv hxk
  |k+2,hv=>simp at hv
theorem viewLL_hcel (H:Hp) (n:Nat):∀ S:List (List Pt),view.viewLL H (n+1) (S.map hcel)=some (S.map hcel)
 |[]=>by simp [view.viewLL]
 |a::S=>by
  have ih:=viewLL_hcel H n S
  have e:view.viewL H (n+1) (hcel a)=some (hcel a):=by simp [view.viewL,view,hcel,psV]
  simp only [List.map_cons]
  unfold view.viewLL
  rw [ih,e]
structure Can (l:List Pt):Prop where
 lo:3≤l.length
 hi:l.length≤64
 ht:hl l (2^16)
 kp:keepAll l
 cx:crossB l=false
theorem startL_length {m:List Pt} (h:0<m.length):(startL m).length=m.length:=rotL_length (Nat.le_of_lt (leastTo_in h))
theorem canonL_length {l:List Pt} (h:0<l.length):(canonL l).length=l.length:=by
 unfold canonL
 split
 ·rw [startL_length (by rw [List.length_reverse];exact h),List.length_reverse]
 ·exact startL_length h
theorem startL_mem {m:List Pt} {p:Pt} (h:p∈startL m):p∈m:=by
 rcases List.mem_append.1 h with h|h
 ·exact List.mem_of_mem_drop h
 ·exact List.mem_of_mem_take h
theorem canonL_mem {l:List Pt} {p:Pt} (h:p∈canonL l):p∈l:=by
 unfold canonL at h
 split at h
 ·exact List.mem_reverse.1 (startL_mem h)
 ·exact startL_mem h
theorem Can.okH {Hs:List (List Pt)} (h:∀ l∈Hs,Can l):okH (Hs.map canonL):=by
 intro i hi
 rw [List.length_map] at hi
 have e:(Hs.map canonL).getD i []=canonL (Hs.getD i []):=by
  rw [List.getD_eq_getElem?_getD,List.getElem?_map,List.getD_eq_getElem?_getD,List.getElem?_eq_getElem hi];rfl
 have hc:Can (Hs.getD i []):=by
  rw [List.getD_eq_getElem?_getD,List.getElem?_eq_getElem hi];exact h _ (List.getElem_mem hi)
 have hl0:=hc.lo
 have hn:=canonL_length (l:=Hs.getD i []) (by omega)
 have hh:=hc.hi
 rw [e]
 refine ⟨fun h0=>by rw [h0] at hn;simp only [List.length_nil] at hn;omega,by omega,fun p hp=>Nat.le_trans (hc.ht p (canonL_mem hp)) (by omega)⟩
def NilTo (i:Nat) (v:V):Prop:=i≤1→v= .prim (.slice none 0 0)
theorem Can.get {L:List Pt} {Hs:List (List Pt)} (h:∀ l∈L::Hs,Can l) {i:Nat} (hi:i≤Hs.length):Can ((L::Hs).getD i []):=by
 rw [List.getD_eq_getElem?_getD,List.getElem?_eq_getElem (by simp only [List.length_cons];omega)]
 exact h _ (List.getElem_mem _)
end Go.Av
