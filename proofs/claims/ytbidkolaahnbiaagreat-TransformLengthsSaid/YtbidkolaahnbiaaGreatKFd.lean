/- Helping texts: Fd, Fe, Fg. -/
import Derived.Test.YtbidkolaahnbiaaGreatKFa
import Derived.Test.YtbidkolaahnbiaaGreatKDq
set_option linter.unusedSimpArgs false
set_option linter.unusedVariables false
set_option maxRecDepth 100000
set_option maxHeartbeats 16000000
namespace Go.Av
open Go.RowKit
open Go.Proofs.Tryz (prog)
theorem leastTo_in {L:List Pt} (h:0<L.length):leastTo L L.length<L.length:=leastTo_lt h
theorem concat_rot {m:List Pt} {b k n:Nat} (hmn:m.length=n) (hk:k≤n) (hpos:0<n) (hn:n≤2^30) {c:Nat} {f1 f2 fx:Bool} {c1 c2:Nat} {H:Hp} {K:V→Hp→Prop} (hb:get H b=some (.row 6 true (m.map pc)))
 (hc:get H c=some (.row 1 true [[.sref b k (n-k) c1 6 f1],[.sref b 0 k c2 6 f2]])) (hK:NewL H (rotL m k) K):
 SC prog 166 [.sref c 0 2 2 1 fx] H K:=by
 have hml:(m.map pc).length=m.length:=List.length_map ..
 subst hmn
 refine concat_sc (m.drop k) (m.take k) (by simp only [List.length_drop,List.length_take];omega) (by simp only [List.length_drop,List.length_take];omega) hc ?_ ?_ ?_ ?_ hK
 ·simp only [elemsOf,hb,hml]
  rw [if_pos ⟨trivial,by omega⟩,List.map_drop,List.take_of_length_le (by rw [List.length_drop,hml];exact Nat.le_refl _)]
 ·simp only [lenV,List.length_drop]
 ·simp only [elemsOf,hb,hml]
  rw [if_pos ⟨trivial,by omega⟩,List.map_take,List.drop_zero]
 ·simp only [lenV,List.length_take];rw [Nat.min_eq_left hk]
theorem Rcanon_pc (l:List Pt) (h3:3≤l.length) (hn:l.length≤64) (hL:hl l (2^16)) (hk:keepAll l) (hx:crossB l=false):PC prog 156 [psV l] (.tup [psV (canonL l),.prim (.int .i64 (0))]):=by
 have hne:l≠[]:=by intro e;rw [e] at h3;simp at h3
 have c:=canonical_pc (l.map Pt.rp) (by rw [List.length_map];omega) (rp_le (fun p hp=>Nat.le_trans (hL p hp) (by omega)))
 rw [allOk_rp,←psV_rps] at c
 have x:=crossing_pc l (by omega) hne (fun p hp=>Nat.le_trans (hL p hp) (by omega))
 rw [hx] at x
 have a:=Area_pc l (by omega) hL
 have hta:ht (areaL l)≤2^30:=by
  have h1:=ht_areaTo hL l.length (Nat.le_refl _)
  have h2:=ht_div (areaTo l l.length) 2
  have h3:=ht_two
  have h4:l.length*(4*2^16+2)≤64*(4*2^16+2):=Nat.mul_le_mul_right _ hn
  unfold areaL
  omega
 have s:=signQ_pc (areaL l) (by omega)
 refine PCi ?_
 conv in trip _ _=>cbv
 simp only [runT,RN,simprocAttr]
 simp (disch:=omega) only [↓RS,RZ,simprocAttr,psV,pc_length]
 refine cX c ?_
 simp (disch:=omega) only [↓RS,RZ,simprocAttr,psV,pc_length]
 refine call_sc (simplify_sc l h3 hn (fun p hp=>Nat.le_trans (hL p hp) (by omega)) hk ?_)
 intro b H1 hE hb hg
 have hlen:(l.map pc).length=l.length:=List.length_map ..
 have htk:(l.map pc).take l.length=l.map pc:=by rw [List.take_of_length_le (by omega)]
 have hvl:= @viewLL_prims H1 7 _ (pc_prims l)
 simp (disch:=omega) only [↓RS,RZ,simprocAttr,hg,htk,hvl]
 refine cX x ?_
 simp (disch:=omega) only [↓RS,RZ,simprocAttr,hg,htk,hvl]
 refine cX a ?_
 simp (disch:=omega) only [↓RS,RZ,simprocAttr,qV,rV]
 refine cX s ?_
 have hsg:cmpQ (areaL l) 0<0↔areaL l<0:=by
  rw [←Rat.not_le,←cmpQ_nonneg];omega
 by_cases ha:areaL l<0
 ·have hcm:=hsg.2 ha
  simp (disch:=omega) only [↓RS,RZ,simprocAttr,hcm]
  refine call_sc (reverse_sc l hne (by omega) hg ?_)
  have hg2:get (H1.set b (some (.row 6 true (l.reverse.map pc)))) b=some (.row 6 true (l.reverse.map pc)):=get_eq (get_lt_len hg)
  have hcan:canonL l=startL l.reverse:=by unfold canonL;rw [if_pos ha]
  have hml:l.reverse.length=l.length:=List.length_reverse
  have hmh:hl l.reverse (2^26):=fun p hp=>Nat.le_trans (hL p (List.mem_reverse.1 hp)) (by omega)
  generalize H1.set b _=H2 at hg2 ⊢
  rw [hcan]
  generalize l.reverse=m at*
  have htk2:(m.map pc).take l.length=m.map pc:=by rw [List.take_of_length_le (by rw [List.length_map];omega)]
  have hvl2:= @viewLL_prims H2 7 _ (pc_prims m)
  have i:=first_pc m (by omega) hmh
  have hlk:=leastTo_in (L:=m) (by omega)
  have hmm:(m.map pc).length=l.length:=by rw [List.length_map];exact hml
  have hst:startL m=rotL m (leastTo m m.length):=rfl
  rw [hst]
  generalize leastTo m m.length=k at*
  simp (disch:=omega) only [↓RS,RZ,simprocAttr,hg2,htk2,hvl2,hmm]
  refine cX i ?_
  simp (disch:=omega) only [↓RS,RZ,simprocAttr,hmm,Nat.sub_zero]
  refine call_sc (concat_rot hml (by omega) (by omega) (by omega) (get_app hg2) get_app_len ?_)
  intro b3 H3 hE3 hb3 hg3
  have hrl:(rotL m k).length=l.length:=by rw [rotL_length (by omega),hml]
  have hr1:((rotL m k).map pc).length=l.length:=by rw [List.length_map];exact hrl
  have hr2:((rotL m k).map pc).take l.length=(rotL m k).map pc:=by rw [List.take_of_length_le (by omega)]
  have hr3:= @viewLL_prims H3 6 _ (pc_prims (rotL m k))
  rw [hrl]
  generalize rotL m k=R at*
  simp (disch:=omega) only [↓RS,RZ,simprocAttr,hg3,hr1,hr2,hr3]
 ·have hcm:¬cmpQ (areaL l) 0<0:=fun h=>ha (hsg.1 h)
  simp (disch:=omega) only [↓RS,RZ,simprocAttr,hcm]
  have hcan:canonL l=startL l:=by unfold canonL;rw [if_neg ha]
  rw [hcan]
  have hg2:=hg
  have hml:l.length=l.length:=rfl
  have hmh:hl l (2^26):=fun p hp=>Nat.le_trans (hL p hp) (by omega)
  have htk2:(l.map pc).take l.length=l.map pc:=by rw [List.take_of_length_le (by rw [List.length_map];omega)]
  have hvl2:= @viewLL_prims H1 7 _ (pc_prims l)
  have i:=first_pc l (by omega) hmh
  have hlk:=leastTo_in (L:=l) (by omega)
  have hmm:(l.map pc).length=l.length:=List.length_map ..
  have hst:startL l=rotL l (leastTo l l.length):=rfl
  rw [hst]
  generalize leastTo l l.length=k at*
  simp (disch:=omega) only [↓RS,RZ,simprocAttr,hg2,htk2,hvl2,hmm]
  refine cX i ?_
  simp (disch:=omega) only [↓RS,RZ,simprocAttr,hmm,Nat.sub_zero]
  refine call_sc (concat_rot hml (by omega) (by omega) (by omega) (get_app hg2) get_app_len ?_)
  intro b3 H3 hE3 hb3 hg3
  have hrl:(rotL l k).length=l.length:=by rw [rotL_length (by omega),hml]
  have hr1:((rotL l k).map pc).length=l.length:=by rw [List.length_map];exact hrl
  have hr2:((rotL l k).map pc).take l.length=(rotL l k).map pc:=by rw [List.take_of_length_le (by omega)]
  have hr3:= @viewLL_prims H3 6 _ (pc_prims (rotL l k))
  rw [hrl]
  generalize rotL l k=R at*
  simp (disch:=omega) only [↓RS,RZ,simprocAttr,hg3,hr1,hr2,hr3]
end Go.Av
namespace Go.Av
open Go.RowKit
open Go.Proofs.Tryz (prog)
def cmpH (a b:List Pt):Int:=cmpP (a.getD 0 default) (b.getD 0 default)
def hcel (a:List Pt):List V:=[psV a]
theorem cmpH_pc (a b:List Pt) (ha:a≠[]∧a.length≤2^20∧hl a (2^20)) (hb:b≠[]∧b.length≤2^20∧hl b (2^20)):PC prog 158 [psV a,psV b] (.prim (.int .i64 (cmpH a b))):=by
 have l1:=List.length_pos_iff.2 ha.1
 have l2:=List.length_pos_iff.2 hb.1
 have g1:=pc_getD l1
 have g2:=pc_getD l2
 have c:=vcmp_pc (a.getD 0 default) (b.getD 0 default) (Nat.le_trans (hl_get ha.2.2 l1) (by omega)) (Nat.le_trans (hl_get hb.2.2 l2) (by omega))
 refine PCi ?_
 conv in trip _ _=>cbv
 simp only [runT,RN,simprocAttr]
 simp (disch:=omega) only [↓RS,RZ,simprocAttr,psV,pc_length,g1,g2,pc]
 refine cX c ?_
 simp (disch:=omega) only [↓RS,RZ,simprocAttr]
 rfl
def swapH (l:List (List Pt)) (j:Nat):List (List Pt):=(l.set (j+1) (l.getD j [])).set j (l.getD (j+1) [])
def bubbleH (l:List (List Pt)):Nat→List (List Pt)
 |0=>l
 |j+1=>if cmpH (l.getD (j+1) []) (l.getD j [])<0 then bubbleH (swapH l j) j else l
def isortH (l:List (List Pt)):Nat→List (List Pt)
 |0=>l
 |i+1=>bubbleH (isortH l i) (i+1)
theorem swapH_length (l:List (List Pt)) (j:Nat):(swapH l j).length=l.length:=by simp [swapH]
theorem bubbleH_length:∀ (j:Nat) (l:List (List Pt)),(bubbleH l j).length=l.length
 |0,l=>rfl
 |j+1,l=>by unfold bubbleH;split;· rw [bubbleH_length j,swapH_length]
            rfl
theorem isortH_length (l:List (List Pt)):∀ i,(isortH l i).length=l.length
 |0=>rfl
 |i+1=>by rw [isortH,bubbleH_length,isortH_length l i]
def okH (l:List (List Pt)):Prop:=∀ i,i<l.length→l.getD i []≠[]∧(l.getD i []).length≤2^20∧hl (l.getD i []) (2^20)
theorem getD_setH {l:List (List Pt)} {i j:Nat} {x:List Pt} (hj:j<l.length):(l.set j x).getD i []=if i=j then x else l.getD i []:=by
 rw [List.getD_eq_getElem?_getD,List.getElem?_set,List.getD_eq_getElem?_getD]
 by_cases h:j=i
 ·subst h;simp [hj]
 ·rw [if_neg h,if_neg (fun e=>h e.symm)]
theorem okH_swap {l:List (List Pt)} {j:Nat} (h:okH l) (hj:j+1<l.length):okH (swapH l j):=by
 intro i hi
 rw [swapH_length] at hi
 unfold swapH
 rw [getD_setH (by rw [List.length_set];omega),getD_setH hj]
 split
 ·exact h _ hj
 ·split
  ·exact h _ (by omega)
  ·exact h _ hi
theorem okH_bubble:∀ (j:Nat) (l:List (List Pt)),okH l→j<l.length→okH (bubbleH l j)
 |0,l,h,_=>h
 |j+1,l,h,hj=>by
  unfold bubbleH;split
  ·exact okH_bubble j _ (okH_swap h hj) (by rw [swapH_length];omega)
  ·exact h
theorem okH_isort {l:List (List Pt)} (h:okH l):∀ i,i<l.length→okH (isortH l i)
 |0,_=>h
 |i+1,hi=>okH_bubble _ _ (okH_isort h i (by omega)) (by rw [isortH_length];exact hi)
theorem hc_get {l:List (List Pt)} {i:Nat} (h:i<l.length):(l.map hcel)[i]? =some (hcel (l.getD i [])):=by
 rw [List.getElem?_map,List.getD_eq_getElem?_getD,List.getElem?_eq_getElem h];rfl
theorem hc_swap {l:List (List Pt)} {j:Nat} (hj:j+1<l.length):((l.map hcel).set (j+1) (hcel (l.getD j []))).set j (hcel (l.getD (j+1) []))=(swapH l j).map hcel:=by
 unfold swapH;rw [List.map_set,List.map_set]
theorem isortH_sc (l:List (List Pt)) (hn:l.length≤2^20) (h2:1≤l.length) (hl0:okH l) {b:Nat} {fx:Bool} {H:Hp} {K:V→Hp→Prop} (hb:get H b=some (.row 1 true (l.map hcel)))
 (hK:K (.tup []) (H.set b (some (.row 1 true ((isortH l (l.length-1)).map hcel))))):
 SC prog 280 [.sref b 0 l.length l.length 1 fx,.prim (.int .i64 ((0:Nat):Int)),.prim (.int .i64 ((l.length:Nat):Int)),.clo 158 [] []] H K:=by
 have hbl:=get_lt_len hb
 have s1:∀ x,get (H.set b x) b=x:=fun x=>get_eq hbl
 refine SCi ?_
 conv in trip _ _=>cbv
 simp only [runT,RN,simprocAttr]
 simp (disch:=omega) only [↓RS,RZ,simprocAttr]
 refine wp_lp (fun (i:Nat) J=>ov [(0,.sref b 0 l.length l.length 1 fx),(1,.prim (.int .i64 ((0:Nat):Int))),(2,.prim (.int .i64 ((l.length:Nat):Int))),(3,.clo 158 [] []),(8,.prim (.int .i64 ((i:Nat):Int)))] J 0 53) (fun i H'=>(1≤i∧i≤l.length)∧H'=H.set b (some (.row 1 true ((isortH l (i-1)).map hcel)))) (fun i=>l.length-i) 1 rfl ⟨⟨Nat.le_refl _,h2⟩,(set_self hb).symm⟩ ?_
 rintro i J _ ⟨⟨hi1,hi⟩,rfl⟩
 try conv in ov _ _ _ _=>simp only [ov,List.lookup,RO,simprocAttr]
 rcases Nat.lt_or_ge i l.length with hlt|hge
 ·simp (disch:=omega) only [↓RS,RZ,simprocAttr]
  refine wp_lp (fun (j:Nat) J=>ov [(0,.sref b 0 l.length l.length 1 fx),(1,.prim (.int .i64 ((0:Nat):Int))),(2,.prim (.int .i64 ((l.length:Nat):Int))),(3,.clo 158 [] []),(8,.prim (.int .i64 ((i:Nat):Int))),(9,.prim (.int .i64 ((j:Nat):Int)))] J 0 53)
   (fun j H'=>∃ m:List (List Pt),(m.length=l.length∧okH m∧j≤i∧bubbleH m j=bubbleH (isortH l (i-1)) i)∧H'=H.set b (some (.row 1 true (m.map hcel)))) (fun j=>j) i rfl ⟨isortH l (i-1),⟨isortH_length l _,okH_isort hl0 _ (by omega),Nat.le_refl _,rfl⟩,rfl⟩ ?_
  rintro j J _ ⟨m,⟨hml,hmq,hji,hm⟩,rfl⟩
  try conv in ov _ _ _ _=>simp only [ov,List.lookup,RO,simprocAttr]
  have fin:isortH l (i+1-1)=bubbleH m j:=by
   rw [hm,Nat.add_sub_cancel]
   obtain ⟨i,rfl⟩:∃ k,i=k+1:=⟨i-1,by omega⟩
   rfl
  rcases j with _|k
  ·simp (disch:=omega) only [↓RS,RZ,simprocAttr]
   exact lp_next (i+1) rfl ⟨⟨by omega,hlt⟩,by rw [fin];rfl⟩ (by omega)
  ·have g1:=hc_get (l:=m) (i:=k) (by omega)
   have g2:=hc_get (l:=m) (i:=k+1) (by omega)
   have c:=cmpH_pc (m.getD (k+1) []) (m.getD k []) (hmq _ (by omega)) (hmq _ (by omega))
   simp (disch:=omega) only [↓RS,RZ,simprocAttr,s1,g1,g2,hcel,psV,Nat.add_sub_cancel,Nat.zero_add]
   refine cX c ?_
   by_cases hc:cmpH (m.getD (k+1) []) (m.getD k [])<0
   ·have s2:∀ x y,(H.set b x).set b y=H.set b y:=fun x y=>List.set_set ..
    have g3:∀ x,((m.map hcel).set (k+1) x)[k]? =some (hcel (m.getD k [])):=fun x=>by rw [List.getElem?_set_ne (by omega)];exact g1
    simp (disch:=omega) only [↓RS,RZ,simprocAttr,s1,s2,g1,g2,g3,hcel,psV,Nat.add_sub_cancel,Nat.zero_add]
    refine lp_next k rfl ⟨swapH m k,⟨by rw [swapH_length];exact hml,okH_swap hmq (by omega),by omega,?_⟩,?_⟩ (Nat.lt_succ_self k)
    ·rw [←hm]
     conv=>rhs;unfold bubbleH
     rw [if_pos hc]
    ·rw [←hc_swap (by omega)];rfl
   ·simp (disch:=omega) only [↓RS,RZ,simprocAttr]
    refine lp_next (i+1) rfl ⟨⟨by omega,hlt⟩,?_⟩ (by omega)
    rw [fin]
    unfold bubbleH
    rw [if_neg hc]
 ·have hia:i=l.length:=by omega
  subst hia
  simp (disch:=omega) only [↓RS,RZ,simprocAttr]
  exact hK
theorem stableC_sc (l:List (List Pt)) (hn:l.length≤12) (h2:1≤l.length) (hl0:okH l) {b:Nat} {fx:Bool} {H:Hp} {K:V→Hp→Prop} (hb:get H b=some (.row 1 true (l.map hcel)))
 (hK:K (.tup []) (H.set b (some (.row 1 true ((isortH l (l.length-1)).map hcel))))):
 SC prog 226 [.sref b 0 l.length l.length 1 fx,.prim (.int .i64 ((l.length:Nat):Int)),.clo 158 [] []] H K:=by
 refine SCi ?_
 conv in trip _ _=>cbv
 simp only [runT,RN,simprocAttr]
 simp (disch:=omega) only [↓RS,RZ,simprocAttr]
 refine wp_iter 1 ?_
 simp (disch:=omega) only [↓RS,RZ,simprocAttr,iterL_s,itQ_normal,itQ_exit,itQ_ret,Int.sub_zero]
 refine call_sc (isortH_sc l (by omega) h2 hl0 hb ?_)
 simp (disch:=omega) only [↓RS,RZ,simprocAttr]
 refine wp_iter 1 ?_
 simp (disch:=omega) only [↓RS,RZ,simprocAttr,iterL_s,itQ_normal,itQ_exit,itQ_ret,Int.sub_zero]
 exact hK
theorem stable_sc (l:List (List Pt)) (hn:l.length≤12) (h2:1≤l.length) (hl0:okH l) {b:Nat} {fx:Bool} {H:Hp} {K:V→Hp→Prop} (hb:get H b=some (.row 1 true (l.map hcel)))
 (hK:K (.tup []) (H.set b (some (.row 1 true ((isortH l (l.length-1)).map hcel))))):
 SC prog 157 [.sref b 0 l.length l.length 1 fx,.clo 158 [] []] H K:=by
 refine SCi ?_
 conv in trip _ _=>cbv
 simp only [runT,RN,simprocAttr]
 simp (disch:=omega) only [↓RS,RZ,simprocAttr]
 refine call_sc (stableC_sc l hn h2 hl0 hb ?_)
 simp (disch:=omega) only [↓RS,RZ,simprocAttr]
 exact hK
theorem isort0_sc {H:Hp} {K:V→Hp→Prop} (hK:K (.tup []) H):
 SC prog 280 [.prim (.slice none 0 0),.prim (.int .i64 ((0:Nat):Int)),.prim (.int .i64 ((0:Nat):Int)),.clo 158 [] []] H K:=by
 refine SCi ?_
 conv in trip _ _=>cbv
 simp only [runT,RN,simprocAttr]
 simp (disch:=omega) only [↓RS,RZ,simprocAttr]
 refine wp_iter 1 ?_
 simp (disch:=omega) only [↓RS,RZ,simprocAttr,iterL_s,itQ_normal,itQ_exit,itQ_ret,Int.sub_zero]
 exact hK
theorem stableC0_sc {H:Hp} {K:V→Hp→Prop} (hK:K (.tup []) H):
 SC prog 226 [.prim (.slice none 0 0),.prim (.int .i64 ((0:Nat):Int)),.clo 158 [] []] H K:=by
 refine SCi ?_
 conv in trip _ _=>cbv
 simp only [runT,RN,simprocAttr]
 simp (disch:=omega) only [↓RS,RZ,simprocAttr]
 refine wp_iter 1 ?_
 simp (disch:=omega) only [↓RS,RZ,simprocAttr,iterL_s,itQ_normal,itQ_exit,itQ_ret,Int.sub_zero]
 refine call_sc (isort0_sc ?_)
 simp (disch:=omega) only [↓RS,RZ,simprocAttr]
 refine wp_iter 1 ?_
 simp (disch:=omega) only [↓RS,RZ,simprocAttr,iterL_s,itQ_normal,itQ_exit,itQ_ret,Int.sub_zero]
 exact hK
theorem stable0_sc {H:Hp} {K:V→Hp→Prop} (hK:K (.tup []) H):
 SC prog 157 [.prim (.slice none 0 0),.clo 158 [] []] H K:=by
 refine SCi ?_
 conv in trip _ _=>cbv
 simp only [runT,RN,simprocAttr]
 simp (disch:=omega) only [↓RS,RZ,simprocAttr]
 refine call_sc (stableC0_sc ?_)
 simp (disch:=omega) only [↓RS,RZ,simprocAttr]
 exact hK
end Go.Av
open Nat (reduceAdd reduceLT reduceLeDiff reducePow reduceDiv reduceMod reduceEqDiff)
namespace Go.Av
open Go.RowKit
open Go.Proofs.Tryz (prog)
theorem VR_nil {φ:Nat→Option Loc} {I:Nat→Prop} {w:World} {x:Value} (h:VR φ I w (.prim (.slice none 0 0)) x):VR φ I w (.lst 1 []) x:=by cases h;exact .lnil
theorem VR_anil {φ:Nat→Option Loc} {I:Nat→Prop} {w:World} {a:V} {x:Value} (h:VR φ I w (.agg [a,.prim (.slice none 0 0)]) x):VR φ I w (.agg [a,.lst 1 []]) x:=by
 cases h with
 |agg h1 hx=>
  refine .agg h1 fun k v x hv hxk=> ?_
  match k,hv with
  |0,hv=>exact hx 0 v x hv hxk
  |1,hv=>cases hv;exact VR_nil (hx 1 _ x rfl hxk)
  |k+2,hv=>simp at hv
theorem PC_arg {P:Program} {f:FuncId} {v v':V} {vs:List V} {r:V} (hv:∀ I w x,VR (fun _=>none) I w v x→VR (fun _=>none) I w v' x) (h:PC P f (v'::vs) r):PC P f (v::vs) r:=fun I w xs hI hxs=>
 h I w xs hI ⟨hxs.len,fun k u x hu hx=>by
  match k,hu with
  |0,hu=>cases hu;exact hv I w x (hxs.at_ 0 v x rfl hx)
  |k+1,hu=>exact hxs.at_ (k+1) u x hu hx⟩
theorem PC_nilA {P:Program} {f:FuncId} {a:V} {vs:List V} {r:V} (h:PC P f (.agg [a,.lst 1 []]::vs) r):PC P f (.agg [a,.prim (.slice none 0 0)]::vs) r:=PC_arg (fun _ _ _ h=>VR_anil h) h
theorem PC_nilR {P:Program} {f:FuncId} {us:List V} {a e:V} (h:PC P f us (.tup [.agg [a,.prim (.slice none 0 0)],e])):PC P f us (.tup [.agg [a,.lst 1 []],e]):=by
 intro I w xs hI hxs
 obtain ⟨h1,h2⟩:=h I w xs hI hxs
 refine ⟨h1,h2.mono ?_⟩
 rintro e w' ⟨x,h3,h4,h5⟩
 refine ⟨x,h3,?_,h5⟩
 cases h4 with
 |tup h1 hx=>
  refine .tup h1 fun k v x hv hxk=> ?_
  match k,hv with
  |0,hv=>cases hv;exact VR_anil (hx 0 _ x rfl hxk)
  |1,hv=>exact hx 1 v x hv hxk
  |k+2,hv=>simp at hv
theorem viewLL_hcel (H:Hp) (n:Nat):∀ S:List (List Pt),view.viewLL H (n+1) (S.map hcel)=some (S.map hcel)
 |[]=>by simp [view.viewLL]
 |a::S=>by
  have ih:=viewLL_hcel H n S
  have e:view.viewL H (n+1) (hcel a)=some (hcel a):=by simp [view.viewL,view,hcel,psV]
  simp only [List.map_cons]
  unfold view.viewLL
  rw [ih,e]
structure Can (l:List Pt):Prop where
 lo:3≤l.length
 hi:l.length≤64
 ht:hl l (2^16)
 kp:keepAll l
 cx:crossB l=false
theorem startL_length {m:List Pt} (h:0<m.length):(startL m).length=m.length:=rotL_length (Nat.le_of_lt (leastTo_in h))
theorem canonL_length {l:List Pt} (h:0<l.length):(canonL l).length=l.length:=by
 unfold canonL
 split
 ·rw [startL_length (by rw [List.length_reverse];exact h),List.length_reverse]
 ·exact startL_length h
theorem startL_mem {m:List Pt} {p:Pt} (h:p∈startL m):p∈m:=by
 rcases List.mem_append.1 h with h|h
 ·exact List.mem_of_mem_drop h
 ·exact List.mem_of_mem_take h
theorem canonL_mem {l:List Pt} {p:Pt} (h:p∈canonL l):p∈l:=by
 unfold canonL at h
 split at h
 ·exact List.mem_reverse.1 (startL_mem h)
 ·exact startL_mem h
theorem Can.okH {Hs:List (List Pt)} (h:∀ l∈Hs,Can l):okH (Hs.map canonL):=by
 intro i hi
 rw [List.length_map] at hi
 have e:(Hs.map canonL).getD i []=canonL (Hs.getD i []):=by
  rw [List.getD_eq_getElem?_getD,List.getElem?_map,List.getD_eq_getElem?_getD,List.getElem?_eq_getElem hi];rfl
 have hc:Can (Hs.getD i []):=by
  rw [List.getD_eq_getElem?_getD,List.getElem?_eq_getElem hi];exact h _ (List.getElem_mem hi)
 have hl0:=hc.lo
 have hn:=canonL_length (l:=Hs.getD i []) (by omega)
 have hh:=hc.hi
 rw [e]
 refine ⟨fun h0=>by rw [h0] at hn;simp only [List.length_nil] at hn;omega,by omega,fun p hp=>Nat.le_trans (hc.ht p (canonL_mem hp)) (by omega)⟩
def NilTo (i:Nat) (v:V):Prop:=i≤1→v= .prim (.slice none 0 0)
def outV (L:List Pt):Nat→V
 |0=> .prim (.slice none 0 0)
 |_+1=>psV (canonL L)
theorem Can.get {L:List Pt} {Hs:List (List Pt)} (h:∀ l∈L::Hs,Can l) {i:Nat} (hi:i≤Hs.length):Can ((L::Hs).getD i []):=by
 rw [List.getD_eq_getElem?_getD,List.getElem?_eq_getElem (by simp only [List.length_cons];omega)]
 exact h _ (List.getElem_mem _)
theorem PCanonQ_pc (L:List Pt) (Hs:List (List Pt)) (few:Hs.length≤8) (hC:∀ l∈L::Hs,Can l) (S:List (List Pt)) (hS:isortH (Hs.map canonL) (Hs.length-1)=S)
 (hck:PC prog 74 [cgV (canonL L) S] (.prim (.int .i64 (0)))) (u:V) (hu:u=if Hs=[] then .prim (.slice none 0 0) else .lst 1 (S.map hcel)):
 PC prog 72 [cgV L Hs] (.tup [.agg [psV (canonL L),u],.prim (.int .i64 (0))]):=by
 refine PCi ?_
 conv in trip _ _=>cbv
 simp only [runT,RN,Nat.reduceAdd,Nat.reduceSub]
 simp (disch:=omega) only [↓RS,RZ,reduceCtorEq,reduceAdd,reduceLT,reduceLeDiff,List.reduceReplicate,reducePow,reduceDiv,reduceMod,reduceEqDiff,Nat.reduceBEq,cgV]
 refine call_sc (rings_sc (psV L) (Hs.map psV) ?_)
 simp (disch:=omega) only [↓RS,RZ,reduceCtorEq,reduceAdd,reduceLT,reduceLeDiff,List.reduceReplicate,reducePow,reduceDiv,reduceMod,reduceEqDiff,Nat.reduceBEq]
 refine wp_rf mixed (n:=5) (k:=2) rfl rfl rfl (by kernel_rfl) ?_
 conv in lcC _=>cbv
 conv in lcC _=>cbv
 intro R B D hR hyc
 simp only [List.nil_append,List.cons_append] at hyc ⊢
 refine rings1_sc (psV L) (Hs.map psV) (by rw [List.length_map];omega) (fun i H=>∃ v,NilTo i v∧get H 1=some (.row 2 true [[.prim (.slice none 0 0),.prim (.slice none 0 0)]])∧get H 2=some (.row 1 true [[.prim (.int .i64 (0))]])∧get H 3=some (.row 2 true [[outV L i,v]])∧get H 4=some (.row 2 true [[psV L,.lst 1 ((Hs.map psV).map fun v=>[v])]])∧get H 5=some R∧Bufn 6 H v 1 (((Hs.take (i-1)).map canonL).map hcel)) (fun _=>False) ?_ ?_ ?_ ?_ ?_
 ·rintro i H ⟨v,h⟩;exact h.2.2.2.2.1
 ·rintro i H hlt ⟨v,hv,h1,h2,h3,h4,h5,h6⟩
  rw [List.length_map] at hlt
  rw [ring_val hlt]
  have hr:=Can.get hC hlt
  refine hyc _ _ _ rfl h5 ?_
  clear hyc
  simp (disch:=omega) only [↓RS,RZ,reduceCtorEq,reduceAdd,reduceLT,reduceLeDiff,List.reduceReplicate,reducePow,reduceDiv,reduceMod,reduceEqDiff,Nat.reduceBEq,yieldT_cons,yieldT_nil,psV]
  rw [bgQ_normal]
  refine ⟨h5,?_⟩
  have hN:=h6.1
  have q1:get (H.set 5 (some B)) 1=some (.row 2 true [[.prim (.slice none 0 0),.prim (.slice none 0 0)]]):=by rw [get_ne (by omega)];exact h1
  have q2:get (H.set 5 (some B)) 2=some (.row 1 true [[.prim (.int .i64 (0))]]):=by rw [get_ne (by omega)];exact h2
  have q3:get (H.set 5 (some B)) 3=some (.row 2 true [[outV L i,v]]):=by rw [get_ne (by omega)];exact h3
  have q4:get (H.set 5 (some B)) 4=some (.row 2 true [[psV L,.lst 1 ((Hs.map psV).map fun v=>[v])]]):=by rw [get_ne (by omega)];exact h4
  have q5:get (H.set 5 (some B)) 5=some B:=get_eq (by omega)
  have q6:=h6.set (c:=5) (x:=some B) (by omega)
  have hN1:6≤(H.set 5 (some B)).length:=by rw [List.length_set];exact hN
  generalize H.set 5 (some B)=H1 at q1 q2 q3 q4 q5 q6 hN1 ⊢
  have cc:=Rcanon_pc ((L::Hs).getD i []) hr.lo hr.hi hr.ht hr.kp hr.cx
  simp (disch:=omega) only [↓RS,RZ,reduceCtorEq,reduceAdd,reduceLT,reduceLeDiff,List.reduceReplicate,reducePow,reduceDiv,reduceMod,reduceEqDiff,Nat.reduceBEq]
  refine cX cc ?_
  have c1:=q6.one
  have c2:=q6.cel
  rcases i with _|i
  ·simp only [outV,List.getD_cons_zero] at*
   simp (disch:=omega) only [↓RS,RZ,reduceCtorEq,reduceAdd,reduceLT,reduceLeDiff,List.reduceReplicate,reducePow,reduceDiv,reduceMod,reduceEqDiff,Nat.reduceBEq,q3,psV,c1,c2]
   rw [rdQ_normal]
   refine ⟨by rw [get_ne (by omega)];exact q5,.inl ⟨rfl,v,fun _=>hv (Nat.zero_le _),?_,?_,?_,?_,?_,?_⟩⟩
   ·rw [get_ne (by omega),get_ne (by omega)];exact q1
   ·rw [get_ne (by omega),get_ne (by omega)];exact q2
   ·rw [get_ne (by omega),get_eq (by omega)]
   ·rw [get_ne (by omega),get_ne (by omega)];exact q4
   ·rw [get_eq (by rw [List.length_set];omega)]
   ·exact (q6.set (by omega)).set (by omega)
  ·have q3:get H1 3=some (.row 2 true [[.lst 6 ((canonL L).map pc),v]]):=q3
   simp only [List.getD_cons_succ]
   have hi':i<Hs.length:=hlt
   simp (disch:=omega) only [↓RS,RZ,reduceCtorEq,reduceAdd,reduceLT,reduceLeDiff,List.reduceReplicate,reducePow,reduceDiv,reduceMod,reduceEqDiff,Nat.reduceBEq,q3,psV,c1,c2]
   refine Bufn.append (q6.app _) (by simp [cellV]) (by simp only [List.length_cons,List.length_nil,List.length_map,List.length_take];omega) (by simp only [List.length_cons,List.length_nil,List.length_map,List.length_take];omega) ?_
   intro v' H2 hb hk
   have r1:=hk 1 _ (by omega) (get_app q1)
   have r2:=hk 2 _ (by omega) (get_app q2)
   have r3:=hk 3 _ (by omega) (get_app q3)
   have r4:=hk 4 _ (by omega) (get_app q4)
   have r5:=hk 5 _ (by omega) (get_app q5)
   have c1:=hb.one
   have c2:=hb.cel
   simp (disch:=omega) only [↓RS,RZ,reduceCtorEq,reduceAdd,reduceLT,reduceLeDiff,List.reduceReplicate,reducePow,reduceDiv,reduceMod,reduceEqDiff,Nat.reduceBEq,r3,c1,c2]
   rw [rdQ_normal]
   have hl3:=hb.1
   refine ⟨by rw [get_ne (by omega)];exact r5,.inl ⟨rfl,v',fun h=>absurd h (by omega),?_,?_,?_,?_,?_,?_⟩⟩
   ·rw [get_ne (by omega),get_ne (by omega)];exact r1
   ·rw [get_ne (by omega),get_ne (by omega)];exact r2
   ·rw [get_ne (by omega),get_eq (by omega)];rfl
   ·rw [get_ne (by omega),get_ne (by omega)];exact r4
   ·rw [get_eq (by rw [List.length_set];omega)]
   ·have e:((Hs.take (i+1+1-1)).map canonL).map hcel=((Hs.take (i+1-1)).map canonL).map hcel++[[.lst 6 ((canonL (Hs.getD i [])).map pc)]]:=by
     rw [show i+1+1-1=i+1 by omega,show i+1-1=i by omega,List.take_add_one,List.getElem?_eq_getElem hi',List.map_append,List.map_append,List.getD_eq_getElem?_getD,List.getElem?_eq_getElem hi'];rfl
    rw [e]
    exact (hb.set (by omega)).set (by omega)
 ·exact ⟨_,fun _=>rfl,rfl,rfl,rfl,rfl,rfl,.nil (by simp)⟩
 ·rintro w H ⟨v,hv,h1,h2,h3,h4,h5,h6⟩
  refine .inl ⟨h5,?_⟩
  rw [List.length_map,Nat.add_sub_cancel,List.take_length] at h6
  have hN:=h6.1
  have q1:get (H.set 5 none) 1=some (.row 2 true [[.prim (.slice none 0 0),.prim (.slice none 0 0)]]):=by rw [get_ne (by omega)];exact h1
  have q2:get (H.set 5 none) 2=some (.row 1 true [[.prim (.int .i64 (0))]]):=by rw [get_ne (by omega)];exact h2
  have q3:get (H.set 5 none) 3=some (.row 2 true [[.lst 6 ((canonL L).map pc),v]]):=by rw [get_ne (by omega)];exact h3
  have q6:=h6.set (c:=5) (x:=none) (by omega)
  generalize H.set 5 none=H1 at q1 q2 q3 q6 ⊢
  have hN1:=q6.1
  clear h1 h2 h3 h4 h5 h6 hyc
  by_cases hz:Hs=[]
  ·subst hz
   have hv:=hv (Nat.le_refl _)
   subst hv
   rw [if_pos rfl] at hu
   have hS0:S=[]:=by rw [←hS];rfl
   rw [hS0] at hck
   have ck:PC prog 74 [.agg [psV (canonL L),.prim (.slice none 0 0)]] (.prim (.int .i64 (0))):=PC_nilA hck
   subst hu
   simp (disch:=omega) only [↓RS,RZ,reduceCtorEq,reduceAdd,reduceLT,reduceLeDiff,List.reduceReplicate,reducePow,reduceDiv,reduceMod,reduceEqDiff,Nat.reduceBEq,q3]
   refine call_sc (stable0_sc ?_)
   simp (disch:=omega) only [↓RS,RZ,reduceCtorEq,reduceAdd,reduceLT,reduceLeDiff,List.reduceReplicate,reducePow,reduceDiv,reduceMod,reduceEqDiff,Nat.reduceBEq,q3]
   refine cX ck ?_
   have s1:∀ x,get (H1.set 1 x) 2=some (.row 1 true [[.prim (.int .i64 (0))]]):=fun x=>by rw [get_ne (by omega)];exact q2
   have s2:∀ x y,get ((H1.set 1 x).set 2 y) 1=x:=fun x y=>by rw [get_ne (by omega),get_eq (by omega)]
   have s3:∀ x y,get ((H1.set 1 x).set 2 y) 2=y:=fun x y=>by rw [get_eq (by rw [List.length_set];omega)]
   simp (disch:=omega) only [↓RS,RZ,reduceCtorEq,reduceAdd,reduceLT,reduceLeDiff,List.reduceReplicate,reducePow,reduceDiv,reduceMod,reduceEqDiff,Nat.reduceBEq,q1,q2,q3,s1,s2,s3,psV]
  ·rw [if_neg hz] at hu
   have hpos:0<Hs.length:=List.length_pos_iff.2 hz
   obtain ⟨b,hb,rfl,hg⟩:=q6.cases (by simpa using hz)
   have hml:(Hs.map canonL).length=Hs.length:=List.length_map ..
   have hml2:((Hs.map canonL).map hcel).length=Hs.length:=by rw [List.length_map];exact hml
   have so:= @stable_sc (Hs.map canonL) (by omega) (by omega) (Can.okH fun l hl=>hC l (List.mem_cons_of_mem _ hl)) b false H1
   rw [hml,hS] at so
   rw [hml2] at q3
   have hbl:=get_lt_len hg
   simp (disch:=omega) only [↓RS,RZ,reduceCtorEq,reduceAdd,reduceLT,reduceLeDiff,List.reduceReplicate,reducePow,reduceDiv,reduceMod,reduceEqDiff,Nat.reduceBEq,q3]
   refine call_sc (so hg ?_)
   have r1:∀ x,get (H1.set b x) 1=some (.row 2 true [[.prim (.slice none 0 0),.prim (.slice none 0 0)]]):=fun x=>by rw [get_ne (by omega)];exact q1
   have r2:∀ x,get (H1.set b x) 2=some (.row 1 true [[.prim (.int .i64 (0))]]):=fun x=>by rw [get_ne (by omega)];exact q2
   have r3:∀ x,get (H1.set b x) 3=some (.row 2 true [[.lst 6 ((canonL L).map pc),.sref b 0 Hs.length Hs.length 1 false]]):=fun x=>by rw [get_ne (by omega)];exact q3
   have rb:∀ x,get (H1.set b x) b=x:=fun x=>get_eq hbl
   have p1:=r1 (some (.row 1 true (S.map hcel)))
   have p2:=r2 (some (.row 1 true (S.map hcel)))
   have p3:=r3 (some (.row 1 true (S.map hcel)))
   have pb:=rb (some (.row 1 true (S.map hcel)))
   have hl2:b<(H1.set b (some (Blk.row 1 true (S.map hcel)))).length:=by rw [List.length_set];exact hbl
   generalize H1.set b (some (Blk.row 1 true (S.map hcel)))=H2 at p1 p2 p3 pb hl2 ⊢
   have hSl:S.length=Hs.length:=by rw [←hS,isortH_length];exact hml
   have k1:(S.map hcel).length=Hs.length:=by rw [List.length_map];exact hSl
   have k2:(S.map hcel).take Hs.length=S.map hcel:=by rw [List.take_of_length_le (by omega)]
   have k3:=viewLL_hcel H2 6 S
   have ck:PC prog 74 [.agg [.lst 6 ((canonL L).map pc),.lst 1 (S.map hcel)]] (.prim (.int .i64 (0))):=by
    have:(S.map psV).map (fun v=>[v])=S.map hcel:=by rw [List.map_map];rfl
    rw [cgV,this] at hck
    exact hck
   have s1:∀ x,get (H2.set 1 x) 2=some (.row 1 true [[.prim (.int .i64 (0))]]):=fun x=>by rw [get_ne (by omega)];exact p2
   have s2:∀ x y,get ((H2.set 1 x).set 2 y) 1=x:=fun x y=>by rw [get_ne (by omega),get_eq (by omega)]
   have s3:∀ x y,get ((H2.set 1 x).set 2 y) 2=y:=fun x y=>by rw [get_eq (by rw [List.length_set];omega)]
   have s4:∀ x y,get ((H2.set 1 x).set 2 y) b=some (.row 1 true (S.map hcel)):=fun x y=>by rw [get_ne (by omega),get_ne (by omega)];exact pb
   have k4:∀ x y,view.viewLL ((H2.set 1 x).set 2 y) 6 (S.map hcel)=some (S.map hcel):=fun x y=>viewLL_hcel _ 5 S
   subst hu
   simp (disch:=omega) only [↓RS,RZ,reduceCtorEq,reduceAdd,reduceLT,reduceLeDiff,List.reduceReplicate,reducePow,reduceDiv,reduceMod,reduceEqDiff,Nat.reduceBEq,p3,pb,k1,k2,k3]
   refine cX ck ?_
   simp (disch:=omega) only [↓RS,RZ,reduceCtorEq,reduceAdd,reduceLT,reduceLeDiff,List.reduceReplicate,reducePow,reduceDiv,reduceMod,reduceEqDiff,Nat.reduceBEq,p1,p2,p3,s1,s2,s3,s4,k1,k2,k4,psV]
 ·exact fun _ _ h=>h.elim
theorem PCanon_pc (L:List Pt) (Hs:List (List Pt)) (few:Hs.length≤8) (hC:∀ l∈L::Hs,Can l) (S:List (List Pt)) (hS:isortH (Hs.map canonL) (Hs.length-1)=S)
 (hck:PC prog 74 [cgV (canonL L) S] (.prim (.int .i64 (0)))):PC prog 72 [cgV L Hs] (.tup [cgV (canonL L) S,.prim (.int .i64 (0))]):=by
 have h:=PCanonQ_pc L Hs few hC S hS hck _ rfl
 have e:(S.map psV).map (fun v=>[v])=S.map hcel:=by rw [List.map_map];rfl
 unfold cgV
 unfold cgV at h
 rw [e]
 by_cases hz:Hs=[]
 ·rw [if_pos hz] at h
  have hS0:S=[]:=by rw [←hS,hz];rfl
  rw [hS0]
  exact PC_nilR h
 ·rwa [if_neg hz] at h
end Go.Av
