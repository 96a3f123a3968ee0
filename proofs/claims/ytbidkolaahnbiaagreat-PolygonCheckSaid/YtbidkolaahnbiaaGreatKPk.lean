/- Helping texts: Pk, Pl. -/
import Derived.Test.YtbidkolaahnbiaaGreatKPi
import Derived.Test.YtbidkolaahnbiaaGreatKDs
set_option linter.unusedSimpArgs false
set_option linter.unusedVariables false
set_option maxRecDepth 100000
set_option maxHeartbeats 16000000
namespace Go.Av
open Go.RowKit
open Go.Proofs.Tryz (prog)
theorem badT_pc (a b c:Pt) (h1:hp a≤2^26) (h2:hp b≤2^26) (h3:hp c≤2^26):PC prog 225 [pV a,pV b,pV c] (.prim (.bool (decide (b=c)||decide (orient a b c=0)))):=by
 have o:=orient_pc a b c h1 h2 h3
 have e:=eqA_pc b c
 by_cases hbc:b=c
 ·rw [decide_eq_true hbc] at e ⊢
  refine PCi ?_
  conv in trip _ _=>cbv
  simp only [runT,RN,simprocAttr]
  simp (disch:=omega) only [↓RS,RZ,simprocAttr,pV,ptV,e]
 ·rw [decide_eq_false hbc] at e ⊢
  rw [Bool.false_or]
  by_cases ho:orient a b c=0
  ·rw [decide_eq_true ho]
   refine PCi ?_
   conv in trip _ _=>cbv
   simp only [runT,RN,simprocAttr]
   simp (disch:=omega) only [↓RS,RZ,simprocAttr,pV,ptV,e]
   refine cX o ?_
   simp (disch:=omega) only [↓RS,RZ,simprocAttr]
  ·rw [decide_eq_false ho]
   refine PCi ?_
   conv in trip _ _=>cbv
   simp only [runT,RN,simprocAttr]
   simp (disch:=omega) only [↓RS,RZ,simprocAttr,pV,ptV,e]
   refine cX o ?_
   simp (disch:=omega) only [↓RS,RZ,simprocAttr]
theorem append_in {P:Program} {K:V→Hp→Prop} {H:Hp} {ei:TyI} {b n c:Nat} {fx:Bool} {es ys:List (List V)} (hg:get H b=some (.row ei.sz true es)) (hy:∀ y∈ys,∀ v∈y,cellV v=true) (h1:n+ys.length≤c) (h2:c≤es.length)
 (hK:K (.sref b 0 (n+ys.length) c ei.sz fx) (H.set b (some (.row ei.sz true (splice es n ys))))):wpAppend P H ei (.sref b 0 n c ei.sz fx) ys K:=by
 unfold wpAppend
 refine ⟨hy,?_⟩
 simp only [hg]
 refine ⟨trivial,by omega,.inl ⟨h1,by omega,trivial,?_⟩⟩
 rw [Nat.zero_add];exact hK
theorem pc0:pc pt0=[.prim (.bool false),.prim (.string (bs ([]))),.prim (.string (bs ([]))),.prim (.bool false),.prim (.string (bs ([]))),.prim (.string (bs ([])))]:=by simp only [pc,pt0,can_zero]
theorem delete_sc (m:List Pt) (i:Nat) (hi:i<m.length) (hn:m.length≤2^20) (tl:List (List V)) {b c:Nat} (hc:c=m.length+tl.length) {H:Hp} {K:V→Hp→Prop} (hb:get H b=some (.row 6 true (m.map pc++tl)))
 (hK:K (.sref b 0 (m.length-1) c 6 false) (H.set b (some (.row 6 true ((m.eraseIdx i).map pc++pc pt0::tl))))):
 SC prog 279 [.sref b 0 m.length c 6 false,.prim (.int .i64 ((i:Nat):Int)),.prim (.int .i64 ((i+1:Nat):Int))] H K:=by
 have hbl:=get_lt_len hb
 have s1:∀ x,get (H.set b x) b=x:=fun x=>get_eq hbl
 have s2:∀ x y,(H.set b x).set b y=H.set b y:=fun x y=>List.set_set ..
 have hml:(m.map pc).length=m.length:=List.length_map ..
 have hel:(m.map pc++tl).length=c:=by rw [List.length_append,hml,hc]
 have eys:((m.map pc++tl).drop (i+1)).take (m.length-(i+1))=(m.drop (i+1)).map pc:=by
  rw [List.drop_append_of_le_length (by omega),List.take_append_of_le_length (by rw [List.length_drop];omega),List.take_of_length_le (by rw [List.length_drop];omega),List.map_drop]
 have hyl:((m.drop (i+1)).map pc).length=m.length-(i+1):=by rw [List.length_map,List.length_drop]
 have e1:splice (m.map pc++tl) i ((m.drop (i+1)).map pc)=(m.eraseIdx i).map pc++(m.map pc++tl).drop (m.length-1):=by
  unfold splice
  rw [hyl,show i+(m.length-(i+1))=m.length-1 by omega,List.take_append_of_le_length (by omega),List.eraseIdx_eq_take_drop_succ,List.map_append,List.map_take]
 have hdl:((m.eraseIdx i).map pc).length=m.length-1:=by rw [List.length_map,List.length_eraseIdx_of_lt hi]
 have e2:splice ((m.eraseIdx i).map pc++(m.map pc++tl).drop (m.length-1)) (m.length-1) [pc pt0]=(m.eraseIdx i).map pc++pc pt0::tl:=by
  unfold splice
  rw [List.take_append_of_le_length (by omega),List.take_of_length_le (by omega),List.length_singleton,List.drop_append,hdl,List.drop_drop,List.drop_of_length_le (by omega),List.nil_append,List.append_assoc]
  congr 1
  rw [show m.length-1+(m.length-1+1-(m.length-1))=m.length by omega,List.drop_append_of_le_length (by omega),List.drop_of_length_le (by omega)]
  rfl
 have e3:((m.eraseIdx i).map pc++(m.map pc++tl).drop (m.length-1)).length=c:=by
  rw [List.length_append,hdl,List.length_drop,hel];omega
 refine SCi ?_
 conv in trip _ _=>cbv
 simp only [runT,RN,simprocAttr]
 simp (disch:=omega) only [↓RS,RZ,simprocAttr,hb,hel,Nat.zero_add,Nat.sub_zero]
 rw [eys]
 refine append_in hb (prims_cell (pc_prims _)) (by rw [hyl];omega) (by omega) ?_
 rw [e1,hyl,show i+(m.length-(i+1))=m.length-1 by omega]
 have e4:m.length-(m.length-1)=1:=by omega
 rw [pc0] at e2 hK
 simp (disch:=omega) only [↓RS,RZ,simprocAttr,s1,s2,e3,e4,wpOp_clear,clearP,wpClear,Nat.zero_add,Nat.sub_zero,e2]
 exact hK
theorem clone0_sc {H:Hp} {K:V→Hp→Prop} (h1:K (.prim (.slice none 0 0)) H) (h2:∀ fx,K (.sref H.length 0 0 0 6 fx) (H++[some (.row 6 true [])])):SC prog 278 [.lst 6 []] H K:=by
 have e:eqA (tyOf prog) 9 22 (.lst 6 []) (.prim (.slice none 0 0))=none:=by
  unfold eqA;simp only [RT]
 refine SCi ?_
 conv in trip _ _=>cbv
 simp only [runT,RN,simprocAttr]
 simp (disch:=omega) only [↓RS,RZ,simprocAttr,e,nilP_none,nilP_some,wpNil]
 refine ⟨h1,append_in (es:=[]) get_app_len (by simp) (by simp) (by simp) ?_⟩
 have e2:splice ([]:List (List V)) 0 []=[]:=rfl
 simp (disch:=omega) only [↓RS,RZ,simprocAttr,e2,set_app_len]
 exact h2 true
theorem simplify0_sc {H:Hp} {K:V→Hp→Prop} (h1:K (.prim (.slice none 0 0)) H) (h2:∀ fx,K (.sref H.length 0 0 0 6 fx) (H++[some (.row 6 true [])])):SC prog 224 [.lst 6 [],.clo 225 [] []] H K:=by
 refine SC_introS mixed (FnS.of (by kernel_rfl)) ?_
 conv in lcS _ _=>cbv
 conv in ntOf _ _=>cbv
 conv in rsOf _ _=>cbv
 simp only [RN,Nat.reduceAdd,Nat.reduceSub]
 simp (disch:=omega) only [↓RS,RZ,simprocAttr]
 refine call_sc (clone0_sc ?_ fun fx=> ?_)
 ·simp (disch:=omega) only [↓RS,RZ,simprocAttr]
  refine wp_iter 1 ?_
  simp (disch:=omega) only [↓RS,RZ,simprocAttr,iterL_s,itQ_normal,itQ_exit,itQ_ret]
  exact h1
 ·simp (disch:=omega) only [↓RS,RZ,simprocAttr]
  refine wp_iter 1 ?_
  simp (disch:=omega) only [↓RS,RZ,simprocAttr,iterL_s,itQ_normal,itQ_exit,itQ_ret]
  exact h2 fx
def NewT (H:Hp) (m:List Pt) (K:V→Hp→Prop):Prop:=∀ b H' (tl:List (List V)),Ext H H'→H.length≤b→get H' b=some (.row 6 true (m.map pc++tl))→K (.sref b 0 m.length (m.length+tl.length) 6 false) H'
theorem simplifyG_sc (l:List Pt) (hne:l≠[]) (hn:l.length≤64) (hl0:hl l (2^20)) {H:Hp} {K:V→Hp→Prop} (hK:NewT H (simpL l) K):
 SC prog 224 [psV l,.clo 225 [] []] H K:=by
 refine SC_introL mixed (FnJ.of (l:=0) (by kernel_rfl)) (by kernel_rfl) (fun (s:Nat×Nat×List Pt) J=>ov [(0,.sref s.1 0 s.2.2.length s.2.1 6 false),(1,.clo 225 [] []),(4,.prim (.slice none 0 0))] J 0 48) (fun s H'=>∃ tl:List (List V),Ext H H'∧H.length≤s.1∧s.2.1=s.2.2.length+tl.length∧s.2.2.length≤64∧hl s.2.2 (2^20)∧simpL s.2.2=simpL l∧get H' s.1=some (.row 6 true (s.2.2.map pc++tl))) (fun s=>s.2.2.length) ?_ ?_
 ·conv in xJ _ _=>cbv
  conv in cJ _ _=>cbv
  conv in ntOf _ _=>cbv
  simp only [RN,Nat.reduceAdd,Nat.reduceSub]
  simp (disch:=omega) only [↓RS,RZ,simprocAttr,psV,eS_normal]
  refine call_sc (clone_sc l hne (by omega) ?_)
  intro b H' hE hb hg
  simp (disch:=omega) only [↓RS,RZ,simprocAttr]
  exact ent_end (b,l.length,l) rfl ⟨[],hE,hb,by simp,hn,hl0,rfl,by rw [List.append_nil];exact hg⟩
 ·conv in zJ _ _ _=>cbv
  conv in rsOf _ _=>cbv
  rintro ⟨b,c,m⟩ J H' ⟨tl,hE,hb,hc,hm64,hmL,hsm,hg⟩
  try conv in ov _ _ _ _=>simp only [ov,List.lookup,RO,simprocAttr]
  simp only at hb hc hm64 hmL hsm hg ⊢
  subst hc
  have hml:(m.map pc).length=m.length:=List.length_map ..
  have hel:(m.map pc++tl).length=m.length+tl.length:=by rw [List.length_append,hml]
  have fin:simpL m=m→K (.sref b 0 m.length (m.length+tl.length) 6 false) H':=fun h=>by
   have:=hK b H' tl hE hb (by rw [←hsm,h];exact hg)
   rwa [←hsm,h] at this
  simp (disch:=omega) only [↓RS,RZ,simprocAttr]
  refine wp_lp (fun (i:Nat) J=>ov [(0,.sref b 0 m.length (m.length+tl.length) 6 false),(1,.clo 225 [] []),(4,.prim (.slice none 0 0)),(5,.prim (.int .i64 ((m.length:Nat):Int))),(6,.prim (.int .i64 ((i:Nat):Int)))] J 0 48) (fun i H2=>(i≤m.length∧∀ j,j<i→badAt m j=false)∧H2=H') (fun i=>m.length-i) 0 rfl ⟨⟨Nat.zero_le _,fun j hj=>absurd hj (Nat.not_lt_zero j)⟩,rfl⟩ ?_
  rintro i J' H2 ⟨⟨hi,hf⟩,hH⟩
  try conv in ov _ _ _ _=>simp only [ov,List.lookup,RO,simprocAttr]
  rw [hH]
  clear hH
  by_cases h3:m.length<3
  ·have:=fin (simp_stop (.inl h3))
   simp (disch:=omega) only [↓RS,RZ,simprocAttr,gQ_normal]
   exact this
  rcases Nat.lt_or_ge i m.length with hlt|hge
  ·have m1:=Nat.mod_lt (i+m.length-1) (show 0<m.length by omega)
   have m2:=Nat.mod_lt (i+1) (show 0<m.length by omega)
   have ge:∀ {j},j<m.length→(m.map pc++tl)[j]? =some (pc (m.getD j default)):=fun {j} hj=>by rw [List.getElem?_append_left (by omega)];exact pcr_get hj
   have g1:=ge hlt
   have g2:=ge m1
   have g3:=ge m2
   have o:=badT_pc _ _ _ (Nat.le_trans (hl_get hmL m1) (by omega)) (Nat.le_trans (hl_get hmL hlt) (by omega)) (Nat.le_trans (hl_get hmL m2) (by omega))
   have eb:badAt m i=(decide (m.getD i default=m.getD ((i+1)%m.length) default)||decide (orient (m.getD ((i+m.length-1)%m.length) default) (m.getD i default) (m.getD ((i+1)%m.length) default)=0)):=rfl
   rw [←eb] at o
   simp (disch:=omega) only [↓RS,RZ,simprocAttr,g1,g2,g3,pc,tmodN,hg]
   refine cX o ?_
   cases hbad:badAt m i with
   |true=>
    have hst:=simp_step (by omega) hlt hbad hf
    have hle:=List.length_eraseIdx_of_lt hlt
    simp (disch:=omega) only [↓RS,RZ,simprocAttr]
    refine call_sc (delete_sc m i hlt (by omega) tl rfl hg ?_)
    simp (disch:=omega) only [↓RS,RZ,simprocAttr]
    refine goto_next (b,m.length+tl.length,m.eraseIdx i) (by simp only [hle];rfl) ⟨pc pt0::tl,⟨by rw [List.length_set];exact hE.len,fun {c k} hk=> ?_⟩,hb,by simp only [hle,List.length_cons];omega,by simp only [hle];omega,fun p hp=>hmL p (List.mem_of_mem_eraseIdx hp),by rw [←hsm];exact hst.symm,get_eq (get_lt_len hg)⟩ (by simp only [hle];omega)
    have:=hE.get hk
    have:=get_lt_len hk
    rw [get_ne (by omega)];exact hE.get hk
   |false=>
    simp (disch:=omega) only [↓RS,RZ,simprocAttr]
    exact lp_next (i+1) rfl ⟨⟨hlt,fun j hj=>by
     rcases Nat.lt_or_ge j i with h|h
     ·exact hf j h
     ·rw [show j=i by omega];exact hbad⟩,rfl⟩ (by omega)
  ·have hia:i=m.length:=by omega
   subst hia
   have:=fin (simp_stop (.inr hf))
   simp (disch:=omega) only [↓RS,RZ,simprocAttr,gQ_normal]
   exact this
end Go.Av
namespace Go.Av
open Go.RowKit
open Go.Proofs.Tryz (prog)
theorem reverseG_sc (l:List Pt) (hne:l≠[]) (hn:l.length≤2^30) (tl:List (List V)) {b c:Nat} (hc:c=l.length+tl.length) {fx:Bool} {H:Hp} {K:V→Hp→Prop} (hb:get H b=some (.row 6 true (l.map pc++tl))) (hK:K (.tup []) (H.set b (some (.row 6 true (l.reverse.map pc++tl))))):
 SC prog 167 [.sref b 0 l.length c 6 fx] H K:=by
 have hpos:0<l.length:=List.length_pos_iff.2 hne
 have hbl:=get_lt_len hb
 have s1:∀ x,get (H.set b x) b=x:=fun x=>get_eq hbl
 have s2:∀ x y,(H.set b x).set b y=H.set b y:=fun x y=>List.set_set ..
 refine SCi ?_
 conv in trip _ _=>cbv
 simp only [runT,RN,simprocAttr]
 simp (disch:=omega) only [↓RS,RZ,simprocAttr]
 refine wp_lp (fun (k:Nat) J=>ov [(0,.sref b 0 l.length c 6 fx),(2,.prim (.int .i64 ((k:Nat):Int))),(3,.prim (.int .i64 ((l.length-1-k:Nat):Int)))] J 0 28) (fun k H'=>k≤l.length-1-k+1∧k≤l.length-1∧H'=H.set b (some (.row 6 true ((swapE l k).map pc++tl)))) (fun k=>l.length-1-k) 0 rfl ⟨by omega,by omega,by rw [swapE_zero,set_self hb]⟩ ?_
 rintro k J _ ⟨hk,hk2,rfl⟩
 try conv in ov _ _ _ _=>simp only [ov,List.lookup,RO,simprocAttr]
 rcases Nat.lt_or_ge k (l.length-1-k) with hlt|hge
 ·have hsl:((swapE l k).map pc).length=l.length:=by rw [List.length_map,swapE_length]
  have g1:((swapE l k).map pc++tl)[k]? =some (pc (l.getD k default)):=by rw [List.getElem?_append_left (by omega),pcr_get (by rw [swapE_length];omega),swapE_get (by omega),if_neg (by omega)]
  have g2:((swapE l k).map pc++tl)[l.length-1-k]? =some (pc (l.getD (l.length-1-k) default)):=by rw [List.getElem?_append_left (by omega),pcr_get (by rw [swapE_length];omega),swapE_get (by omega),if_neg (by omega)]
  have g3:∀ x,(((swapE l k).map pc++tl).set k x)[l.length-1-k]? =some (pc (l.getD (l.length-1-k) default)):=fun x=>by rw [List.getElem?_set_ne (by omega)];exact g2
  have hs:((((swapE l k).map pc++tl).set k (pc (l.getD (l.length-1-k) default))).set (l.length-1-k) (pc (l.getD k default)))=(swapE l (k+1)).map pc++tl:=by
   rw [List.set_append_left _ _ (by omega),List.set_append_left _ _ (by rw [List.length_set];omega),←swapE_step hlt,List.map_set,List.map_set]
  have hj:l.length-1-(k+1)=l.length-1-k-1:=by omega
  simp only [pc] at hs
  simp (disch:=omega) only [↓RS,RZ,simprocAttr,s1,s2,g1,g2,g3,pc,hs]
  refine lp_next (k+1) (by rw [hj];rfl) ⟨by omega,by omega,rfl⟩ (by omega)
 ·rw [←swapE_end hge] at hK
  simp (disch:=omega) only [↓RS,RZ,simprocAttr]
  exact hK
theorem concatG_rot {m:List Pt} {tl:List (List V)} {b k n:Nat} (hmn:m.length=n) (hk:k≤n) (hpos:0<n) (hn:n≤2^30) {c:Nat} {f1 f2 fx:Bool} {c1 c2:Nat} {H:Hp} {K:V→Hp→Prop} (hb:get H b=some (.row 6 true (m.map pc++tl)))
 (hc:get H c=some (.row 1 true [[.sref b k (n-k) c1 6 f1],[.sref b 0 k c2 6 f2]])) (hK:NewL H (rotL m k) K):
 SC prog 166 [.sref c 0 2 2 1 fx] H K:=by
 have hml:(m.map pc).length=m.length:=List.length_map ..
 have hel:(m.map pc++tl).length=m.length+tl.length:=by rw [List.length_append,hml]
 subst hmn
 refine concat_sc (m.drop k) (m.take k) (by simp only [List.length_drop,List.length_take];omega) (by simp only [List.length_drop,List.length_take];omega) hc ?_ ?_ ?_ ?_ hK
 ·simp only [elemsOf,hb,hel]
  rw [if_pos ⟨trivial,by omega⟩,List.drop_append_of_le_length (by omega),List.take_append_of_le_length (by rw [List.length_drop];omega),List.map_drop,List.take_of_length_le (by rw [List.length_drop,hml];exact Nat.le_refl _)]
 ·simp only [lenV,List.length_drop]
 ·simp only [elemsOf,hb,hel]
  rw [if_pos ⟨trivial,by omega⟩,List.map_take,List.drop_zero,List.take_append_of_le_length (by omega)]
 ·simp only [lenV,List.length_take];rw [Nat.min_eq_left hk]
theorem ht_area64 {l:List Pt} (hn:l.length≤64) (hL:hl l (2^16)):ht (areaL l)≤2^30:=by
 have h1:=ht_areaTo hL l.length (Nat.le_refl _)
 have h2:=ht_div (areaTo l l.length) 2
 have h3:=ht_two
 have h4:l.length*(4*2^16+2)≤64*(4*2^16+2):=Nat.mul_le_mul_right _ hn
 unfold areaL
 omega
theorem sign_area (l:List Pt):cmpQ (areaL l) 0<0↔areaL l<0:=by
 rw [←Rat.not_le,←cmpQ_nonneg];omega
theorem RcanonG_pc (l:List Rp) (hn:l.length<2^40) (hle:∀ p∈l,p.le (2^16)):PC prog 156 [rpsV l] (canV l):=by
 have c:=canonical_pc l hn (fun p hp=>Rp.le_up (hle p hp) (by omega))
 unfold canV canE canL
 by_cases h64:64<l.length
 ·rw [if_pos h64,if_neg (by decide)]
  refine PCi ?_
  conv in trip _ _=>cbv
  simp only [runT,RN,simprocAttr]
  simp (disch:=omega) only [↓RS,RZ,simprocAttr,rpsV,rpc_length]
 rw [if_neg h64]
 cases ho:allOk l with
 |false=>
  rw [if_pos rfl,if_neg (by decide)]
  rw [ho] at c
  refine PCi ?_
  conv in trip _ _=>cbv
  simp only [runT,RN,simprocAttr]
  simp (disch:=omega) only [↓RS,RZ,simprocAttr,rpsV,rpc_length]
  refine cX c ?_
  simp (disch:=omega) only [↓RS,RZ,simprocAttr]
 |true=>
 rw [if_neg (show ¬(true=false) by decide)]
 rw [ho] at c
 have hL0:hl (pts l) (2^16):=hl_pts ho hle (by omega)
 have hn0:(pts l).length≤64:=by rw [pts_length];omega
 rw [raw_can ho] at c ⊢
 clear h64 ho hle hn
 generalize pts l=L at*
 by_cases hne:L=[]
 ·subst hne
  have e0:(simpL []).length<3:=by decide
  rw [if_pos e0,if_neg (by decide)]
  have c:PC prog 133 [.lst 6 []] (.prim (.bool true)):=c
  refine PCi ?_
  conv in trip _ _=>cbv
  simp only [runT,RN,simprocAttr]
  simp (disch:=omega) only [↓RS,RZ,simprocAttr,psV,List.map_nil]
  refine cX c ?_
  simp (disch:=omega) only [↓RS,RZ,simprocAttr]
  refine call_sc (simplify0_sc ?_ ?_)
  ·simp (disch:=omega) only [↓RS,RZ,simprocAttr]
  ·intro fx
   simp (disch:=omega) only [↓RS,RZ,simprocAttr]
 have hms:=simp_le L
 have hmL:hl (simpL L) (2^16):=fun p hp=>hL0 p (simp_mem hp)
 have sm:=fun H K hK=> @simplifyG_sc L hne hn0 (fun p hp=>Nat.le_trans (hL0 p hp) (by omega)) H K hK
 have hkp:= @simp_keep L
 generalize simpL L=m at*
 by_cases h3:m.length<3
 ·rw [if_pos h3,if_neg (by decide)]
  refine PCi ?_
  conv in trip _ _=>cbv
  simp only [runT,RN,simprocAttr]
  simp (disch:=omega) only [↓RS,RZ,simprocAttr,psV,pc_length]
  refine cX c ?_
  simp (disch:=omega) only [↓RS,RZ,simprocAttr,psV,pc_length]
  refine call_sc (sm _ _ ?_)
  intro b H1 tl hE hb hg
  simp (disch:=omega) only [↓RS,RZ,simprocAttr]
 rw [if_neg h3]
 have hme:m≠[]:=by intro e;rw [e] at h3;simp at h3
 have x:=crossing_pc m (by omega) hme (fun p hp=>Nat.le_trans (hmL p hp) (by omega))
 have vw:∀ (b:Nat) (H1:Hp) (tl:List (List V)),get H1 b=some (.row 6 true (m.map pc++tl))→m.length≤(m.map pc++tl).length∧(m.map pc++tl).take m.length=m.map pc:=fun b H1 tl hg=>by
  have hml:(m.map pc).length=m.length:=List.length_map ..
  exact ⟨by rw [List.length_append];omega,by rw [List.take_append_of_le_length (by omega),List.take_of_length_le (by omega)]⟩
 cases hx:crossB m with
 |true=>
  rw [if_pos rfl,if_neg (by decide)]
  rw [hx] at x
  refine PCi ?_
  conv in trip _ _=>cbv
  simp only [runT,RN,simprocAttr]
  simp (disch:=omega) only [↓RS,RZ,simprocAttr,psV,pc_length]
  refine cX c ?_
  simp (disch:=omega) only [↓RS,RZ,simprocAttr,psV,pc_length]
  refine call_sc (sm _ _ ?_)
  intro b H1 tl hE hb hg
  obtain ⟨v1,v2⟩:=vw b H1 tl hg
  have hvl:= @viewLL_prims H1 7 _ (pc_prims m)
  simp (disch:=omega) only [↓RS,RZ,simprocAttr,hg,v2,hvl]
  refine cX x ?_
  simp (disch:=omega) only [↓RS,RZ,simprocAttr]
 |false=>
 rw [if_neg (show ¬(false=true) by decide),if_pos rfl]
 rw [hx] at x
 have a:=Area_pc m (by omega) hmL
 have hta:=ht_area64 (by omega) hmL
 have s:=signQ_pc (areaL m) (by omega)
 have hsg:=sign_area m
 refine PCi ?_
 conv in trip _ _=>cbv
 simp only [runT,RN,simprocAttr]
 simp (disch:=omega) only [↓RS,RZ,simprocAttr,psV,pc_length]
 refine cX c ?_
 simp (disch:=omega) only [↓RS,RZ,simprocAttr,psV,pc_length]
 refine call_sc (sm _ _ ?_)
 intro b H1 tl hE hb hg
 obtain ⟨v1,v2⟩:=vw b H1 tl hg
 have hvl:= @viewLL_prims H1 7 _ (pc_prims m)
 simp (disch:=omega) only [↓RS,RZ,simprocAttr,hg,v2,hvl]
 refine cX x ?_
 simp (disch:=omega) only [↓RS,RZ,simprocAttr,hg,v2,hvl]
 refine cX a ?_
 simp (disch:=omega) only [↓RS,RZ,simprocAttr,qV,rV]
 refine cX s ?_
 have key:∃ m2:List Pt,∃ H2,canonL m=startL m2∧m2.length=m.length∧hl m2 (2^26)∧get H2 b=some (.row 6 true (m2.map pc++tl))∧b<H2.length∧(if areaL m<0 then m2=m.reverse∧H2=H1.set b (some (.row 6 true (m.reverse.map pc++tl))) else m2=m∧H2=H1):=by
  by_cases ha:areaL m<0
  ·exact ⟨m.reverse,_,by unfold canonL;rw [if_pos ha],List.length_reverse,fun p hp=>Nat.le_trans (hmL p (List.mem_reverse.1 hp)) (by omega),get_eq (get_lt_len hg),by rw [List.length_set];exact get_lt_len hg,by rw [if_pos ha];exact ⟨rfl,rfl⟩⟩
  ·exact ⟨m,H1,by unfold canonL;rw [if_neg ha],rfl,fun p hp=>Nat.le_trans (hmL p hp) (by omega),hg,get_lt_len hg,by rw [if_neg ha];exact ⟨rfl,rfl⟩⟩
 obtain ⟨m2,H2,hcan,hml2,hmh,hg2,hb2,hcase⟩:=key
 rw [hcan]
 by_cases ha:areaL m<0
 case' pos=>
  have hcm:=hsg.2 ha
  rw [if_pos ha] at hcase
  obtain ⟨hm2,hH2⟩:=hcase
  simp (disch:=omega) only [↓RS,RZ,simprocAttr,hcm]
  refine call_sc (reverseG_sc m hme (by omega) tl rfl hg ?_)
  rw [←hm2] at hH2 ⊢
  rw [←hH2]
 case' neg=>
  have hcm:¬cmpQ (areaL m) 0<0:=fun h=>ha (hsg.1 h)
  rw [if_neg ha] at hcase
  obtain ⟨hm2,hH2⟩:=hcase
  simp (disch:=omega) only [↓RS,RZ,simprocAttr,hcm]
  rw [←hH2]
 all_goals
  clear hm2 hH2 x a s hsg hta sm c vw hg v1 v2 hvl
  have hml:(m2.map pc).length=m.length:=by rw [List.length_map];exact hml2
  have w1:m.length≤(m2.map pc++tl).length:=by rw [List.length_append];omega
  have w2:(m2.map pc++tl).take m.length=m2.map pc:=by rw [List.take_append_of_le_length (by omega),List.take_of_length_le (by omega)]
  have hvl2:= @viewLL_prims H2 7 _ (pc_prims m2)
  have i:=first_pc m2 (by omega) hmh
  have hlk:=leastTo_in (L:=m2) (by omega)
  have hst:startL m2=rotL m2 (leastTo m2 m2.length):=rfl
  rw [hst]
  generalize leastTo m2 m2.length=k at*
  simp (disch:=omega) only [↓RS,RZ,simprocAttr,hg2,w2,hvl2]
  refine cX i ?_
  simp (disch:=omega) only [↓RS,RZ,simprocAttr,Nat.sub_zero]
  refine call_sc (concatG_rot hml2 (by omega) (by omega) (by omega) (get_app hg2) get_app_len ?_)
  intro b3 H3 hE3 hb3 hg3
  have hrl:(rotL m2 k).length=m.length:=by rw [rotL_length (by omega),hml2]
  have hr1:((rotL m2 k).map pc).length=m.length:=by rw [List.length_map];exact hrl
  have hr2:((rotL m2 k).map pc).take m.length=(rotL m2 k).map pc:=by rw [List.take_of_length_le (by omega)]
  have hr3:= @viewLL_prims H3 6 _ (pc_prims (rotL m2 k))
  rw [hrl]
  generalize rotL m2 k=R at*
  simp (disch:=omega) only [↓RS,RZ,simprocAttr,hg3,hr1,hr2,hr3]
end Go.Av
