/- Helping texts: Db, Dc, Dd, Ma, Df, Dg. -/
import Derived.Test.YtbidkolaahnbiaaGreatKDa
import Derived.Test.YtbidkolaahnbiaaGreatKCt
set_option linter.unusedSimpArgs false
set_option linter.unusedVariables false
set_option maxRecDepth 100000
set_option maxHeartbeats 16000000
namespace Go.Av
open Go.RowKit
open Go.Proofs.Tryz (prog)
def Rp.ok (p:Rp):Bool:=decide (p.x=can p.x.val∧p.y=can p.y.val)
def Rp.le (p:Rp) (k:Nat):Prop:=p.x.le k∧p.y.le k
theorem canon1_pc (p:Rp) (h:p.le (2^32)):PC prog 209 [rpV p] (.prim (.bool (!p.ok))):=by
 refine PCi ?_
 conv in trip _ _=>cbv
 simp only [runT,RN,simprocAttr]
 have c:=vcheck_pc p.x p.y h.1 h.2
 by_cases ho:p.x=can p.x.val∧p.y=can p.y.val
 ·have e:p.ok=true:=decide_eq_true ho
  rw [if_pos ho] at c
  rw [e]
  simp (disch:=omega) only [↓RS,RZ,simprocAttr,rpV,ptV]
  refine cX c ?_
  simp (disch:=omega) only [↓RS,RZ,simprocAttr]
 ·have e:p.ok=false:=decide_eq_false ho
  rw [if_neg ho] at c
  rw [e]
  simp (disch:=omega) only [↓RS,RZ,simprocAttr,rpV,ptV]
  refine cX c ?_
  simp (disch:=omega) only [↓RS,RZ,simprocAttr]
def allOk (l:List Rp):Bool:=(List.range l.length).all fun i=>(l.getD i default).ok
theorem canonical_pc (l:List Rp) (hl:l.length<2^40) (h:∀ p∈l,p.le (2^32)):PC prog 133 [rpsV l] (.prim (.bool (allOk l))):=by
 refine PCi ?_
 conv in trip _ _=>cbv
 simp only [runT,RN,simprocAttr]
 have c:=containsP_pc l 209 (fun i=> !(l.getD i default).ok) hl (fun i hi=>canon1_pc _ (h _ (by
  rw [List.getD_eq_getElem?_getD,List.getElem?_eq_getElem hi];exact List.getElem_mem hi)))
 have e:(!(List.range l.length).any fun i=> !(l.getD i default).ok)=allOk l:=by
  unfold allOk;rw [List.all_eq_not_any_not]
 simp (disch:=omega) only [↓RS,RZ,simprocAttr,rpsV]
 refine cX c ?_
 simp (disch:=omega) only [↓RS,RZ,simprocAttr,e]
instance:Inhabited Pt:=⟨pt0⟩
def pc (p:Pt):List V:=[.prim (.bool (can p.x).neg),.prim (.string (bs ((can p.x).num))),.prim (.string (bs ((can p.x).den))),.prim (.bool (can p.y).neg),.prim (.string (bs ((can p.y).num))),.prim (.string (bs ((can p.y).den)))]
def psV (L:List Pt):V:= .lst 6 (L.map pc)
theorem pc_getD {l:List Pt} {k:Nat} (h:k<l.length):(l.map pc).getD k []=pc (l.getD k default):=by
 rw [List.getD_eq_getElem?_getD,List.getD_eq_getElem?_getD,List.getElem?_map,List.getElem?_eq_getElem h];rfl
theorem pc_length (l:List Pt):(l.map pc).length=l.length:=List.length_map ..
def Pt.rp (p:Pt):Rp:=⟨can p.x,can p.y⟩
theorem psV_rps (L:List Pt):psV L=rpsV (L.map Pt.rp):=by unfold psV rpsV;rw [List.map_map];rfl
def hl (L:List Pt) (k:Nat):Prop:=∀ p∈L,hp p≤k
theorem hl_get {L:List Pt} {k i:Nat} (h:hl L k) (hi:i<L.length):hp (L.getD i default)≤k:=by
 refine h _ ?_
 rw [List.getD_eq_getElem?_getD,List.getElem?_eq_getElem hi];exact List.getElem_mem hi
def flatAt (L:List Pt) (i:Nat):Bool:=decide (orient (L.getD ((i+L.length-1)%L.length) default) (L.getD i default) (L.getD ((i+1)%L.length) default)=0)
theorem flat_pc (L:List Pt) (hn:L.length<2^40) (hL:hl L (2^26)):PC prog 205 [psV L] (.prim (.int .i64 (idxP L.length (flatAt L)))):=by
 refine PCi ?_
 conv in trip _ _=>cbv
 simp only [runT,RN,simprocAttr]
 simp (disch:=omega) only [↓RS,RZ,simprocAttr,psV,pc_length]
 refine wp_lp (fun (i:Nat) J=>ov [(0,psV L),(2,.prim (.int .i64 (0))),(3,.prim (.int .i64 ((L.length:Nat):Int))),(8,psV L),(9,.prim (.int .i64 ((L.length:Nat):Int))),(10,.prim (.int .i64 ((i:Nat):Int)))] J 0 36) (fun i _=>i≤L.length∧∀ j,j<i→flatAt L j=false) (fun i=>L.length-i) 0 rfl ⟨Nat.zero_le _,fun j hj=>absurd hj (Nat.not_lt_zero j)⟩ ?_
 rintro i J H ⟨hi,hp⟩
 try conv in ov _ _ _ _=>simp only [ov,List.lookup,RO,simprocAttr]
 rcases Nat.lt_or_ge i L.length with hlt|hge
 ·have m1:=Nat.mod_lt (i+L.length-1) (show 0<L.length by omega)
  have m2:=Nat.mod_lt (i+1) (show 0<L.length by omega)
  have g1:=pc_getD hlt
  have g2:=pc_getD m1
  have g3:=pc_getD m2
  have o:=orient_pc _ _ _ (hl_get hL m1) (hl_get hL hlt) (hl_get hL m2)
  simp (disch:=omega) only [↓RS,RZ,simprocAttr,psV,pc_length,g1,g2,g3,pc,tmodN,set_app_len]
  refine cX o ?_
  by_cases hz:orient (L.getD ((i+L.length-1)%L.length) default) (L.getD i default) (L.getD ((i+1)%L.length) default)=0
  ·rw [idxP_found hlt (decide_eq_true hz) hp]
   simp (disch:=omega) only [↓RS,RZ,simprocAttr,hz]
  ·simp (disch:=omega) only [↓RS,RZ,simprocAttr]
   exact lp_next (i+1) rfl ⟨hlt,fun j hj=>by
    rcases Nat.lt_or_ge j i with h|h
    ·exact hp j h
    ·rw [show j=i by omega];exact decide_eq_false hz⟩ (by omega)
 ·have hia:i=L.length:=by omega
  subst hia
  rw [idxP_none hp]
  simp (disch:=omega) only [↓RS,RZ,simprocAttr,psV,pc_length]
end Go.Av
namespace Go.Av
open Go.RowKit
open Go.Proofs.Tryz (prog)
def leastTo (L:List Pt):Nat→Nat
 |0=>0
 |i+1=>if cmpP (L.getD i default) (L.getD (leastTo L i) default)<0 then i else leastTo L i
theorem leastTo_lt {L:List Pt}:∀ {i:Nat},0<i→leastTo L i<i
 |i+1,_=>by
  unfold leastTo
  split
  ·omega
  ·rcases Nat.eq_zero_or_pos i with h|h
   ·subst h;simp [leastTo]
   ·have:=leastTo_lt (L:=L) h;omega
theorem leastTo_le {L:List Pt} (i:Nat):leastTo L i≤i:=by
 rcases Nat.eq_zero_or_pos i with h|h
 ·subst h;simp [leastTo]
 ·exact Nat.le_of_lt (leastTo_lt h)
theorem first_pc (L:List Pt) (hn:L.length<2^40) (hL:hl L (2^26)):PC prog 207 [psV L] (.prim (.int .i64 ((leastTo L L.length:Nat):Int))):=by
 refine PCi ?_
 conv in trip _ _=>cbv
 simp only [runT,RN,simprocAttr]
 simp (disch:=omega) only [↓RS,RZ,simprocAttr,psV,pc_length]
 refine wp_lp (fun (i:Nat) J=>ov [(0,psV L),(2,.prim (.int .i64 (0))),(3,.prim (.int .i64 ((leastTo L i:Nat):Int))),(6,psV L),(7,.prim (.int .i64 ((L.length:Nat):Int))),(8,.prim (.int .i64 ((i:Nat):Int)))] J 0 23) (fun i _=>i≤L.length) (fun i=>L.length-i) 0 rfl (Nat.zero_le _) ?_
 rintro i J H hi
 try conv in ov _ _ _ _=>simp only [ov,List.lookup,RO,simprocAttr]
 rcases Nat.lt_or_ge i L.length with hlt|hge
 ·have hk:leastTo L i<L.length:=Nat.lt_of_le_of_lt (leastTo_le i) hlt
  have e:leastTo L (i+1)=if cmpP (L.getD i default) (L.getD (leastTo L i) default)<0 then i else leastTo L i:=rfl
  generalize leastTo L i=k at*
  have g1:=pc_getD hlt
  have g2:=pc_getD hk
  have o:=vcmp_pc (L.getD i default) (L.getD k default) (Nat.le_trans (hl_get hL hlt) (by omega)) (Nat.le_trans (hl_get hL hk) (by omega))
  simp (disch:=omega) only [↓RS,RZ,simprocAttr,psV,pc_length,g1,g2,pc,set_app_len]
  refine cX o ?_
  by_cases hz:cmpP (L.getD i default) (L.getD k default)<0
  ·rw [if_pos hz] at e
   simp (disch:=omega) only [↓RS,RZ,simprocAttr]
   exact lp_next (i+1) (by rw [e];rfl) hlt (by omega)
  ·rw [if_neg hz] at e
   simp (disch:=omega) only [↓RS,RZ,simprocAttr]
   exact lp_next (i+1) (by rw [e];rfl) hlt (by omega)
 ·have hia:i=L.length:=by omega
  subst hia
  simp (disch:=omega) only [↓RS,RZ,simprocAttr,psV,pc_length]
end Go.Av
namespace Go.Av
open Go.RowKit
open Go.Proofs.Tryz (prog)
theorem eqA_pt {X Y Z W:Rt}:eqA (tyOf prog) 9 31 (.agg [.prim (.bool X.neg),.prim (.string (bs (X.num))),.prim (.string (bs (X.den))),.prim (.bool Y.neg),.prim (.string (bs (Y.num))),.prim (.string (bs (Y.den)))]) (.agg [.prim (.bool Z.neg),.prim (.string (bs (Z.num))),.prim (.string (bs (Z.den))),.prim (.bool W.neg),.prim (.string (bs (W.num))),.prim (.string (bs (W.den)))])=some (decide (X=Z∧Y=W)):=by
 have h1:= @eqA_rat 6 X.neg Z.neg X.num X.den Z.num Z.den
 have h2:= @eqA_rat 6 Y.neg W.neg Y.num Y.den W.num W.den
 unfold eqA
 simp only [RT,eqA.eqFs,Bool.false_eq_true,if_false,String.reduceEq,readAt,TK.isAgg,if_true,List.length_cons,List.length_nil,Nat.reduceAdd,Nat.reduceLeDiff,List.drop_zero,List.drop_succ_cons,List.take_succ_cons,List.take_zero,h1,h2]
 have e1:decide (Rt.mk X.neg X.num X.den=Rt.mk Z.neg Z.num Z.den)=decide (X=Z):=rfl
 have e2:decide (Rt.mk Y.neg Y.num Y.den=Rt.mk W.neg W.num W.den)=decide (Y=W):=rfl
 rw [e1,e2]
 by_cases a:X=Z<;>by_cases b:Y=W<;>simp [a,b]
theorem can_eq (p q:Pt):decide (can p.x=can q.x∧can p.y=can q.y)=decide (p=q):=by
 rw [decide_eq_decide]
 exact ⟨fun h=>Pt.ext (can_inj h.1) (can_inj h.2),fun h=>by subst h;exact ⟨rfl,rfl⟩⟩
theorem indexV_pc (L:List Pt) (q:Pt) (hn:L.length<2^40):PC prog 220 [psV L,pV q] (.prim (.int .i64 (idxP L.length fun i=>decide (q=L.getD i default)))):=by
 refine PCi ?_
 conv in trip _ _=>cbv
 simp only [runT,RN,simprocAttr]
 simp (disch:=omega) only [↓RS,RZ,simprocAttr,psV,pc_length,pV,ptV]
 refine wp_lp (fun (i:Nat) J=>ov [(0,psV L),(3,.ptr 0 0 0),(4,.prim (.int .i64 (0))),(6,psV L),(7,.prim (.int .i64 ((L.length:Nat):Int))),(8,.prim (.int .i64 ((i:Nat):Int)))] J 0 19) (fun i H=>(i≤L.length∧∀ j,j<i→decide (q=L.getD j default)=false)∧H=[some (.row 6 true [pc q])]) (fun i=>L.length-i) 0 rfl ⟨⟨Nat.zero_le _,fun j hj=>absurd hj (Nat.not_lt_zero j)⟩,rfl⟩ ?_
 rintro i J _ ⟨⟨hi,hp⟩,rfl⟩
 try conv in ov _ _ _ _=>simp only [ov,List.lookup,RO,simprocAttr]
 rcases Nat.lt_or_ge i L.length with hlt|hge
 ·have g:=pc_getD hlt
  have e:=can_eq q (L.getD i default)
  by_cases hz:q=L.getD i default
  ·rw [idxP_found hlt (decide_eq_true hz) hp]
   rw [decide_eq_true hz] at e
   simp (disch:=omega) only [↓RS,RZ,simprocAttr,psV,pc_length,g,pc,eqA_pt,e]
  ·rw [decide_eq_false hz] at e
   simp (disch:=omega) only [↓RS,RZ,simprocAttr,psV,pc_length,g,pc,eqA_pt,e]
   exact lp_next (i+1) rfl ⟨⟨hlt,fun j hj=>by
    rcases Nat.lt_or_ge j i with h|h
    ·simpa using hp j h
    ·rw [show j=i by omega];simpa using hz⟩,rfl⟩ (by omega)
 ·have hia:i=L.length:=by omega
  subst hia
  rw [idxP_none hp]
  simp (disch:=omega) only [↓RS,RZ,simprocAttr,psV,pc_length,pc]
theorem mem_range (L:List Pt) (q:Pt):((List.range L.length).any fun i=>decide (q=L.getD i default))=decide (q∈L):=by
 rw [Bool.eq_iff_iff,List.any_eq_true,decide_eq_true_eq]
 constructor
 ·rintro ⟨i,hi,h⟩
  have hi:i<L.length:=by simpa using hi
  rw [of_decide_eq_true h,List.getD_eq_getElem?_getD,List.getElem?_eq_getElem hi];exact List.getElem_mem hi
 ·intro h
  obtain ⟨i,hi,rfl⟩:=List.mem_iff_getElem.1 h
  exact ⟨i,by simpa using hi,decide_eq_true (by rw [List.getD_eq_getElem?_getD,List.getElem?_eq_getElem hi];rfl)⟩
theorem containsV_pc (L:List Pt) (q:Pt) (hn:L.length<2^40):PC prog 147 [psV L,pV q] (.prim (.bool (decide (q∈L)))):=by
 refine PCi ?_
 conv in trip _ _=>cbv
 simp only [runT,RN,simprocAttr]
 have h:=indexV_pc L q hn
 rw [←mem_range,←idxP_nonneg]
 simp (disch:=omega) only [↓RS,RZ,simprocAttr,psV,pV,ptV]
 refine cX h ?_
 simp (disch:=omega) only [↓RS,RZ,simprocAttr]
end Go.Av
namespace Go.Av
theorem cmpQ_le {p q:Rat}:cmpQ p q≤0↔p≤q:=by
 unfold cmpQ
 by_cases h:p<q
 ·rw [if_pos h];exact ⟨fun _=>Rat.le_of_lt h,fun _=>by omega⟩
 ·rw [if_neg h]
  by_cases h2:q<p
  ·rw [if_pos h2];exact ⟨fun h=>by omega,fun h=>absurd h2 (Rat.not_lt.2 h)⟩
  ·rw [if_neg h2];exact ⟨fun _=>Rat.not_lt.1 h2,fun _=>by omega⟩
theorem cmpQ_nonneg {p q:Rat}:0≤cmpQ p q↔q≤p:=by
 unfold cmpQ
 by_cases h:p<q
 ·rw [if_pos h];exact ⟨fun h=>by omega,fun h2=>absurd h (Rat.not_lt.2 h2)⟩
 ·rw [if_neg h]
  by_cases h2:q<p
  ·rw [if_pos h2];exact ⟨fun _=>Rat.le_of_lt h2,fun _=>by omega⟩
  ·rw [if_neg h2];exact ⟨fun _=>Rat.not_lt.1 h,fun _=>by omega⟩
theorem lt_or_eq' {p q:Rat} (h:p≤q):p<q∨p=q:=by
 by_cases e:p=q
 ·exact .inr e
 ·left
  rcases Rat.le_total (a:=q) (b:=p) with h2|h2
  ·exact absurd (Rat.le_antisymm h h2) e
  ·exact Rat.not_le.1 fun h3=>e (Rat.le_antisymm h h3)
theorem lt_trans' {p q r:Rat} (h:p<q) (k:q<r):p<r:=Rat.not_le.1 fun h2=>Rat.not_le.2 h (Rat.le_trans (Rat.le_of_lt k) h2)
theorem lt_tri (p q:Rat):p<q∨p=q∨q<p:=by
 rcases Rat.le_total (a:=p) (b:=q) with h|h
 ·rcases lt_or_eq' h with h|h
  ·exact .inl h
  ·exact .inr (.inl h)
 ·rcases lt_or_eq' h with h|h
  ·exact .inr (.inr h)
  ·exact .inr (.inl h.symm)
theorem cmpP_le {p q:Pt}:cmpP p q≤0↔p.x<q.x∨(p.x=q.x∧p.y≤q.y):=by
 unfold cmpP
 by_cases h:cmpQ p.x q.x=0
 ·rw [if_pos h]
  have e:=cmpQ_zero.1 h
  rw [cmpQ_le,e]
  exact ⟨fun h=> .inr ⟨rfl,h⟩,fun h=>h.elim (fun h=>absurd h Rat.lt_irrefl) (·.2)⟩
 ·rw [if_neg h,cmpQ_le]
  have hne:p.x≠q.x:=fun e=>h (cmpQ_zero.2 e)
  exact ⟨fun h=> .inl ((lt_or_eq' h).resolve_right hne),fun h=>h.elim Rat.le_of_lt (fun h=>absurd h.1 hne)⟩
theorem cmpP_le_trans {p q r:Pt} (h1:cmpP p q≤0) (h2:cmpP q r≤0):cmpP p r≤0:=by
 rw [cmpP_le] at*
 rcases h1 with h1|⟨h1,h1'⟩<;>rcases h2 with h2|⟨h2,h2'⟩
 ·exact .inl (lt_trans' h1 h2)
 ·exact .inl (h2▸h1)
 ·exact .inl (h1▸h2)
 ·exact .inr ⟨h1.trans h2,Rat.le_trans h1' h2'⟩
theorem cmpP_le_total (p q:Pt):cmpP p q≤0∨cmpP q p≤0:=by
 rw [cmpP_le,cmpP_le]
 rcases lt_tri p.x q.x with h|h|h
 ·exact .inl (.inl h)
 ·rcases Rat.le_total (a:=p.y) (b:=q.y) with h2|h2
  ·exact .inl (.inr ⟨h,h2⟩)
  ·exact .inr (.inr ⟨h.symm,h2⟩)
 ·exact .inr (.inl h)
theorem cmpP_self (p:Pt):cmpP p p=0:=by unfold cmpP;rw [if_pos (cmpQ_zero.2 rfl)];exact cmpQ_zero.2 rfl
theorem cmpP_zero {p q:Pt}:cmpP p q=0↔p=q:=by
 constructor
 ·intro h
  unfold cmpP at h
  split at h
  ·rename_i h1;exact Pt.ext (cmpQ_zero.1 h1) (cmpQ_zero.1 h)
  ·contradiction
 ·rintro rfl;exact cmpP_self _
theorem cmpP_pos_le {p q:Pt} (h:0<cmpP p q):cmpP q p≤0:=by
 rcases cmpP_le_total p q with h1|h1
 ·omega
 ·exact h1
theorem order_le (s:Sg):cmpP s.order.a s.order.b≤0:=by
 unfold Sg.order
 split
 ·rename_i h;exact cmpP_pos_le h
 ·omega
end Go.Av
namespace Go.Av
open Go.RowKit
open Go.Proofs.Tryz (prog)
def nx (L:List Pt) (i:Nat):Pt:=L.getD ((i+1)%L.length) default
theorem edges_sc (L:List Pt) {H:Hp} {K:V→Hp→Prop} (hK:K (.clo 200 [] [.ptr H.length 0 0]) (H++[some (.row 1 true [[psV L]])])):SC prog 121 [psV L] H K:=by
 refine SCi ?_
 conv in trip _ _=>cbv
 simp only [runT,RN,simprocAttr]
 simp (disch:=omega) only [↓RS,RZ,simprocAttr,psV]
 exact hK
theorem edges1_sc (L:List Pt) (hn:L.length<2^40) {yb b:Nat} {H:Hp} {K:V→Hp→Prop} (Inv:Nat→Hp→Prop) (Fin:Hp→Prop)
 (hbox:∀ i H,Inv i H→get H b=some (.row 1 true [[psV L]])) (hpad:∀ i H k,Inv i H→Inv i (H++[k]))
 (step:∀ i H,i<L.length→Inv i H→YC prog yb [pV (L.getD i default),pV (nx L i)] H (yQ (Inv (i+1)) Fin))
 (h0:Inv 0 H) (hK:∀ v H,Inv L.length H→K v H) (hF:∀ v H,Fin H→K v H):SC prog 200 [.yld yb,.ptr b 0 0] H K:=by
 refine SCi ?_
 conv in trip _ _=>cbv
 simp only [runT,RN,simprocAttr]
 have hb:=hbox 0 H h0
 simp (disch:=omega) only [↓RS,RZ,simprocAttr,hb,psV,pc_length]
 refine wp_lp (fun (i:Nat) J=>ov [(0,.yld yb),(1,.ptr b 0 0),(5,psV L),(6,.prim (.int .i64 ((L.length:Nat):Int))),(7,.prim (.int .i64 ((i:Nat):Int)))] J 0 25) (fun i H=>i≤L.length∧Inv i H) (fun i=>L.length-i) 0 rfl ⟨Nat.zero_le _,h0⟩ ?_
 rintro i J H ⟨hi,hv⟩
 try conv in ov _ _ _ _=>simp only [ov,List.lookup,RO,simprocAttr]
 rcases Nat.lt_or_ge i L.length with hlt|hge
 ·have g1:=pc_getD hlt
  have m2:=Nat.mod_lt (i+1) (show 0<L.length by omega)
  have g2:=pc_getD m2
  have hb:=hbox i H hv
  have hb1:∀ k,get (H++[k]) b=some (.row 1 true [[psV L]]):=fun k=>get_app hb
  have st:=step i _ hlt (hpad i H (some (.row 6 true [pc (L.getD i default)])) hv)
  simp (disch:=omega) only [↓RS,RZ,simprocAttr,psV,pc_length,g1,g2,pc,hb,hb1,set_app_len,tmodN]
  refine YC.mono ?_ st
  rintro v H' (⟨rfl,h⟩|⟨rfl,h⟩)
  ·simp (disch:=omega) only [↓RS,RZ,simprocAttr]
   exact lp_next (i+1) rfl ⟨hlt,h⟩ (by omega)
  ·simp (disch:=omega) only [↓RS,RZ,simprocAttr]
   exact hF _ _ h
 ·have hia:i=L.length:=by omega
  subst hia
  simp (disch:=omega) only [↓RS,RZ,simprocAttr,psV,pc_length]
  exact hK _ _ hv
def segOf (L:List Pt) (i:Nat):Sg:=⟨L.getD i default,nx L i⟩
def sgc (s:Sg):List V:=[.prim (.bool (can s.a.x).neg),.prim (.string (bs ((can s.a.x).num))),.prim (.string (bs ((can s.a.x).den))),.prim (.bool (can s.a.y).neg),.prim (.string (bs ((can s.a.y).num))),.prim (.string (bs ((can s.a.y).den))),.prim (.bool (can s.b.x).neg),.prim (.string (bs ((can s.b.x).num))),.prim (.string (bs ((can s.b.x).den))),.prim (.bool (can s.b.y).neg),.prim (.string (bs ((can s.b.y).num))),.prim (.string (bs ((can s.b.y).den)))]
def ssV (l:List Sg):V:= .lst 12 (l.map sgc)
def edgesL (L:List Pt):List Sg:=(List.range L.length).map (segOf L)
theorem sgc_prims (l:List Sg):Prims (l.map sgc):=by
 intro e he v hv
 obtain ⟨s,_,rfl⟩:=List.mem_map.1 he
 simp only [sgc,List.mem_cons,List.not_mem_nil,or_false] at hv
 rcases hv with h|h|h|h|h|h|h|h|h|h|h|h<;>exact ⟨_,h⟩
theorem range_map_succ {α:Type} (f:Nat→α) (i:Nat):(List.range (i+1)).map f=(List.range i).map f++[f i]:=by rw [List.range_succ,List.map_append];rfl
theorem Edges_pc (L:List Pt) (hn:L.length≤2^30) (hne:L≠[]):PC prog 202 [psV L] (ssV (edgesL L)):=by
 refine PCi ?_
 conv in trip _ _=>cbv
 simp only [runT,RN,simprocAttr]
 simp (disch:=omega) only [↓RS,RZ,simprocAttr,psV]
 refine call_sc (edges_sc L ?_)
 simp (disch:=omega) only [↓RS,RZ,simprocAttr,psV]
 refine wp_rf mixed (n:=2) (k:=2) rfl rfl rfl (by kernel_rfl) ?_
 conv in lcC _=>cbv
 conv in lcC _=>cbv
 intro R B D hR hyc
 simp only [List.nil_append,List.cons_append] at hyc ⊢
 refine edges1_sc L (by omega) (fun i H=>∃ v,get H 0=some (.row 1 true [[v]])∧get H 1=some (.row 1 true [[psV L]])∧get H 2=some R∧Bufn 3 H v 12 (((List.range i).map (segOf L)).map sgc)) (fun _=>False) ?_ ?_ ?_ ?_ ?_ ?_
 ·rintro i H ⟨v,h⟩;exact h.2.1
 ·rintro i H k ⟨v,h0,h1,h2,h3⟩;exact ⟨v,get_app h0,get_app h1,get_app h2,h3.app _⟩
 ·rintro i H hlt ⟨v,h0,h1,h2,h3⟩
  refine hyc _ _ _ rfl h2 ?_
  have hN:=h3.1
  simp (disch:=omega) only [↓RS,RZ,simprocAttr,pV,ptV,yieldT_cons,yieldT_nil,set_app_len,set_app_len2]
  rw [bgQ_normal]
  refine ⟨by rw [get_app2 (by omega)];exact h2,?_⟩
  obtain ⟨H1,e,f,k2,k3,k4,k5⟩:=two_more (H:=H) (b:=2) (x:=some (.row 6 true [pc (L.getD i default)])) (y:=some (.row 6 true [pc (nx L i)])) (z:=some B) (by omega)
  have q0:get H1 0=some (.row 1 true [[v]]):=by rw [f 0 (by omega) (by omega)];exact h0
  have q1:get H1 1=some (.row 1 true [[psV L]]):=by rw [f 1 (by omega) (by omega)];exact h1
  have q3:Bufn 3 H1 v 12 (((List.range i).map (segOf L)).map sgc):=by rw [←e];exact ((h3.app _).app _).set (by omega)
  simp only [pc] at e k3 k4
  rw [e]
  simp (disch:=omega) only [↓RS,RZ,simprocAttr,q0,k3,k4]
  refine Bufn.append (q3.app _) (by simp [cellV]) (by simp only [List.length_cons,List.length_nil,List.length_map,List.length_range];omega) (by simp only [List.length_cons,List.length_nil,List.length_map,List.length_range];omega) ?_
  intro v' H2 hb hk
  have r0:=hk 0 _ (by omega) (get_app q0)
  have r1:=hk 1 _ (by omega) (get_app q1)
  have r2:=hk 2 _ (by omega) (get_app k2)
  have c1:=hb.one
  have c2:=hb.cel
  simp (disch:=omega) only [↓RS,RZ,simprocAttr,r0,c1,c2]
  rw [rdQ_normal]
  refine ⟨by rw [get_ne (by omega)];exact r2,.inl ⟨rfl,v',?_,?_,?_,?_⟩⟩
  ·rw [get_ne (by omega),get_eq (by have:=hb.1;omega)]
  ·rw [get_ne (by omega),get_ne (by omega)];exact r1
  ·rw [get_eq (by rw [List.length_set];have:=hb.1;omega)]
  ·rw [range_map_succ,List.map_append]
   exact (hb.set (by omega)).set (by omega)
 ·exact ⟨_,rfl,rfl,rfl,.nil (by simp)⟩
 ·rintro v H ⟨u,h0,h1,h2,h3⟩
  refine .inl ⟨h2,?_⟩
  have e0:get (H.set 2 none) 0=some (.row 1 true [[u]]):=by rw [get_ne (by omega)];exact h0
  obtain ⟨b,hb,rfl,hg⟩:=h3.cases (by simpa using hne)
  have e1:get (H.set 2 none) b=some (.row 12 true (((List.range L.length).map (segOf L)).map sgc)):=by rw [get_ne (by omega)];exact hg
  have hvl:= @viewLL_prims (H.set 2 none) 7 _ (sgc_prims ((List.range L.length).map (segOf L)))
  have hlen:(((List.range L.length).map (segOf L)).map sgc).length=L.length:=by simp
  have htk:(((List.range L.length).map (segOf L)).map sgc).take L.length=((List.range L.length).map (segOf L)).map sgc:=by rw [List.take_of_length_le (by omega)]
  simp (disch:=omega) only [↓RS,RZ,simprocAttr,e0,hlen]
  rw [e1]
  simp only [hlen,Nat.le_refl,if_true,htk]
  rw [hvl]
  rfl
 ·exact fun _ _ h=>h.elim
end Go.Av
namespace Go.Av
open Go.RowKit
open Go.Proofs.Tryz (prog)
theorem edgesL_length (L:List Pt):(edgesL L).length=L.length:=by simp [edgesL]
theorem sgc_length (l:List Sg):(l.map sgc).length=l.length:=List.length_map ..
theorem edges_getD {L:List Pt} {i:Nat} (h:i<L.length):((edgesL L).map sgc).getD i []=sgc (segOf L i):=by
 unfold edgesL
 rw [List.getD_eq_getElem?_getD,List.getElem?_map,List.getElem?_map,List.getElem?_range h];rfl
theorem hp_nx {L:List Pt} {k i:Nat} (h:hl L k) (hi:i<L.length):hp (nx L i)≤k:=hl_get h (Nat.mod_lt _ (by omega))
theorem hs_seg {L:List Pt} {k i:Nat} (h:hl L k) (hi:i<L.length):hs (segOf L i)≤k:=hs_mk (hl_get h hi) (hp_nx h hi)
def crossAt (L:List Pt) (i k:Nat):Bool:=decide (i+2≤k)&&(!(decide (i=0)&&decide (k=L.length-1))&&(meetM (segOf L i) (segOf L k)).isSome)
def crossB (L:List Pt):Bool:=(List.range L.length).any fun i=>(List.range L.length).any fun k=>crossAt L i k
theorem crossB_true {L:List Pt} {i k:Nat} (hi:i<L.length) (hk:k<L.length) (h:crossAt L i k=true):crossB L=true:=
 List.any_eq_true.2 ⟨i,by simpa using hi,List.any_eq_true.2 ⟨k,by simpa using hk,h⟩⟩
theorem crossB_false {L:List Pt} (h:∀ i,i<L.length→∀ k,k<L.length→crossAt L i k=false):crossB L=false:=by
 unfold crossB
 rw [List.any_eq_false]
 intro i hi
 simp only [List.mem_range] at hi
 rw [Bool.not_eq_true,List.any_eq_false]
 intro k hk
 simp only [List.mem_range] at hk
 simp [h i hi k hk]
theorem crossB_get {L:List Pt} (h:crossB L=false) {i k:Nat} (hi:i<L.length) (hk:k<L.length):crossAt L i k=false:=by
 cases h2:crossAt L i k with
 |false=>rfl
 |true=>rw [crossB_true hi hk h2] at h;cases h
theorem crossing_pc (L:List Pt) (hn:L.length≤2^20) (hne:L≠[]) (hL:hl L (2^20)):PC prog 206 [psV L] (.prim (.bool (crossB L))):=by
 have hpos:0<L.length:=List.length_pos_iff.2 hne
 refine PCi ?_
 conv in trip _ _=>cbv
 simp only [runT,RN,simprocAttr]
 have e:=Edges_pc L (by omega) hne
 simp (disch:=omega) only [↓RS,RZ,simprocAttr,psV]
 refine cX e ?_
 simp (disch:=omega) only [↓RS,RZ,simprocAttr,ssV,sgc_length,edgesL_length]
 refine wp_lp (fun (i:Nat) J=>ov [(3,ssV (edgesL L)),(4,.prim (.int .i64 ((L.length:Nat):Int))),(15,.prim (.int .i64 ((L.length:Nat):Int))),(16,.prim (.int .i64 ((i:Nat):Int)))] J 0 49) (fun i _=>i≤L.length∧∀ j,j<i→∀ k,k<L.length→crossAt L j k=false) (fun i=>L.length-i) 0 rfl ⟨Nat.zero_le _,fun j hj=>absurd hj (Nat.not_lt_zero j)⟩ ?_
 rintro i J H ⟨hi,hp⟩
 try conv in ov _ _ _ _=>simp only [ov,List.lookup,RO,simprocAttr]
 rcases Nat.lt_or_ge i L.length with hlt|hge
 ·simp (disch:=omega) only [↓RS,RZ,simprocAttr,ssV,sgc_length,edgesL_length]
  refine wp_lp (fun (k:Nat) J=>ov [(3,ssV (edgesL L)),(4,.prim (.int .i64 ((L.length:Nat):Int))),(5,.prim (.int .i64 ((i:Nat):Int))),(6,.prim (.int .i64 ((k:Nat):Int))),(15,.prim (.int .i64 ((L.length:Nat):Int))),(16,.prim (.int .i64 ((i:Nat):Int)))] J 0 49) (fun k _=>i+2≤k∧∀ j,j<k→j<L.length→crossAt L i j=false) (fun k=>L.length-k) (i+2) rfl ⟨Nat.le_refl _,fun j hj _=>by
   unfold crossAt;rw [decide_eq_false (by omega)];rfl⟩ ?_
  rintro k J H ⟨hk,hq⟩
  try conv in ov _ _ _ _=>simp only [ov,List.lookup,RO,simprocAttr]
  rcases Nat.lt_or_ge k L.length with hkl|hkg
  ·have g1:=edges_getD hlt
   have g2:=edges_getD hkl
   have m:=Smeet_pc (segOf L i) (segOf L k) (hs_seg hL hlt) (hs_seg hL hkl)
   by_cases hz:i=0∧k=L.length-1
   ·obtain ⟨rfl,hz⟩:=hz
    simp (disch:=omega) only [↓RS,RZ,simprocAttr,ssV,sgc_length,edgesL_length]
    exact lp_next (k+1) rfl ⟨by omega,fun j hj hjl=>by
     rcases Nat.lt_or_ge j k with h|h
     ·exact hq j h hjl
     ·unfold crossAt;rw [decide_eq_true (show j=L.length-1 by omega)];simp⟩ (by omega)
   ·have fin:∀ b,(meetM (segOf L i) (segOf L k)).isSome=b→crossAt L i k=b:=by
     intro b hb
     unfold crossAt
     rw [hb,decide_eq_true hk,←Bool.decide_and,decide_eq_false hz];simp
    by_cases hi0:i=0
    ·subst hi0
     have hk1:k≠L.length-1:=fun h=>hz ⟨rfl,h⟩
     simp (disch:=omega) only [↓RS,RZ,simprocAttr,ssV,sgc_length,edgesL_length,g1,g2,sgc,set_app_len]
     refine cX m ?_
     cases hm:(meetM (segOf L 0) (segOf L k)).isSome with
     |true=>
      rw [crossB_true hlt hkl (fin _ hm)]
      simp (disch:=omega) only [↓RS,RZ,simprocAttr,sgV,s4V,set_app_len]
     |false=>
      simp (disch:=omega) only [↓RS,RZ,simprocAttr,sgV,s4V,set_app_len]
      exact lp_next (k+1) rfl ⟨by omega,fun j hj hjl=>by
       rcases Nat.lt_or_ge j k with h|h
       ·exact hq j h hjl
       ·rw [show j=k by omega];exact fin _ hm⟩ (by omega)
    ·simp (disch:=omega) only [↓RS,RZ,simprocAttr,ssV,sgc_length,edgesL_length,g1,g2,sgc,set_app_len]
     refine cX m ?_
     cases hm:(meetM (segOf L i) (segOf L k)).isSome with
     |true=>
      rw [crossB_true hlt hkl (fin _ hm)]
      simp (disch:=omega) only [↓RS,RZ,simprocAttr,sgV,s4V,set_app_len]
     |false=>
      simp (disch:=omega) only [↓RS,RZ,simprocAttr,sgV,s4V,set_app_len]
      exact lp_next (k+1) rfl ⟨by omega,fun j hj hjl=>by
       rcases Nat.lt_or_ge j k with h|h
       ·exact hq j h hjl
       ·rw [show j=k by omega];exact fin _ hm⟩ (by omega)
  ·simp (disch:=omega) only [↓RS,RZ,simprocAttr]
   exact lp_next (i+1) rfl ⟨hlt,fun j hj k' hk'=>by
    rcases Nat.lt_or_ge j i with h|h
    ·exact hp j h k' hk'
    ·rw [show j=i by omega];exact hq k' (by omega) hk'⟩ (by omega)
 ·have hia:i=L.length:=by omega
  subst hia
  rw [crossB_false hp]
  simp (disch:=omega) only [↓RS,RZ,simprocAttr,ssV,sgc_length,edgesL_length]
end Go.Av
