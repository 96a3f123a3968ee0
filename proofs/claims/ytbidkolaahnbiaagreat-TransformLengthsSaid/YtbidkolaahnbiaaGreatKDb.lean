/- Helping texts: Db, Dc, Dd, Ma. -/
import Derived.Test.YtbidkolaahnbiaaGreatKDa
set_option linter.unusedSimpArgs false
set_option linter.unusedVariables false
set_option maxRecDepth 100000
set_option maxHeartbeats 16000000
namespace Go.Av
open Go.RowKit
open Go.Proofs.Tryz (prog)
def Rp.ok (p:Rp):Bool:=decide (p.x=can p.x.val∧p.y=can p.y.val)
def Rp.le (p:Rp) (k:Nat):Prop:=p.x.le k∧p.y.le k
theorem canon1_pc (p:Rp) (h:p.le (2^32)):PC prog 209 [rpV p] (.prim (.bool (!p.ok))):=by
 refine PCi ?_
 conv in trip _ _=>cbv
 simp only [runT,RN,simprocAttr]
 have c:=vcheck_pc p.x p.y h.1 h.2
 by_cases ho:p.x=can p.x.val∧p.y=can p.y.val
 ·have e:p.ok=true:=decide_eq_true ho
  rw [if_pos ho] at c
  rw [e]
  simp (disch:=omega) only [↓RS,RZ,simprocAttr,rpV,ptV]
  refine cX c ?_
  simp (disch:=omega) only [↓RS,RZ,simprocAttr]
 ·have e:p.ok=false:=decide_eq_false ho
  rw [if_neg ho] at c
  rw [e]
  simp (disch:=omega) only [↓RS,RZ,simprocAttr,rpV,ptV]
  refine cX c ?_
  simp (disch:=omega) only [↓RS,RZ,simprocAttr]
def allOk (l:List Rp):Bool:=(List.range l.length).all fun i=>(l.getD i default).ok
theorem canonical_pc (l:List Rp) (hl:l.length<2^40) (h:∀ p∈l,p.le (2^32)):PC prog 133 [rpsV l] (.prim (.bool (allOk l))):=by
 refine PCi ?_
 conv in trip _ _=>cbv
 simp only [runT,RN,simprocAttr]
 have c:=containsP_pc l 209 (fun i=> !(l.getD i default).ok) hl (fun i hi=>canon1_pc _ (h _ (by
  rw [List.getD_eq_getElem?_getD,List.getElem?_eq_getElem hi];exact List.getElem_mem hi)))
 have e:(!(List.range l.length).any fun i=> !(l.getD i default).ok)=allOk l:=by
  unfold allOk;rw [List.all_eq_not_any_not]
 simp (disch:=omega) only [↓RS,RZ,simprocAttr,rpsV]
 refine cX c ?_
 simp (disch:=omega) only [↓RS,RZ,simprocAttr,e]
instance:Inhabited Pt:=⟨pt0⟩
def pc (p:Pt):List V:=[.prim (.bool (can p.x).neg),.prim (.string (bs ((can p.x).num))),.prim (.string (bs ((can p.x).den))),.prim (.bool (can p.y).neg),.prim (.string (bs ((can p.y).num))),.prim (.string (bs ((can p.y).den)))]
def psV (L:List Pt):V:= .lst 6 (L.map pc)
theorem pc_getD {l:List Pt} {k:Nat} (h:k<l.length):(l.map pc).getD k []=pc (l.getD k default):=by
 rw [List.getD_eq_getElem?_getD,List.getD_eq_getElem?_getD,List.getElem?_map,List.getElem?_eq_getElem h];rfl
theorem pc_length (l:List Pt):(l.map pc).length=l.length:=List.length_map ..
def Pt.rp (p:Pt):Rp:=⟨can p.x,can p.y⟩
theorem psV_rps (L:List Pt):psV L=rpsV (L.map Pt.rp):=by unfold psV rpsV;rw [List.map_map];rfl
def hl (L:List Pt) (k:Nat):Prop:=∀ p∈L,hp p≤k
theorem hl_get {L:List Pt} {k i:Nat} (h:hl L k) (hi:i<L.length):hp (L.getD i default)≤k:=by
 refine h _ ?_
 rw [List.getD_eq_getElem?_getD,List.getElem?_eq_getElem hi];exact List.getElem_mem hi
def flatAt (L:List Pt) (i:Nat):Bool:=decide (orient (L.getD ((i+L.length-1)%L.length) default) (L.getD i default) (L.getD ((i+1)%L.length) default)=0)
theorem flat_pc (L:List Pt) (hn:L.length<2^40) (hL:hl L (2^26)):PC prog 205 [psV L] (.prim (.int .i64 (idxP L.length (flatAt L)))):=by
 refine PCi ?_
 conv in trip _ _=>cbv
 simp only [runT,RN,simprocAttr]
 simp (disch:=omega) only [↓RS,RZ,simprocAttr,psV,pc_length]
 refine wp_lp (fun (i:Nat) J=>ov [(0,psV L),(2,.prim (.int .i64 (0))),(3,.prim (.int .i64 ((L.length:Nat):Int))),(8,psV L),(9,.prim (.int .i64 ((L.length:Nat):Int))),(10,.prim (.int .i64 ((i:Nat):Int)))] J 0 36) (fun i _=>i≤L.length∧∀ j,j<i→flatAt L j=false) (fun i=>L.length-i) 0 rfl ⟨Nat.zero_le _,fun j hj=>absurd hj (Nat.not_lt_zero j)⟩ ?_
 rintro i J H ⟨hi,hp⟩
 try conv in ov _ _ _ _=>simp only [ov,List.lookup,RO,simprocAttr]
 rcases Nat.lt_or_ge i L.length with hlt|hge
 ·have m1:=Nat.mod_lt (i+L.length-1) (show 0<L.length by omega)
  have m2:=Nat.mod_lt (i+1) (show 0<L.length by omega)
  have g1:=pc_getD hlt
  have g2:=pc_getD m1
  have g3:=pc_getD m2
  have o:=orient_pc _ _ _ (hl_get hL m1) (hl_get hL hlt) (hl_get hL m2)
  simp (disch:=omega) only [↓RS,RZ,simprocAttr,psV,pc_length,g1,g2,g3,pc,tmodN,set_app_len]
  refine cX o ?_
  by_cases hz:orient (L.getD ((i+L.length-1)%L.length) default) (L.getD i default) (L.getD ((i+1)%L.length) default)=0
  ·rw [idxP_found hlt (decide_eq_true hz) hp]
   simp (disch:=omega) only [↓RS,RZ,simprocAttr,hz]
  ·simp (disch:=omega) only [↓RS,RZ,simprocAttr]
   exact lp_next (i+1) rfl ⟨hlt,fun j hj=>by
    rcases Nat.lt_or_ge j i with h|h
    ·exact hp j h
    ·rw [show j=i by omega];exact decide_eq_false hz⟩ (by omega)
 ·have hia:i=L.length:=by omega
  subst hia
  rw [idxP_none hp]
  simp (disch:=omega) only [↓RS,RZ,simprocAttr,psV,pc_length]
end Go.Av
namespace Go.Av
open Go.RowKit
open Go.Proofs.Tryz (prog)
def leastTo (L:List Pt):Nat→Nat
 |0=>0
 |i+1=>if cmpP (L.getD i default) (L.getD (leastTo L i) default)<0 then i else leastTo L i
theorem leastTo_lt {L:List Pt}:∀ {i:Nat},0<i→leastTo L i<i
 |i+1,_=>by
  unfold leastTo
  split
  ·omega
  ·rcases Nat.eq_zero_or_pos i with h|h
   ·subst h;simp [leastTo]
   ·have:=leastTo_lt (L:=L) h;omega
theorem leastTo_le {L:List Pt} (i:Nat):leastTo L i≤i:=by
 rcases Nat.eq_zero_or_pos i with h|h
 ·subst h;simp [leastTo]
 ·exact Nat.le_of_lt (leastTo_lt h)
theorem first_pc (L:List Pt) (hn:L.length<2^40) (hL:hl L (2^26)):PC prog 207 [psV L] (.prim (.int .i64 ((leastTo L L.length:Nat):Int))):=by
 refine PCi ?_
 conv in trip _ _=>cbv
 simp only [runT,RN,simprocAttr]
 simp (disch:=omega) only [↓RS,RZ,simprocAttr,psV,pc_length]
 refine wp_lp (fun (i:Nat) J=>ov [(0,psV L),(2,.prim (.int .i64 (0))),(3,.prim (.int .i64 ((leastTo L i:Nat):Int))),(6,psV L),(7,.prim (.int .i64 ((L.length:Nat):Int))),(8,.prim (.int .i64 ((i:Nat):Int)))] J 0 23) (fun i _=>i≤L.length) (fun i=>L.length-i) 0 rfl (Nat.zero_le _) ?_
 rintro i J H hi
 try conv in ov _ _ _ _=>simp only [ov,List.lookup,RO,simprocAttr]
 rcases Nat.lt_or_ge i L.length with hlt|hge
 ·have hk:leastTo L i<L.length:=Nat.lt_of_le_of_lt (leastTo_le i) hlt
  have e:leastTo L (i+1)=if cmpP (L.getD i default) (L.getD (leastTo L i) default)<0 then i else leastTo L i:=rfl
  generalize leastTo L i=k at*
  have g1:=pc_getD hlt
  have g2:=pc_getD hk
  have o:=vcmp_pc (L.getD i default) (L.getD k default) (Nat.le_trans (hl_get hL hlt) (by omega)) (Nat.le_trans (hl_get hL hk) (by omega))
  simp (disch:=omega) only [↓RS,RZ,simprocAttr,psV,pc_length,g1,g2,pc,set_app_len]
  refine cX o ?_
  by_cases hz:cmpP (L.getD i default) (L.getD k default)<0
  ·rw [if_pos hz] at e
   simp (disch:=omega) only [↓RS,RZ,simprocAttr]
   exact lp_next (i+1) (by rw [e];rfl) hlt (by omega)
  ·rw [if_neg hz] at e
   simp (disch:=omega) only [↓RS,RZ,simprocAttr]
   exact lp_next (i+1) (by rw [e];rfl) hlt (by omega)
 ·have hia:i=L.length:=by omega
  subst hia
  simp (disch:=omega) only [↓RS,RZ,simprocAttr,psV,pc_length]
end Go.Av
namespace Go.Av
open Go.RowKit
open Go.Proofs.Tryz (prog)
theorem eqA_pt {X Y Z W:Rt}:eqA (tyOf prog) 9 31 (.agg [.prim (.bool X.neg),.prim (.string (bs (X.num))),.prim (.string (bs (X.den))),.prim (.bool Y.neg),.prim (.string (bs (Y.num))),.prim (.string (bs (Y.den)))]) (.agg [.prim (.bool Z.neg),.prim (.string (bs (Z.num))),.prim (.string (bs (Z.den))),.prim (.bool W.neg),.prim (.string (bs (W.num))),.prim (.string (bs (W.den)))])=some (decide (X=Z∧Y=W)):=by
 have h1:= @eqA_rat 6 X.neg Z.neg X.num X.den Z.num Z.den
 have h2:= @eqA_rat 6 Y.neg W.neg Y.num Y.den W.num W.den
 unfold eqA
 simp only [RT,eqA.eqFs,Bool.false_eq_true,if_false,String.reduceEq,readAt,TK.isAgg,if_true,List.length_cons,List.length_nil,Nat.reduceAdd,Nat.reduceLeDiff,List.drop_zero,List.drop_succ_cons,List.take_succ_cons,List.take_zero,h1,h2]
 have e1:decide (Rt.mk X.neg X.num X.den=Rt.mk Z.neg Z.num Z.den)=decide (X=Z):=rfl
 have e2:decide (Rt.mk Y.neg Y.num Y.den=Rt.mk W.neg W.num W.den)=decide (Y=W):=rfl
 rw [e1,e2]
 by_cases a:X=Z<;>by_cases b:Y=W<;>simp [a,b]
theorem can_eq (p q:Pt):decide (can p.x=can q.x∧can p.y=can q.y)=decide (p=q):=by
 rw [decide_eq_decide]
 exact ⟨fun h=>Pt.ext (can_inj h.1) (can_inj h.2),fun h=>by subst h;exact ⟨rfl,rfl⟩⟩
theorem mem_range (L:List Pt) (q:Pt):((List.range L.length).any fun i=>decide (q=L.getD i default))=decide (q∈L):=by
 rw [Bool.eq_iff_iff,List.any_eq_true,decide_eq_true_eq]
 constructor
 ·rintro ⟨i,hi,h⟩
  have hi:i<L.length:=by simpa using hi
  rw [of_decide_eq_true h,List.getD_eq_getElem?_getD,List.getElem?_eq_getElem hi];exact List.getElem_mem hi
 ·intro h
  obtain ⟨i,hi,rfl⟩:=List.mem_iff_getElem.1 h
  exact ⟨i,by simpa using hi,decide_eq_true (by rw [List.getD_eq_getElem?_getD,List.getElem?_eq_getElem hi];rfl)⟩
theorem equalV_pc (L M:List Pt) (hn:L.length<2^40) (hm:M.length<2^40):PC prog 69 [psV L,psV M] (.prim (.bool (decide (L=M)))):=by
 refine PCi ?_
 conv in trip _ _=>cbv
 simp only [runT,RN,simprocAttr]
 by_cases hlen:L.length=M.length
 ·simp (disch:=omega) only [↓RS,RZ,simprocAttr,psV,pc_length]
  refine wp_lp (fun (i:Nat) J=>ov [(0,psV L),(1,psV M),(4,.prim (.bool false)),(11,psV L),(12,.prim (.int .i64 ((L.length:Nat):Int))),(13,.prim (.int .i64 ((i:Nat):Int)))] J 0 26) (fun i H=>(i≤L.length∧∀ j,j<i→L.getD j default=M.getD j default)∧H=[]) (fun i=>L.length-i) 0 rfl ⟨⟨Nat.zero_le _,fun j hj=>absurd hj (Nat.not_lt_zero j)⟩,rfl⟩ ?_
  rintro i J _ ⟨⟨hi,hp⟩,rfl⟩
  try conv in ov _ _ _ _=>simp only [ov,List.lookup,RO,simprocAttr]
  rcases Nat.lt_or_ge i L.length with hlt|hge
  ·have g1:=pc_getD hlt
   have g2:=pc_getD (l:=M) (k:=i) (by omega)
   have e:=can_eq (L.getD i default) (M.getD i default)
   by_cases hz:L.getD i default=M.getD i default
   ·rw [decide_eq_true hz] at e
    simp (disch:=omega) only [↓RS,RZ,simprocAttr,psV,pc_length,g1,g2,pc,eqA_pt,e]
    exact lp_next (i+1) rfl ⟨⟨hlt,fun j hj=>by
     rcases Nat.lt_or_ge j i with h|h
     ·exact hp j h
     ·rw [show j=i by omega];exact hz⟩,rfl⟩ (by omega)
   ·rw [decide_eq_false hz] at e
    have hne:decide (L=M)=false:=decide_eq_false (fun h=>hz (by rw [h]))
    rw [hne]
    simp (disch:=omega) only [↓RS,RZ,simprocAttr,psV,pc_length,g1,g2,pc,eqA_pt,e]
  ·have hia:i=L.length:=by omega
   subst hia
   have heq:L=M:=by
    refine List.ext_getElem hlen fun k h1 h2=> ?_
    have:=hp k h1
    rwa [List.getD_eq_getElem?_getD,List.getD_eq_getElem?_getD,List.getElem?_eq_getElem h1,List.getElem?_eq_getElem h2] at this
   rw [decide_eq_true heq]
   simp (disch:=omega) only [↓RS,RZ,simprocAttr,psV,pc_length]
 ·have hne:decide (L=M)=false:=decide_eq_false (fun h=>hlen (by rw [h]))
  rw [hne]
  simp (disch:=omega) only [↓RS,RZ,simprocAttr,psV,pc_length]
end Go.Av
namespace Go.Av
theorem cmpQ_le {p q:Rat}:cmpQ p q≤0↔p≤q:=by
 unfold cmpQ
 by_cases h:p<q
 ·rw [if_pos h];exact ⟨fun _=>Rat.le_of_lt h,fun _=>by omega⟩
 ·rw [if_neg h]
  by_cases h2:q<p
  ·rw [if_pos h2];exact ⟨fun h=>by omega,fun h=>absurd h2 (Rat.not_lt.2 h)⟩
  ·rw [if_neg h2];exact ⟨fun _=>Rat.not_lt.1 h2,fun _=>by omega⟩
theorem cmpQ_nonneg {p q:Rat}:0≤cmpQ p q↔q≤p:=by
 unfold cmpQ
 by_cases h:p<q
 ·rw [if_pos h];exact ⟨fun h=>by omega,fun h2=>absurd h (Rat.not_lt.2 h2)⟩
 ·rw [if_neg h]
  by_cases h2:q<p
  ·rw [if_pos h2];exact ⟨fun _=>Rat.le_of_lt h2,fun _=>by omega⟩
  ·rw [if_neg h2];exact ⟨fun _=>Rat.not_lt.1 h,fun _=>by omega⟩
theorem lt_or_eq' {p q:Rat} (h:p≤q):p<q∨p=q:=by
 by_cases e:p=q
 ·exact .inr e
 ·left
  rcases Rat.le_total (a:=q) (b:=p) with h2|h2
  ·exact absurd (Rat.le_antisymm h h2) e
  ·exact Rat.not_le.1 fun h3=>e (Rat.le_antisymm h h3)
theorem lt_trans' {p q r:Rat} (h:p<q) (k:q<r):p<r:=Rat.not_le.1 fun h2=>Rat.not_le.2 h (Rat.le_trans (Rat.le_of_lt k) h2)
theorem lt_tri (p q:Rat):p<q∨p=q∨q<p:=by
 rcases Rat.le_total (a:=p) (b:=q) with h|h
 ·rcases lt_or_eq' h with h|h
  ·exact .inl h
  ·exact .inr (.inl h)
 ·rcases lt_or_eq' h with h|h
  ·exact .inr (.inr h)
  ·exact .inr (.inl h.symm)
theorem cmpP_le {p q:Pt}:cmpP p q≤0↔p.x<q.x∨(p.x=q.x∧p.y≤q.y):=by
 unfold cmpP
 by_cases h:cmpQ p.x q.x=0
 ·rw [if_pos h]
  have e:=cmpQ_zero.1 h
  rw [cmpQ_le,e]
  exact ⟨fun h=> .inr ⟨rfl,h⟩,fun h=>h.elim (fun h=>absurd h Rat.lt_irrefl) (·.2)⟩
 ·rw [if_neg h,cmpQ_le]
  have hne:p.x≠q.x:=fun e=>h (cmpQ_zero.2 e)
  exact ⟨fun h=> .inl ((lt_or_eq' h).resolve_right hne),fun h=>h.elim Rat.le_of_lt (fun h=>absurd h.1 hne)⟩
theorem cmpP_le_trans {p q r:Pt} (h1:cmpP p q≤0) (h2:cmpP q r≤0):cmpP p r≤0:=by
 rw [cmpP_le] at*
 rcases h1 with h1|⟨h1,h1'⟩<;>rcases h2 with h2|⟨h2,h2'⟩
 ·exact .inl (lt_trans' h1 h2)
 ·exact .inl (h2▸h1)
 ·exact .inl (h1▸h2)
 ·exact .inr ⟨h1.trans h2,Rat.le_trans h1' h2'⟩
theorem cmpP_le_total (p q:Pt):cmpP p q≤0∨cmpP q p≤0:=by
 rw [cmpP_le,cmpP_le]
 rcases lt_tri p.x q.x with h|h|h
 ·exact .inl (.inl h)
 ·rcases Rat.le_total (a:=p.y) (b:=q.y) with h2|h2
  ·exact .inl (.inr ⟨h,h2⟩)
  ·exact .inr (.inr ⟨h.symm,h2⟩)
 ·exact .inr (.inl h)
theorem cmpP_self (p:Pt):cmpP p p=0:=by unfold cmpP;rw [if_pos (cmpQ_zero.2 rfl)];exact cmpQ_zero.2 rfl
theorem cmpP_zero {p q:Pt}:cmpP p q=0↔p=q:=by
 constructor
 ·intro h
  unfold cmpP at h
  split at h
  ·rename_i h1;exact Pt.ext (cmpQ_zero.1 h1) (cmpQ_zero.1 h)
  ·contradiction
 ·rintro rfl;exact cmpP_self _
theorem cmpP_pos_le {p q:Pt} (h:0<cmpP p q):cmpP q p≤0:=by
 rcases cmpP_le_total p q with h1|h1
 ·omega
 ·exact h1
theorem order_le (s:Sg):cmpP s.order.a s.order.b≤0:=by
 unfold Sg.order
 split
 ·rename_i h;exact cmpP_pos_le h
 ·omega
end Go.Av
