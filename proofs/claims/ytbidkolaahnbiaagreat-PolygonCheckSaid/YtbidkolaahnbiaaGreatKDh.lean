/- Helping texts: Dh, Di. -/
import Derived.Test.YtbidkolaahnbiaaGreatKDb
set_option linter.unusedSimpArgs false
set_option linter.unusedVariables false
set_option maxRecDepth 100000
set_option maxHeartbeats 16000000
namespace Go.Av
open Go.RowKit
open Go.Proofs.Tryz (prog)
def qc (q:Rat):List V:=[.prim (.bool (can q).neg),.prim (.string (bs ((can q).num))),.prim (.string (bs ((can q).den)))]
def areaTo (L:List Pt):Nat→Rat
 |0=>0
 |i+1=>areaTo L i+cross (L.getD i default) (nx L i)
def areaL (L:List Pt):Rat:=areaTo L L.length/2
theorem ht_areaTo {L:List Pt} {k:Nat} (h:hl L k):∀ i,i≤L.length→ht (areaTo L i)≤i*(4*k+2)+1
 |0,_=>by simpa [areaTo] using ht_zero
 |i+1,hi=>by
  have h1:=ht_areaTo h i (by omega)
  have h2:=ht_add (areaTo L i) (cross (L.getD i default) (nx L i))
  have h3:=ht_cross (L.getD i default) (nx L i)
  have h4:=hl_get h (show i<L.length by omega)
  have h5:=hp_nx h (show i<L.length by omega)
  unfold areaTo
  rw [Nat.add_mul]
  omega
theorem ht_two:ht 2≤1:= @ht_int 2 (by omega)
theorem Area_pc (L:List Pt) (hn:L.length≤2^10) (hL:hl L (2^16)):PC prog 53 [psV L] (qV (areaL L)):=by
 have ha:∀ i,i≤L.length→ht (areaTo L i)≤2^29:=fun i hi=>by
  have:=ht_areaTo hL i hi
  have h2:i*(4*2^16+2)≤2^10*(4*2^16+2):=Nat.mul_le_mul_right _ (by omega)
  omega
 refine PCi ?_
 conv in trip _ _=>cbv
 simp only [runT,RN,simprocAttr]
 simp (disch:=omega) only [↓RS,RZ,simprocAttr,psV]
 refine call_sc (edges_sc L ?_)
 simp (disch:=omega) only [↓RS,RZ,simprocAttr,psV]
 refine wp_rf mixed (n:=3) (k:=2) rfl rfl rfl (by kernel_rfl) ?_
 conv in lcC _=>cbv
 conv in lcC _=>cbv
 intro R B D hR hyc
 simp only [List.nil_append,List.cons_append] at hyc ⊢
 refine edges1_sc L (by omega) (fun i H=>get H 0=some (.row 3 true [qc 0])∧get H 1=some (.row 3 true [qc (areaTo L i)])∧get H 2=some (.row 1 true [[psV L]])∧get H 3=some R) (fun _=>False) ?_ ?_ ?_ ?_ ?_ ?_
 ·rintro i H ⟨_,_,h,_⟩;exact h
 ·rintro i H k ⟨h0,h1,h2,h3⟩;exact ⟨get_app h0,get_app h1,get_app h2,get_app h3⟩
 ·rintro i H hlt ⟨h0,h1,h2,h3⟩
  have hN:=get_lt_len h3
  refine hyc _ _ _ rfl h3 ?_
  simp (disch:=omega) only [↓RS,RZ,simprocAttr,pV,ptV,yieldT_cons,yieldT_nil,set_app_len,set_app_len2]
  rw [bgQ_normal]
  refine ⟨by rw [get_app2 hN];exact h3,?_⟩
  obtain ⟨H1,e,f,k2,k3,k4,k5⟩:=two_more (H:=H) (b:=3) (x:=some (.row 6 true [pc (L.getD i default)])) (y:=some (.row 6 true [pc (nx L i)])) (z:=some B) hN
  have q0:get H1 0=some (.row 3 true [qc 0]):=by rw [f 0 (by omega) (by omega)];exact h0
  have q1:get H1 1=some (.row 3 true [qc (areaTo L i)]):=by rw [f 1 (by omega) (by omega)];exact h1
  have q2:get H1 2=some (.row 1 true [[psV L]]):=by rw [f 2 (by omega) (by omega)];exact h2
  simp only [pc] at e k3 k4
  rw [e]
  have b1:=hl_get hL hlt
  have b2:=hp_nx hL hlt
  have b3:=ha i (by omega)
  have b4:=ht_cross (L.getD i default) (nx L i)
  have c:=vcross_pc (L.getD i default) (nx L i) (by omega) (by omega)
  have a:=addQ_pc (areaTo L i) (cross (L.getD i default) (nx L i)) (by omega) (by omega)
  simp (disch:=omega) only [↓RS,RZ,simprocAttr,q1,k3,k4,qc]
  refine cX c ?_
  simp (disch:=omega) only [↓RS,RZ,simprocAttr,qV,rV]
  refine cX a ?_
  simp (disch:=omega) only [↓RS,RZ,simprocAttr,qV,rV,q1,qc]
  rw [rdQ_normal]
  refine ⟨by rw [get_ne (by omega)];exact k2,.inl ⟨rfl,?_,?_,?_,?_⟩⟩
  ·rw [get_ne (by omega),get_ne (by omega)];exact q0
  ·rw [get_ne (by omega),get_eq (by omega)];rfl
  ·rw [get_ne (by omega),get_ne (by omega)];exact q2
  ·rw [get_eq (by rw [List.length_set];omega)]
 ·have hz:qc 0=[.prim (.bool false),.prim (.string (bs ([]))),.prim (.string (bs ([])))]:=by simp only [qc,can_zero]
  have hz2:qc (areaTo L 0)=[.prim (.bool false),.prim (.string (bs ([]))),.prim (.string (bs ([])))]:=hz
  rw [hz,hz2]
  exact ⟨rfl,rfl,rfl,rfl⟩
 ·rintro v H ⟨h0,h1,h2,h3⟩
  have hN:=get_lt_len h3
  refine .inl ⟨h3,?_⟩
  have e0:get (H.set 3 none) 0=some (.row 3 true [qc 0]):=by rw [get_ne (by omega)];exact h0
  have e1:get (H.set 3 none) 1=some (.row 3 true [qc (areaTo L L.length)]):=by rw [get_ne (by omega)];exact h1
  have hH:2<(H.set 3 none).length:=by rw [List.length_set];omega
  generalize H.set 3 none=H1 at e0 e1 hH ⊢
  have o:=ofQ_pc 2 (by omega) (by omega)
  have q:=quoQ_pc (areaTo L L.length) 2 (by have:=ha _ (Nat.le_refl L.length);omega) (by have:=ht_two;omega) (by decide+kernel)
  simp (disch:=omega) only [↓RS,RZ,simprocAttr,e1,qc]
  refine cX o ?_
  simp (disch:=omega) only [↓RS,RZ,simprocAttr,qV,rV,e1,qc]
  refine cX q ?_
  have hne:(H1.length==1)=false:=by rw [beq_eq_false_iff_ne];omega
  have g0:∀ x,get (H1++[x]) 0=some (.row 3 true [qc 0]):=fun x=>get_app e0
  have g1:∀ x y,get ((H1++[x]).set 0 y) 0=y:=fun x y=>get_eq (by rw [List.length_append];omega)
  simp (disch:=omega) only [↓RS,RZ,simprocAttr,qV,rV,hne,set_app_len,g0,g1,qc]
  rfl
 ·exact fun _ _ h=>h.elim
end Go.Av
namespace Go.Av
open Go.RowKit
open Go.Proofs.Tryz (prog)
def aboveB (p q:Pt):Bool:=decide (0<cmpQ q.y p.y)
theorem above_sc (p q:Pt) (h1:hp p≤2^26) (h2:hp q≤2^26) {b:Nat} {H:Hp} {K:V→Hp→Prop} (hb:get H b=some (.row 6 true [pc p])) (hK:∀ H',Ext H H'→K (.prim (.bool (aboveB p q))) H'):
 SC prog 211 [pV q,.ptr b 0 0] H K:=by
 have hb1:∀ k,get (H++[k]) b=some (.row 6 true [pc p]):=fun k=>get_app hb
 have a1:=hp_y p;have a2:=hp_y q
 have c:=cmpQ_pc q.y p.y (by omega) (by omega)
 refine SCi ?_
 conv in trip _ _=>cbv
 simp only [runT,RN,simprocAttr]
 have hlt:aboveB p q=decide (0<cmpQ q.y p.y):=rfl
 simp (disch:=omega) only [↓RS,RZ,simprocAttr,pV,ptV,hb1,pc]
 refine cX c ?_
 cases h:aboveB p q with
 |true=>
  rw [hlt,decide_eq_true_eq] at h
  have:=hK _ (Ext.app [some (.row 6 true [pc q])])
  simp (disch:=omega) only [↓RS,RZ,simprocAttr]
  rw [hlt,decide_eq_true h] at this
  exact this
 |false=>
  rw [hlt,decide_eq_false_iff_not] at h
  have:=hK _ (Ext.app [some (.row 6 true [pc q])])
  simp (disch:=omega) only [↓RS,RZ,simprocAttr]
  rw [hlt,decide_eq_false h] at this
  exact this
def oddStep (p a b:Pt) (out:Bool):Bool:=
 if aboveB p a then (if !aboveB p b&&decide (0<orient b a p) then !out else out) else if aboveB p b&&decide (0<orient a b p) then !out else out
def oddTo (L:List Pt) (p:Pt):Nat→Bool
 |0=>false
 |i+1=>oddStep p (L.getD i default) (nx L i) (oddTo L p i)
def oddInv (L:List Pt) (p:Pt) (R:Blk) (i:Nat) (H:Hp):Prop:=
 get H 0=some (.row 6 true [pc p])∧get H 1=some (.row 1 true [[.clo 211 [] [.ptr 0 0 0]]])∧get H 2=some (.row 1 true [[.prim (.bool (oddTo L p i))]])∧get H 3=some (.row 1 true [[psV L]])∧get H 4=some R
theorem odd_pc (L:List Pt) (p:Pt) (hn:L.length≤2^30) (hL:hl L (2^20)) (hp0:hp p≤2^20):PC prog 135 [psV L,pV p] (.prim (.bool (oddTo L p L.length))):=by
 refine PCi ?_
 conv in trip _ _=>cbv
 simp only [runT,RN,simprocAttr]
 simp (disch:=omega) only [↓RS,RZ,simprocAttr,psV,pV,ptV]
 refine call_sc (edges_sc L ?_)
 simp (disch:=omega) only [↓RS,RZ,simprocAttr,psV]
 refine wp_rf mixed (n:=4) (k:=2) rfl rfl rfl (by kernel_rfl) ?_
 conv in lcC _=>cbv
 conv in lcC _=>cbv
 intro R B D hR hyc
 simp only [List.nil_append,List.cons_append] at hyc ⊢
 refine edges1_sc L (by omega) (oddInv L p R) (fun _=>False) ?_ ?_ ?_ ?_ ?_ ?_
 ·rintro i H h;exact h.2.2.2.1
 ·rintro i H k ⟨h0,h1,h2,h3,h4⟩;exact ⟨get_app h0,get_app h1,get_app h2,get_app h3,get_app h4⟩
 ·rintro i H hlt ⟨h0,h1,h2,h3,h4⟩
  have hN:=get_lt_len h4
  refine hyc _ _ _ rfl h4 ?_
  clear hyc
  simp (disch:=omega) only [↓RS,RZ,simprocAttr,pV,ptV,yieldT_cons,yieldT_nil,set_app_len,set_app_len2]
  rw [bgQ_normal]
  refine ⟨by rw [get_app2 hN];exact h4,?_⟩
  obtain ⟨H1,e,f,g4,gn1,gn2,k5⟩:=two_more (H:=H) (b:=4) (x:=some (.row 6 true [pc (L.getD i default)])) (y:=some (.row 6 true [pc (nx L i)])) (z:=some B) hN
  have g0:get H1 0=some (.row 6 true [pc p]):=by rw [f 0 (by omega) (by omega)];exact h0
  have g1:get H1 1=some (.row 1 true [[.clo 211 [] [.ptr 0 0 0]]]):=by rw [f 1 (by omega) (by omega)];exact h1
  have g2:get H1 2=some (.row 1 true [[.prim (.bool (oddTo L p i))]]):=by rw [f 2 (by omega) (by omega)];exact h2
  have g3:get H1 3=some (.row 1 true [[psV L]]):=by rw [f 3 (by omega) (by omega)];exact h3
  have hn2:(H++[some (Blk.row 6 true [pc (L.getD i default)])]).length=H.length+1:=by rw [List.length_append];rfl
  have hn1:5≤H.length:=hN
  simp only [pc] at e gn2 hn2
  rw [e]
  clear e f h0 h1 h2 h3 h4 hN
  generalize (H++[some (Blk.row 6 true [_])]).length=n2 at gn2 hn2 ⊢
  generalize H.length=n1 at gn1 hn1 hn2 k5 ⊢
  have gn2:get H1 n2=some (.row 6 true [pc (nx L i)]):=gn2
  have b1:=hl_get hL hlt
  have b2:=hp_nx hL hlt
  have o1:=orient_pc (L.getD i default) (nx L i) p (by omega) (by omega) (by omega)
  have o2:=orient_pc (nx L i) (L.getD i default) p (by omega) (by omega) (by omega)
  have fin:∀ (T:List V) (H':Hp) (o:Bool),get H' 0=some (.row 6 true [pc p])→get H' 1=some (.row 1 true [[.clo 211 [] [.ptr 0 0 0]]])→get H' 2=some (.row 1 true [[.prim (.bool o)]])→get H' 3=some (.row 1 true [[psV L]])→get H' 4=some B→
   oddTo L p (i+1)=o→rdQ 4 R B D (yQ (oddInv L p R (i+1)) (fun _=>False)) .normal T H':=by
   rintro T H' o x0 x1 x2 x3 x4 rfl
   rw [rdQ_normal]
   exact ⟨x4,.inl ⟨rfl,by rw [get_ne (by omega)];exact x0,by rw [get_ne (by omega)];exact x1,by rw [get_ne (by omega)];exact x2,by rw [get_ne (by omega)];exact x3,get_eq (get_lt_len x4)⟩⟩
  simp (disch:=omega) only [↓RS,RZ,simprocAttr,g1,gn1,pc]
  refine call_sc (above_sc p (L.getD i default) (by omega) (by omega) g0 ?_)
  intro H2 hE
  have q0:=hE.get g0
  have q1:=hE.get g1
  have q2:=hE.get g2
  have q3:=hE.get g3
  have q4:=hE.get g4
  have qn1:=hE.get gn1
  have qn2:=hE.get gn2
  clear g0 g1 g2 g3 g4 gn1 gn2 k5
  cases ha:aboveB p (L.getD i default) with
  |true=>
   have l1:=get_lt_len qn1
   have l2:=get_lt_len qn2
   have s1:∀ x y,get ((H2.set n1 x).set n2 y) n1=x:=fun x y=>by rw [get_ne (by omega),get_eq l1]
   have s2:∀ x y,get ((H2.set n1 x).set n2 y) n2=y:=fun x y=>get_eq (by rw [List.length_set];exact l2)
   simp (disch:=omega) only [↓RS,RZ,simprocAttr,q1,qn1,qn2,pc,get_ne,s1,s2]
   generalize hH3:(H2.set n1 _).set n2 _=H3
   have t0:get H3 0=some (.row 6 true [pc p]):=by rw [←hH3,get_ne (by omega),get_ne (by omega)];exact q0
   have t1:get H3 1=some (.row 1 true [[.clo 211 [] [.ptr 0 0 0]]]):=by rw [←hH3,get_ne (by omega),get_ne (by omega)];exact q1
   have t2:get H3 2=some (.row 1 true [[.prim (.bool (oddTo L p i))]]):=by rw [←hH3,get_ne (by omega),get_ne (by omega)];exact q2
   have t3:get H3 3=some (.row 1 true [[psV L]]):=by rw [←hH3,get_ne (by omega),get_ne (by omega)];exact q3
   have t4:get H3 4=some B:=by rw [←hH3,get_ne (by omega),get_ne (by omega)];exact q4
   have tn1:get H3 n1=some (.row 6 true [pc (nx L i)]):=by rw [←hH3];exact s1 _ _
   have tn2:get H3 n2=some (.row 6 true [pc (L.getD i default)]):=by rw [←hH3];exact s2 _ _
   clear hH3 s1 s2 q0 q1 q2 q3 q4 qn1 qn2 l1 l2 hE
   refine call_sc (above_sc p (nx L i) (by omega) (by omega) t0 ?_)
   intro H4 hE2
   have u0:=hE2.get t0
   have u1:=hE2.get t1
   have u2:=hE2.get t2
   have u3:=hE2.get t3
   have u4:=hE2.get t4
   have un1:=hE2.get tn1
   have un2:=hE2.get tn2
   clear t0 t1 t2 t3 t4 tn1 tn2 hE2
   cases hb:aboveB p (nx L i) with
   |true=>
    simp (disch:=omega) only [↓RS,RZ,simprocAttr]
    exact fin _ _ _ u0 u1 u2 u3 u4 (by simp only [oddTo,oddStep,ha,hb,Bool.not_true,Bool.not_false,Bool.false_and,Bool.true_and,decide_true,decide_false,Bool.false_eq_true,if_true,if_false,Bool.and_false])
   |false=>
    simp (disch:=omega) only [↓RS,RZ,simprocAttr,u1,un2,pc]
    refine call_sc (above_sc p (L.getD i default) (by omega) (by omega) u0 ?_)
    intro H5 hE3
    have w0:=hE3.get u0
    have w1:=hE3.get u1
    have w2:=hE3.get u2
    have w3:=hE3.get u3
    have w4:=hE3.get u4
    have wn1:=hE3.get un1
    have wn2:=hE3.get un2
    rw [ha]
    simp (disch:=omega) only [↓RS,RZ,simprocAttr,w0,wn1,wn2,pc]
    refine cX o2 ?_
    by_cases ho:0<orient (nx L i) (L.getD i default) p
    ·simp (disch:=omega) only [↓RS,RZ,simprocAttr,w2]
     refine fin _ _ _ (by rw [get_ne (by omega)];exact w0) (by rw [get_ne (by omega)];exact w1) (get_eq (get_lt_len w2)) (by rw [get_ne (by omega)];exact w3) (by rw [get_ne (by omega)];exact w4) (by simp only [oddTo,oddStep,ha,hb,ho,Bool.not_true,Bool.not_false,Bool.false_and,Bool.true_and,decide_true,decide_false,Bool.false_eq_true,if_true,if_false,Bool.and_false])
    ·simp (disch:=omega) only [↓RS,RZ,simprocAttr]
     exact fin _ _ _ w0 w1 w2 w3 w4 (by simp only [oddTo,oddStep,ha,hb,ho,Bool.not_true,Bool.not_false,Bool.false_and,Bool.true_and,decide_true,decide_false,Bool.false_eq_true,if_true,if_false,Bool.and_false])
  |false=>
   simp (disch:=omega) only [↓RS,RZ,simprocAttr,q1,qn1,pc]
   refine call_sc (above_sc p (L.getD i default) (by omega) (by omega) q0 ?_)
   intro H4 hE2
   have u0:=hE2.get q0
   have u1:=hE2.get q1
   have u2:=hE2.get q2
   have u3:=hE2.get q3
   have u4:=hE2.get q4
   have un1:=hE2.get qn1
   have un2:=hE2.get qn2
   rw [ha]
   simp (disch:=omega) only [↓RS,RZ,simprocAttr,u1,un2,pc]
   refine call_sc (above_sc p (nx L i) (by omega) (by omega) u0 ?_)
   intro H5 hE3
   have w0:=hE3.get u0
   have w1:=hE3.get u1
   have w2:=hE3.get u2
   have w3:=hE3.get u3
   have w4:=hE3.get u4
   have wn1:=hE3.get un1
   have wn2:=hE3.get un2
   cases hb:aboveB p (nx L i) with
   |true=>
    simp (disch:=omega) only [↓RS,RZ,simprocAttr,w0,wn1,wn2,pc]
    refine cX o1 ?_
    by_cases ho:0<orient (L.getD i default) (nx L i) p
    ·simp (disch:=omega) only [↓RS,RZ,simprocAttr,w2]
     refine fin _ _ _ (by rw [get_ne (by omega)];exact w0) (by rw [get_ne (by omega)];exact w1) (get_eq (get_lt_len w2)) (by rw [get_ne (by omega)];exact w3) (by rw [get_ne (by omega)];exact w4) (by simp only [oddTo,oddStep,ha,hb,ho,Bool.not_true,Bool.not_false,Bool.false_and,Bool.true_and,decide_true,decide_false,Bool.false_eq_true,if_true,if_false,Bool.and_false])
    ·simp (disch:=omega) only [↓RS,RZ,simprocAttr]
     exact fin _ _ _ w0 w1 w2 w3 w4 (by simp only [oddTo,oddStep,ha,hb,ho,Bool.not_true,Bool.not_false,Bool.false_and,Bool.true_and,decide_true,decide_false,Bool.false_eq_true,if_true,if_false,Bool.and_false])
   |false=>
    simp (disch:=omega) only [↓RS,RZ,simprocAttr]
    exact fin _ _ _ w0 w1 w2 w3 w4 (by simp only [oddTo,oddStep,ha,hb,Bool.not_true,Bool.not_false,Bool.false_and,Bool.true_and,decide_true,decide_false,Bool.false_eq_true,if_true,if_false,Bool.and_false])
 ·exact ⟨rfl,rfl,rfl,rfl,rfl⟩
 ·rintro v H ⟨h0,h1,h2,h3,h4⟩
  refine .inl ⟨h4,?_⟩
  have e:get (H.set 4 none) 2=some (.row 1 true [[.prim (.bool (oddTo L p L.length))]]):=by rw [get_ne (by omega)];exact h2
  simp (disch:=omega) only [↓RS,RZ,simprocAttr,e]
 ·exact fun _ _ h=>h.elim
end Go.Av
