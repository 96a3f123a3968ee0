/- Helping texts: Dv, Dw, Dx, Dy. -/
import Derived.Test.YtbidkolaahnbiaaGreatKDs
set_option linter.unusedSimpArgs false
set_option linter.unusedVariables false
set_option maxRecDepth 100000
set_option maxHeartbeats 16000000
namespace Go.Av
open Go.RowKit
open Go.Proofs.Tryz (prog)
def blockB (s t:Sg):Bool:=(meetM s t).isSome&&(decide (((meetM s t).getD sg0).a≠((meetM s t).getD sg0).b)||(decide (((meetM s t).getD sg0).a≠s.a)&&decide (((meetM s t).getD sg0).a≠s.b)))
theorem eqA_p (p q:Pt):eqA (tyOf prog) 9 31 (.agg [.prim (.bool (can p.x).neg),.prim (.string (bs ((can p.x).num))),.prim (.string (bs ((can p.x).den))),.prim (.bool (can p.y).neg),.prim (.string (bs ((can p.y).num))),.prim (.string (bs ((can p.y).den)))]) (.agg [.prim (.bool (can q.x).neg),.prim (.string (bs ((can q.x).num))),.prim (.string (bs ((can q.x).den))),.prim (.bool (can q.y).neg),.prim (.string (bs ((can q.y).num))),.prim (.string (bs ((can q.y).den)))])=some (decide (p=q)):=by
 rw [eqA_pt,can_eq]
theorem diag1_sc (s t:Sg) (h1:hs s≤2^20) (h2:hs t≤2^20) {b:Nat} {H:Hp} {K:V→Hp→Prop} (hb:get H b=some (.row 12 true [sgc s])) (hK:∀ H',Ext H H'→K (.prim (.bool (blockB s t))) H'):
 SC prog 149 [sgV t,.ptr b 0 0] H K:=by
 have c:=Smeet_pc s t h1 h2
 have w1:∀ x,get (H++[x]) b=some (.row 12 true [sgc s]):=fun x=>get_app hb
 have w2:∀ x y,get (H++[x]++[y]) b=some (.row 12 true [sgc s]):=fun x y=>get_app (get_app hb)
 refine SCi ?_
 conv in trip _ _=>cbv
 simp only [runT,RN,simprocAttr]
 simp (disch:=omega) only [↓RS,RZ,simprocAttr,sgV,s4V,w1,sgc]
 refine cX c ?_
 have hB:blockB s t=((meetM s t).isSome&&(decide (((meetM s t).getD sg0).a≠((meetM s t).getD sg0).b)||(decide (((meetM s t).getD sg0).a≠s.a)&&decide (((meetM s t).getD sg0).a≠s.b)))):=rfl
 generalize (meetM s t).isSome=is at hB ⊢
 generalize (meetM s t).getD sg0=m at hB ⊢
 have K2:∀ x y,K (.prim (.bool (blockB s t))) (H++[x]++[y]):=fun x y=>hK _ ((Ext.app _).trans (Ext.app _))
 cases is with
 |false=>
  rw [hB] at K2
  simp (disch:=omega) only [↓RS,RZ,simprocAttr,sgV,s4V,set_app_len,w2,sgc]
  exact K2 _ _
 |true=>
  by_cases e1:m.a=m.b
  ·have d1:decide (m.a=m.b)=true:=decide_eq_true e1
   by_cases e2:m.a=s.a
   ·have d2:decide (m.a=s.a)=true:=decide_eq_true e2
    have hB':blockB s t=false:=by
     have k1:decide (m.a≠m.b)=false:=decide_eq_false (fun h=>h e1)
     have k2:decide (m.a≠s.a)=false:=decide_eq_false (fun h=>h e2)
     rw [hB,k1,k2];rfl
    rw [hB'] at K2
    simp (disch:=omega) only [↓RS,RZ,simprocAttr,sgV,s4V,set_app_len,w2,sgc,eqA_p,d1,d2]
    exact K2 _ _
   ·have d2:decide (m.a=s.a)=false:=decide_eq_false e2
    by_cases e3:m.a=s.b
    ·have d3:decide (m.a=s.b)=true:=decide_eq_true e3
     have hB':blockB s t=false:=by
      have k1:decide (m.a≠m.b)=false:=decide_eq_false (fun h=>h e1)
      have k2:decide (m.a≠s.b)=false:=decide_eq_false (fun h=>h e3)
      rw [hB,k1,k2];simp
     rw [hB'] at K2
     simp (disch:=omega) only [↓RS,RZ,simprocAttr,sgV,s4V,set_app_len,w2,sgc,eqA_p,d1,d2,d3]
     exact K2 _ _
    ·have d3:decide (m.a=s.b)=false:=decide_eq_false e3
     have hB':blockB s t=true:=by rw [hB,decide_eq_true e2,decide_eq_true e3];simp
     rw [hB'] at K2
     simp (disch:=omega) only [↓RS,RZ,simprocAttr,sgV,s4V,set_app_len,w2,sgc,eqA_p,d1,d2,d3]
     exact K2 _ _
  ·have d1:decide (m.a=m.b)=false:=decide_eq_false e1
   have hB':blockB s t=true:=by rw [hB,decide_eq_true e1];simp
   rw [hB'] at K2
   simp (disch:=omega) only [↓RS,RZ,simprocAttr,sgV,s4V,set_app_len,w2,sgc,eqA_p,d1]
   exact K2 _ _
theorem find_sc (E:List Sg) (s:Sg) (h1:hs s≤2^20) (h2:∀ t∈E,hs t≤2^20) (hn:E.length<2^40) {b:Nat} {H:Hp} {K:V→Hp→Prop} (hb:get H b=some (.row 12 true [sgc s]))
 (hK:∀ x H',Ext H H'→K (.tup [sgV x,.prim (.bool (anyTo E.length fun i=>blockB s (E.getD i sg0)))]) H'):
 SC prog 148 [ssV E,.clo 149 [] [.ptr b 0 0]] H K:=by
 have hbl:=get_lt_len hb
 refine SCi ?_
 conv in trip _ _=>cbv
 simp only [runT,RN,simprocAttr]
 have hz:sgc sg0=[.prim (.bool false),.prim (.string (bs ([]))),.prim (.string (bs ([]))),.prim (.bool false),.prim (.string (bs ([]))),.prim (.string (bs ([]))),.prim (.bool false),.prim (.string (bs ([]))),.prim (.string (bs ([]))),.prim (.bool false),.prim (.string (bs ([]))),.prim (.string (bs ([])))]:=by simp only [sgc,sg0,pt0,can_zero]
 simp (disch:=omega) only [↓RS,RZ,simprocAttr,ssV,sgc_length]
 refine wp_lp (fun (i:Nat) J=>ov [(0,ssV E),(1,.clo 149 [] [.ptr b 0 0]),(4,.ptr H.length 0 0),(5,.prim (.bool false)),(9,ssV E),(10,.prim (.int .i64 ((E.length:Nat):Int))),(11,.prim (.int .i64 ((i:Nat):Int)))] J 0 21)
  (fun i H'=>i≤E.length∧(∀ j,j<i→blockB s (E.getD j sg0)=false)∧Ext H H'∧get H' H.length=some (.row 12 true [sgc sg0])) (fun i=>E.length-i) 0 rfl ⟨Nat.zero_le _,fun j hj=>absurd hj (Nat.not_lt_zero j),Ext.app _,by rw [get_app_len,hz]⟩ ?_
 rintro i J H1 ⟨hi,hp,hE,hg⟩
 try conv in ov _ _ _ _=>simp only [ov,List.lookup,RO,simprocAttr]
 rcases Nat.lt_or_ge i E.length with hlt|hge
 ·have g:=sgc_getD hlt
  have ht:hs (E.getD i sg0)≤2^20:=h2 _ (by rw [List.getD_eq_getElem?_getD,List.getElem?_eq_getElem hlt];exact List.getElem_mem hlt)
  simp (disch:=omega) only [↓RS,RZ,simprocAttr,ssV,sgc_length,g,sgc,set_app_len]
  refine call_sc (diag1_sc s (E.getD i sg0) h1 ht (get_app (hE.get hb)) ?_)
  intro H2 hE2
  have g2:get H2 H.length=some (.row 12 true [sgc sg0]):=hE2.get (get_app hg)
  have g3:get H2 H1.length=some (.row 12 true [sgc (E.getD i sg0)]):=hE2.get get_app_len
  have hE3:Ext H H2:=hE.trans ((Ext.app _).trans hE2)
  have hl:=get_lt_len g2
  have hl1:=get_lt_len hg
  cases hB:blockB s (E.getD i sg0) with
  |true=>
   have s4:∀ x,get (H2.set H.length x) H.length=x:=fun x=>get_eq hl
   have fin:∀ k,K (.tup [sgV (E.getD i sg0),.prim (.bool true)]) (H2.set H.length k):=by
    intro k
    have:=hK (E.getD i sg0) (H2.set H.length k) ⟨by rw [List.length_set];exact hE3.len,fun {c k} hc=>by
     rw [get_ne (by have:=get_lt_len hc;omega)];exact hE3.get hc⟩
    rw [anyTo_true hlt hB] at this
    exact this
   simp (disch:=omega) only [↓RS,RZ,simprocAttr,g2,g3,sgc,s4]
   exact fin _
  |false=>
   simp (disch:=omega) only [↓RS,RZ,simprocAttr]
   exact lp_next (i+1) rfl ⟨hlt,fun j hj=>by
    rcases Nat.lt_or_ge j i with h|h
    ·exact hp j h
    ·rw [show j=i by omega];exact hB,hE3,g2⟩ (by omega)
 ·have hia:i=E.length:=by omega
  subst hia
  have hl1:=get_lt_len hg
  have fin:∀ k l,K (.tup [sgV sg0,.prim (.bool false)]) ((H1++[l]).set H.length k):=by
   intro k l
   have:=hK sg0 ((H1++[l]).set H.length k) ⟨by rw [List.length_set,List.length_append];have:=hE.len;omega,fun {c k} hc=>by
    rw [get_ne (by have:=get_lt_len hc;omega)];exact get_app (hE.get hc)⟩
   rw [anyTo_false hp] at this
   exact this
  have s4:∀ x y,get ((H1++[x]).set H.length y) H.length=y:=fun x y=>get_eq (by rw [List.length_append];omega)
  have s5:∀ x,get (H1++[x]) H.length=some (.row 12 true [sgc sg0]):=fun x=>get_app hg
  have hne:(H1.length==H.length)=false:=by rw [beq_eq_false_iff_ne];omega
  have fin2:=fun k l=>fin k l
  rw [sgV0] at fin2
  simp (disch:=omega) only [↓RS,RZ,simprocAttr,ssV,sgc_length,s4,s5,hne,hz]
  exact fin2 _ _
end Go.Av
namespace Go.Av
open Go.RowKit
open Go.Proofs.Tryz (prog)
theorem dl_small {n:Nat} (h:n<256):dl n≤1:=by
 rw [←len_dl]
 by_cases h0:n=0
 ·subst h0;simp [digitsOf_zero]
 ·rw [digitsOf_pos h0,show n/256=0 by omega,digitsOf_zero];simp
theorem half_pc:PC prog 151 [.prim (.int .i64 (1)),.prim (.int .i64 (2))] (.tup [qV (1/2),.prim (.int .i64 (0))]):=by
 have o1:=of_pc 1 (by omega) (by omega)
 have o2:=of_pc 2 (by omega) (by omega)
 have d1:= @dl_small 1 (by omega)
 have d2:= @dl_small 2 (by omega)
 have n:=newC_pc 1 2 (by simp only [Int.natAbs_one];omega) (by show dl 2<_;omega)
 rw [if_neg (by omega),show qI 1 2=1/2 by decide+kernel] at n
 refine PCi ?_
 conv in trip _ _=>cbv
 simp only [runT,RN,simprocAttr]
 simp (disch:=omega) only [↓RS,RZ,simprocAttr]
 refine cX o1 ?_
 simp (disch:=omega) only [↓RS,RZ,simprocAttr,cI,iN]
 refine cX o2 ?_
 simp (disch:=omega) only [↓RS,RZ,simprocAttr,cI,iN]
 refine cX n ?_
 simp (disch:=omega) only [↓RS,RZ,simprocAttr,qV,rV]
def blockedP (E:List Sg) (s:Sg):Bool:=anyTo E.length fun i=>blockB s (E.getD i sg0)
def diagS (L:List Pt) (Hs:List (List Pt)) (s:Sg):Bool×Int:=
 if cmpP s.a s.b=0 then (false,12)
 else if s.a∈cornersTo (L::Hs) (Hs.length+1)∧s.b∈cornersTo (L::Hs) (Hs.length+1) then
  (!blockedP (edgesTo (L::Hs) (Hs.length+1)) s&&decide (0<whereS L Hs (s.a.at s.b (1/2))),0)
 else (false,0)
theorem hl_corners {L:List Pt} {Hs:List (List Pt)} (hg:Rgs L Hs):∀ i,i≤Hs.length+1→hl (cornersTo (L::Hs) i) (2^16)
 |0,_=>by intro p hp;simp [cornersTo] at hp
 |i+1,hi=>by
  intro p hp
  rw [cornersTo,List.mem_append] at hp
  rcases hp with hp|hp
  ·exact hl_corners hg i (by omega) p hp
  ·exact (hg.get (i:=i) (by omega)).ht p hp
theorem hs_edges {L:List Pt} {Hs:List (List Pt)} (hg:Rgs L Hs):∀ i,i≤Hs.length+1→∀ t∈edgesTo (L::Hs) i,hs t≤2^16
 |0,_=>by intro p hp;simp [edgesTo] at hp
 |i+1,hi=>by
  intro p hp
  rw [edgesTo,List.mem_append] at hp
  rcases hp with hp|hp
  ·exact hs_edges hg i (by omega) p hp
  ·obtain ⟨j,hj,rfl⟩:=List.mem_map.1 hp
   exact hs_seg (hg.get (i:=i) (by omega)).ht (by simpa using hj)
theorem Diagonal_pc {O:List Rp} {hr:List (List Rp)} (h:Fine O hr) (s:Sg) (h1:hs s≤2^16):PC prog 70 [cgV (pts O) (hr.map pts),sgV s] (.tup [.prim (.bool (diagS (pts O) (hr.map pts) s).1),.prim (.int .i64 ((diagS (pts O) (hr.map pts) s).2))]):=by
 have ck:=h.check_pc
 have hg:=h.rgs
 generalize hr.map pts=Hs at*
 generalize pts O=L at*
 have cc:=corners_pc _ _ hg
 have ce:=edges_pc _ _ hg
 have hlC:=hl_corners hg (Hs.length+1) (Nat.le_refl _)
 have hsE:=hs_edges hg (Hs.length+1) (Nat.le_refl _)
 obtain ⟨lC,lE⟩:=cornersTo_le hg (Hs.length+1) (Nat.le_refl _)
 have hf:=hg.few
 have hD:diagS L Hs s=if cmpP s.a s.b=0 then (false,12) else if s.a∈cornersTo (L::Hs) (Hs.length+1)∧s.b∈cornersTo (L::Hs) (Hs.length+1) then
  (!blockedP (edgesTo (L::Hs) (Hs.length+1)) s&&decide (0<whereS L Hs (s.a.at s.b (1/2))),0) else (false,0):=rfl
 generalize cornersTo (L::Hs) (Hs.length+1)=C at*
 generalize edgesTo (L::Hs) (Hs.length+1)=E at*
 have a4:=hs_a s;have a5:=hs_b s
 have v1:=vcheckP_pc s.a (by omega)
 have v2:=vcheckP_pc s.b (by omega)
 have sc:=scheck_pc s (by omega)
 have x1:=containsV_pc C s.a (by omega)
 have x2:=containsV_pc C s.b (by omega)
 have hh:ht (1/2)≤3:=by have:=ht_div 1 2;have:=ht_two;have e:ht 1≤1:= @ht_int 1 (by omega);omega
 have at_:=vat_pc s.a s.b (1/2) (by omega) (by omega) (by omega)
 have hat:=hp_at s.a s.b (1/2)
 have w:=where_pc L Hs (s.a.at s.b (1/2)) hg (by omega)
 refine PCi ?_
 conv in trip _ _=>cbv
 simp only [runT,RN,simprocAttr]
 simp (disch:=omega) only [↓RS,RZ,simprocAttr,cgV,psV,sgV,s4V]
 refine cX ck ?_
 simp (disch:=omega) only [↓RS,RZ,simprocAttr,psV,sgV,s4V]
 refine cX v1 ?_
 simp (disch:=omega) only [↓RS,RZ,simprocAttr,psV,sgV,s4V]
 refine cX v2 ?_
 simp (disch:=omega) only [↓RS,RZ,simprocAttr,psV,sgV,s4V]
 refine cX sc ?_
 by_cases hz:cmpP s.a s.b=0
 ·rw [if_pos hz] at hD
  rw [hD,if_pos hz]
  simp (disch:=omega) only [↓RS,RZ,simprocAttr]
 rw [if_neg hz] at hD
 rw [if_neg hz]
 simp (disch:=omega) only [↓RS,RZ,simprocAttr,psV,sgV,s4V]
 refine cX cc ?_
 simp (disch:=omega) only [↓RS,RZ,simprocAttr,psV,sgV,s4V]
 refine cX x1 ?_
 by_cases hA:s.a∈C
 ·rw [decide_eq_true hA]
  simp (disch:=omega) only [↓RS,RZ,simprocAttr,psV,sgV,s4V]
  refine cX x2 ?_
  by_cases hB:s.b∈C
  ·rw [if_pos ⟨hA,hB⟩] at hD
   rw [decide_eq_true hB,hD]
   simp (disch:=omega) only [↓RS,RZ,simprocAttr,psV,sgV,s4V]
   refine cX ce ?_
   simp (disch:=omega) only [↓RS,RZ,simprocAttr,ssV]
   refine call_sc (find_sc E s (by omega) (fun t ht=>Nat.le_trans (hsE t ht) (by omega)) (by omega) rfl ?_)
   intro x H' hE
   have e0:get H' 0=some (.row 2 true [[psV L,.lst 1 ((Hs.map psV).map fun v=>[v])]]):=hE.get rfl
   have e1:get H' 1=some (.row 12 true [sgc s]):=hE.get rfl
   clear hE
   have w0:∀ x y,get (H'++[x]++[y]) 0=some (.row 2 true [[psV L,.lst 1 ((Hs.map psV).map fun v=>[v])]]):=fun x y=>get_app (get_app e0)
   have w1:∀ x y,get (H'++[x]++[y]) 1=some (.row 12 true [sgc s]):=fun x y=>get_app (get_app e1)
   have hbp:(anyTo E.length fun i=>blockB s (E.getD i sg0))=blockedP E s:=rfl
   rw [hbp]
   have hf:=half_pc
   cases hb:blockedP E s with
   |true=>
    simp (disch:=omega) only [↓RS,RZ,simprocAttr,sgV,s4V,set_app_len]
    refine cX hf ?_
    simp (disch:=omega) only [↓RS,RZ,simprocAttr,qV,rV,set_app_len]
   |false=>
    simp (disch:=omega) only [↓RS,RZ,simprocAttr,sgV,s4V,set_app_len]
    refine cX hf ?_
    simp (disch:=omega) only [↓RS,RZ,simprocAttr,qV,rV,set_app_len,w0,w1,sgc,psV]
    refine cX at_ ?_
    simp (disch:=omega) only [↓RS,RZ,simprocAttr,pV,ptV,psV]
    refine cX w ?_
    by_cases hw:0<whereS L Hs (s.a.at s.b (1/2))
    ·rw [decide_eq_true hw]
     simp (disch:=omega) only [↓RS,RZ,simprocAttr]
    ·rw [decide_eq_false hw]
     simp (disch:=omega) only [↓RS,RZ,simprocAttr]
  ·rw [if_neg (fun h=>hB h.2)] at hD
   rw [decide_eq_false hB,hD]
   simp (disch:=omega) only [↓RS,RZ,simprocAttr]
 ·rw [if_neg (fun h=>hA h.1)] at hD
  rw [decide_eq_false hA,hD]
  simp (disch:=omega) only [↓RS,RZ,simprocAttr]
end Go.Av
namespace Go.Av
open Go.RowKit
open Go.Proofs.Tryz (prog)
def sqL (a b:Int):List Pt:=[⟨a,a⟩,⟨b,a⟩,⟨b,b⟩,⟨a,b⟩]
theorem square_pc (a b:Int) (ha:a.natAbs<256) (hb:b.natAbs<256):PC prog 199 [.prim (.int .i64 (a)),.prim (.int .i64 (b))] (psV (sqL a b)):=by
 have c1:=vof_pc a a ha ha
 have c2:=vof_pc b a hb ha
 have c3:=vof_pc b b hb hb
 have c4:=vof_pc a b ha hb
 refine PCi ?_
 conv in trip _ _=>cbv
 simp only [runT,RN,simprocAttr]
 simp (disch:=omega) only [↓RS,RZ,simprocAttr]
 refine cX c1 ?_
 simp (disch:=omega) only [↓RS,RZ,simprocAttr,pV,ptV]
 refine cX c2 ?_
 simp (disch:=omega) only [↓RS,RZ,simprocAttr,pV,ptV]
 refine cX c3 ?_
 simp (disch:=omega) only [↓RS,RZ,simprocAttr,pV,ptV]
 refine cX c4 ?_
 simp (disch:=omega) only [↓RS,RZ,simprocAttr,pV,ptV]
 rfl
def exO:List Pt:=sqL 0 6
def exH:List Pt:=sqL 2 4
theorem Example_pc:PC prog 120 [] (cgV exO [exH]):=by
 have c1:=square_pc 0 6 (by decide) (by decide)
 have c2:=square_pc 2 4 (by decide) (by decide)
 have e1:psV (sqL 0 6)= .lst 6 (exO.map pc):=rfl
 have e2:psV (sqL 2 4)= .lst 6 (exH.map pc):=rfl
 rw [e1] at c1
 rw [e2] at c2
 generalize exO=A at*
 generalize exH=B at*
 refine PCi ?_
 conv in trip _ _=>cbv
 simp only [runT,RN,simprocAttr]
 simp (disch:=omega) only [↓RS,RZ,simprocAttr]
 refine cX c1 ?_
 simp (disch:=omega) only [↓RS,RZ,simprocAttr]
 refine cX c2 ?_
 simp (disch:=omega) only [↓RS,RZ,simprocAttr]
 rfl
theorem hl_of {L:List Pt} {k:Nat} (hk:1≤k) (h:∀ p∈L,∃ x y:Int,p=⟨x,y⟩∧x.natAbs<256∧y.natAbs<256):hl L k:=by
 intro p hp
 obtain ⟨x,y,rfl,hx,hy⟩:=h p hp
 exact Nat.le_trans (hp_mk (ht_int hx) (ht_int hy)) hk
theorem hl_sq {a b:Int} (ha:a.natAbs<256) (hb:b.natAbs<256):hl (sqL a b) (2^16):=by
 refine hl_of (by omega) fun p hp=> ?_
 simp only [sqL,List.mem_cons,List.not_mem_nil,or_false] at hp
 rcases hp with rfl|rfl|rfl|rfl
 ·exact ⟨a,a,rfl,ha,ha⟩
 ·exact ⟨b,a,rfl,hb,ha⟩
 ·exact ⟨b,b,rfl,hb,hb⟩
 ·exact ⟨a,b,rfl,ha,hb⟩
theorem chk_O:chkC exO=0:=by decide+kernel
theorem chk_H:chkC exH=0:=by decide+kernel
theorem ex_meet:meetB exH exO=false:=by decide+kernel
theorem ex_in:withinB exH exO=true:=by decide+kernel
def exOr:List Rp:=exO.map Pt.rp
def exHr:List (List Rp):=[exH.map Pt.rp]
theorem exO_pts:pts exOr=exO:=pts_rp _
theorem exH_pts:exHr.map pts=[exH]:=by unfold exHr;rw [List.map_cons,List.map_nil,pts_rp]
theorem ex_fine:Fine exOr exHr:=by
 have rO:chkR exOr=0:=by unfold exOr;rw [chkR_rp (by decide) (by decide),chk_O]
 have rH:chkR (exH.map Pt.rp)=0:=by rw [chkR_rp (by decide) (by decide),chk_H]
 refine ⟨?_,rp_le (hl_sq (by decide) (by decide)),?_⟩
 ·unfold chkP
  rw [if_neg (fun h=>h rO),if_neg (by decide)]
  refine firstNz_none fun j hj=> ?_
  have hj0:j=0:=by simp only [exHr,List.length_cons,List.length_nil] at hj;omega
  subst hj0
  have e:exHr.getD 0 []=exH.map Pt.rp:=rfl
  unfold chkH
  rw [e,if_neg (fun h=>h rH),pts_rp,exO_pts,ex_meet,if_neg (by simp [anyTo]),ex_in,if_neg (by simp),if_neg (by simp [anyTo]),if_neg (by omega)]
 ·intro l hl
  simp only [exHr,List.mem_cons,List.not_mem_nil,or_false] at hl
  subst hl
  exact ⟨by decide,rp_le (hl_sq (by decide) (by decide))⟩
theorem ex_area:areaPTo exO [exH] 1=32:=by decide+kernel
theorem ex_in1:whereS exO [exH] ⟨1,1⟩=1:=by decide+kernel
theorem ex_in2:whereS exO [exH] ⟨3,3⟩= -1:=by decide+kernel
theorem ex_d1:diagS exO [exH] ⟨⟨0,0⟩,⟨2,2⟩⟩=(true,0):=by decide+kernel
theorem ex_d2:diagS exO [exH] ⟨⟨0,0⟩,⟨6,6⟩⟩=(false,0):=by decide+kernel
theorem ex_xs:isortTo (xsTo (cornersTo (exO::[exH]) 2) 8) 7=[0,0,2,2,4,4,6,6]:=by decide+kernel
theorem ex_ys:ysTo (edgesTo (exO::[exH]) 2) ((0+2)/2) (edgesTo (exO::[exH]) 2).length=[0,6]:=by decide+kernel
end Go.Av
namespace Go.Av
open Go.RowKit
open Go.Proofs.Tryz (prog)
theorem ex_area_pc:PC prog 34 [cgV exO [exH]] (.tup [qV 32,.prim (.int .i64 (0))]):=by
 have h:=AreaP_pc ex_fine
 rw [exO_pts,exH_pts,show exHr.length=1 from rfl,ex_area] at h
 exact h
theorem ex_in1_pc:PC prog 44 [cgV exO [exH],pV ⟨1,1⟩] (.tup [.prim (.int .i64 (1)),.prim (.int .i64 (0))]):=by
 have h:=InsideP_pc ex_fine ⟨1,1⟩ (Nat.le_trans (hp_mk (@ht_int 1 (by omega)) (@ht_int 1 (by omega))) (by omega))
 rw [exO_pts,exH_pts,ex_in1] at h
 exact h
theorem ex_in2_pc:PC prog 44 [cgV exO [exH],pV ⟨3,3⟩] (.tup [.prim (.int .i64 (-1)),.prim (.int .i64 (0))]):=by
 have h:=InsideP_pc ex_fine ⟨3,3⟩ (Nat.le_trans (hp_mk (@ht_int 3 (by omega)) (@ht_int 3 (by omega))) (by omega))
 rw [exO_pts,exH_pts,ex_in2] at h
 exact h
theorem hp_ints {x y:Int} (hx:x.natAbs<256) (hy:y.natAbs<256):hp ⟨x,y⟩≤1:=hp_mk (ht_int hx) (ht_int hy)
theorem ex_d1_pc:PC prog 70 [cgV exO [exH],sgV ⟨⟨0,0⟩,⟨2,2⟩⟩] (.tup [.prim (.bool true),.prim (.int .i64 (0))]):=by
 have h:=Diagonal_pc ex_fine ⟨⟨0,0⟩,⟨2,2⟩⟩ (Nat.le_trans (hs_mk (@hp_ints 0 0 (by omega) (by omega)) (@hp_ints 2 2 (by omega) (by omega))) (by omega))
 rw [exO_pts,exH_pts,ex_d1] at h
 exact h
theorem ex_d2_pc:PC prog 70 [cgV exO [exH],sgV ⟨⟨0,0⟩,⟨6,6⟩⟩] (.tup [.prim (.bool false),.prim (.int .i64 (0))]):=by
 have h:=Diagonal_pc ex_fine ⟨⟨0,0⟩,⟨6,6⟩⟩ (Nat.le_trans (hs_mk (@hp_ints 0 0 (by omega) (by omega)) (@hp_ints 6 6 (by omega) (by omega))) (by omega))
 rw [exO_pts,exH_pts,ex_d2] at h
 exact h
theorem ex_mid:(⟨(0+2)/2,((isortTo [0,6] 1).getD 0 0+(isortTo [0,6] 1).getD 1 0)/2⟩:Pt)=⟨1,3⟩:=by
 refine Pt.ext ?_ ?_<;>decide+kernel
theorem ex_int_pc:PC prog 55 [cgV exO [exH]] (.tup [pV ⟨1,3⟩,.prim (.int .i64 (0))]):=by
 have hys:ysTo (edgesTo (exO::[exH]) 2) ((0+2)/2) (edgesTo (exO::[exH]) 2).length=[0,6]:=ex_ys
 have hg:=ex_fine.rgs
 rw [exO_pts,exH_pts] at hg
 have h:=Interior_pc ex_fine (cornersTo (exO::[exH]) 2) (edgesTo (exO::[exH]) 2) (by rw [exO_pts,exH_pts];rfl) (by rw [exO_pts,exH_pts];rfl) (by decide+kernel) 0 2 4 6 ex_xs (by decide+kernel) (by decide+kernel) (by decide+kernel)
  (hl_corners hg 2 (Nat.le_refl _)) (Nat.le_trans (@ht_int 0 (by omega)) (by omega)) (Nat.le_trans (@ht_int 2 (by omega)) (by omega)) (by decide+kernel) (fun s hs=>Nat.le_trans (hs_edges hg 2 (Nat.le_refl _) s hs) (by omega))
  (by rw [hys];decide) (by
   rw [hys]
   intro i hi
   match i,hi with
   |0,_=>exact Nat.le_trans (@ht_int 0 (by omega)) (by omega)
   |1,_=>exact Nat.le_trans (@ht_int 6 (by omega)) (by omega)) (isortTo [0,6] 1) (by rw [hys];rfl)
 rw [exO_pts,exH_pts,ex_mid] at h
 exact h
theorem awake_pc:PC prog 52 [] (.prim (.bool true)):=by
 have ce:=Example_pc
 have c1:=ex_area_pc
 have c2:=ex_in1_pc
 have c3:=ex_in2_pc
 have c4:=ex_int_pc
 have c5:=ex_d1_pc
 have c6:=ex_d2_pc
 have v11:PC prog 80 [.prim (.int .i64 (1)),.prim (.int .i64 (1))] (pV ⟨1,1⟩):=vof_pc 1 1 (by omega) (by omega)
 have v33:PC prog 80 [.prim (.int .i64 (3)),.prim (.int .i64 (3))] (pV ⟨3,3⟩):=vof_pc 3 3 (by omega) (by omega)
 have v00:PC prog 80 [.prim (.int .i64 (0)),.prim (.int .i64 (0))] (pV ⟨0,0⟩):=vof_pc 0 0 (by omega) (by omega)
 have v22:PC prog 80 [.prim (.int .i64 (2)),.prim (.int .i64 (2))] (pV ⟨2,2⟩):=vof_pc 2 2 (by omega) (by omega)
 have v66:PC prog 80 [.prim (.int .i64 (6)),.prim (.int .i64 (6))] (pV ⟨6,6⟩):=vof_pc 6 6 (by omega) (by omega)
 have v13:PC prog 80 [.prim (.int .i64 (1)),.prim (.int .i64 (3))] (pV ⟨1,3⟩):=vof_pc 1 3 (by omega) (by omega)
 have o32:PC prog 43 [.prim (.int .i64 (32))] (qV 32):=ofQ_pc 32 (by omega) (by omega)
 have k1:decide ((32:Rat)=32)=true:=decide_eq_true rfl
 have k2:decide ((⟨1,3⟩:Pt)=⟨1,3⟩)=true:=decide_eq_true rfl
 have k3:decide ((⟨1,3⟩:Pt)=⟨0,0⟩)=false:=decide_eq_false (fun h=>by have:=congrArg Pt.x h;revert this;decide+kernel)
 have e1:=eqA_q 32 32
 have e2:=eqA_p ⟨1,3⟩ ⟨1,3⟩
 have e3:=eqA_p ⟨1,3⟩ ⟨0,0⟩
 rw [k1] at e1
 rw [k2] at e2
 rw [k3] at e3
 simp only at e2 e3
 have ex:cgV exO [exH]= .agg [.lst 6 (exO.map pc),.lst 1 [[.lst 6 (exH.map pc)]]]:=rfl
 rw [ex] at ce c1 c2 c3 c4 c5 c6
 clear ex k1 k2 k3
 simp only [pV,ptV,qV,rV,sgV,s4V] at c1 c2 c3 c4 c5 c6 v11 v33 v00 v22 v66 v13 o32
 generalize exO.map pc=A at ce c1 c2 c3 c4 c5 c6
 generalize exH.map pc=B at ce c1 c2 c3 c4 c5 c6
 refine PCi ?_
 conv in trip _ _=>cbv
 simp only [runT,RN,simprocAttr]
 simp (disch:=omega) only [↓RS,RZ,simprocAttr]
 refine cX ce ?_
 simp (disch:=omega) only [↓RS,RZ,simprocAttr]
 refine cX c1 ?_
 simp (disch:=omega) only [↓RS,RZ,simprocAttr]
 refine cX v11 ?_
 simp (disch:=omega) only [↓RS,RZ,simprocAttr]
 refine cX c2 ?_
 simp (disch:=omega) only [↓RS,RZ,simprocAttr]
 refine cX v33 ?_
 simp (disch:=omega) only [↓RS,RZ,simprocAttr]
 refine cX c3 ?_
 simp (disch:=omega) only [↓RS,RZ,simprocAttr]
 refine cX c4 ?_
 simp (disch:=omega) only [↓RS,RZ,simprocAttr]
 refine cX v00 ?_
 simp (disch:=omega) only [↓RS,RZ,simprocAttr]
 refine cX v22 ?_
 simp (disch:=omega) only [↓RS,RZ,simprocAttr]
 refine cX c5 ?_
 simp (disch:=omega) only [↓RS,RZ,simprocAttr]
 refine cX v00 ?_
 simp (disch:=omega) only [↓RS,RZ,simprocAttr]
 refine cX v66 ?_
 simp (disch:=omega) only [↓RS,RZ,simprocAttr]
 refine cX c6 ?_
 simp (disch:=omega) only [↓RS,RZ,simprocAttr]
 refine cX o32 ?_
 simp (disch:=omega) only [↓RS,RZ,simprocAttr,e1]
 refine cX v13 ?_
 simp (disch:=omega) only [↓RS,RZ,simprocAttr,e2]
 refine cX v00 ?_
 simp (disch:=omega) only [↓RS,RZ,simprocAttr,e3]
end Go.Av
