/- Helping texts: Dv, Dw, Dx, Dy, Mb, Dz. -/
import Derived.Test.YtkmlhdfpcjkekaaGreatKDq
set_option linter.unusedSimpArgs false
set_option linter.unusedVariables false
set_option maxRecDepth 100000
set_option maxHeartbeats 16000000
namespace Go.Av
open Go.RowKit
open Go.Proofs.Tryz (prog)
theorem sgc_getDv {l:List Sg} {k:Nat} (h:k<l.length):(l.map sgc).getD k []=sgc (l.getD k sg0):=by
 rw [List.getD_eq_getElem?_getD,List.getD_eq_getElem?_getD,List.getElem?_map,List.getElem?_eq_getElem h];rfl
def blockB (s t:Sg):Bool:=(meetM s t).isSome&&(decide (((meetM s t).getD sg0).a≠((meetM s t).getD sg0).b)||(decide (((meetM s t).getD sg0).a≠s.a)&&decide (((meetM s t).getD sg0).a≠s.b)))
theorem eqA_p (p q:Pt):eqA (tyOf prog) 9 37 (.agg [.prim (.bool (can p.x).neg),.prim (.string (bs ((can p.x).num))),.prim (.string (bs ((can p.x).den))),.prim (.bool (can p.y).neg),.prim (.string (bs ((can p.y).num))),.prim (.string (bs ((can p.y).den)))]) (.agg [.prim (.bool (can q.x).neg),.prim (.string (bs ((can q.x).num))),.prim (.string (bs ((can q.x).den))),.prim (.bool (can q.y).neg),.prim (.string (bs ((can q.y).num))),.prim (.string (bs ((can q.y).den)))])=some (decide (p=q)):=by
 rw [eqA_pt,can_eq]
theorem diag1_sc (s t:Sg) (h1:hs s≤2^20) (h2:hs t≤2^20) {b:Nat} {H:Hp} {K:V→Hp→Prop} (hb:get H b=some (.row 12 true [sgc s])) (hK:∀ H',Ext H H'→K (.prim (.bool (blockB s t))) H'):
 SC prog 65 [sgV t,.ptr b 0 0] H K:=by
 have c:=Smeet_pc s t h1 h2
 have w1:∀ x,get (H++[x]) b=some (.row 12 true [sgc s]):=fun x=>get_app hb
 have w2:∀ x y,get (H++[x]++[y]) b=some (.row 12 true [sgc s]):=fun x y=>get_app (get_app hb)
 refine SCi ?_
 conv in trip _ _=>cbv
 simp only [runT,RN,simprocAttr]
 simp (disch:=omega) only [↓RS,RZ,simprocAttr,sgV,s4V,w1,sgc]
 refine cX c ?_
 have hB:blockB s t=((meetM s t).isSome&&(decide (((meetM s t).getD sg0).a≠((meetM s t).getD sg0).b)||(decide (((meetM s t).getD sg0).a≠s.a)&&decide (((meetM s t).getD sg0).a≠s.b)))):=rfl
 generalize (meetM s t).isSome=is at hB ⊢
 generalize (meetM s t).getD sg0=m at hB ⊢
 have K2:∀ x y,K (.prim (.bool (blockB s t))) (H++[x]++[y]):=fun x y=>hK _ ((Ext.app _).trans (Ext.app _))
 cases is with
 |false=>
  rw [hB] at K2
  simp (disch:=omega) only [↓RS,RZ,simprocAttr,sgV,s4V,set_app_len,w2,sgc]
  exact K2 _ _
 |true=>
  by_cases e1:m.a=m.b
  ·have d1:decide (m.a=m.b)=true:=decide_eq_true e1
   by_cases e2:m.a=s.a
   ·have d2:decide (m.a=s.a)=true:=decide_eq_true e2
    have hB':blockB s t=false:=by
     have k1:decide (m.a≠m.b)=false:=decide_eq_false (fun h=>h e1)
     have k2:decide (m.a≠s.a)=false:=decide_eq_false (fun h=>h e2)
     rw [hB,k1,k2];rfl
    rw [hB'] at K2
    simp (disch:=omega) only [↓RS,RZ,simprocAttr,sgV,s4V,set_app_len,w2,sgc,eqA_p,d1,d2]
    exact K2 _ _
   ·have d2:decide (m.a=s.a)=false:=decide_eq_false e2
    by_cases e3:m.a=s.b
    ·have d3:decide (m.a=s.b)=true:=decide_eq_true e3
     have hB':blockB s t=false:=by
      have k1:decide (m.a≠m.b)=false:=decide_eq_false (fun h=>h e1)
      have k2:decide (m.a≠s.b)=false:=decide_eq_false (fun h=>h e3)
      rw [hB,k1,k2];simp
     rw [hB'] at K2
     simp (disch:=omega) only [↓RS,RZ,simprocAttr,sgV,s4V,set_app_len,w2,sgc,eqA_p,d1,d2,d3]
     exact K2 _ _
    ·have d3:decide (m.a=s.b)=false:=decide_eq_false e3
     have hB':blockB s t=true:=by rw [hB,decide_eq_true e2,decide_eq_true e3];simp
     rw [hB'] at K2
     simp (disch:=omega) only [↓RS,RZ,simprocAttr,sgV,s4V,set_app_len,w2,sgc,eqA_p,d1,d2,d3]
     exact K2 _ _
  ·have d1:decide (m.a=m.b)=false:=decide_eq_false e1
   have hB':blockB s t=true:=by rw [hB,decide_eq_true e1];simp
   rw [hB'] at K2
   simp (disch:=omega) only [↓RS,RZ,simprocAttr,sgV,s4V,set_app_len,w2,sgc,eqA_p,d1]
   exact K2 _ _
theorem find_sc (E:List Sg) (s:Sg) (h1:hs s≤2^20) (h2:∀ t∈E,hs t≤2^20) (hn:E.length<2^40) {b:Nat} {H:Hp} {K:V→Hp→Prop} (hb:get H b=some (.row 12 true [sgc s]))
 (hK:∀ x H',Ext H H'→K (.tup [sgV x,.prim (.bool (anyTo E.length fun i=>blockB s (E.getD i sg0)))]) H'):
 SC prog 63 [ssV E,.clo 65 [] [.ptr b 0 0]] H K:=by
 have hbl:=get_lt_len hb
 refine SCi ?_
 conv in trip _ _=>cbv
 simp only [runT,RN,simprocAttr]
 have hz:sgc sg0=[.prim (.bool false),.prim (.string (bs ([]))),.prim (.string (bs ([]))),.prim (.bool false),.prim (.string (bs ([]))),.prim (.string (bs ([]))),.prim (.bool false),.prim (.string (bs ([]))),.prim (.string (bs ([]))),.prim (.bool false),.prim (.string (bs ([]))),.prim (.string (bs ([])))]:=by simp only [sgc,sg0,pt0,can_zero]
 simp (disch:=omega) only [↓RS,RZ,simprocAttr,ssV,sgc_length]
 refine wp_lp (fun (i:Nat) J=>ov [(0,ssV E),(1,.clo 65 [] [.ptr b 0 0]),(4,.ptr H.length 0 0),(5,.prim (.bool false)),(9,ssV E),(10,.prim (.int .i64 ((E.length:Nat):Int))),(11,.prim (.int .i64 ((i:Nat):Int)))] J 0 21)
  (fun i H'=>i≤E.length∧(∀ j,j<i→blockB s (E.getD j sg0)=false)∧Ext H H'∧get H' H.length=some (.row 12 true [sgc sg0])) (fun i=>E.length-i) 0 rfl ⟨Nat.zero_le _,fun j hj=>absurd hj (Nat.not_lt_zero j),Ext.app _,by rw [get_app_len,hz]⟩ ?_
 rintro i J H1 ⟨hi,hp,hE,hg⟩
 try conv in ov _ _ _ _=>simp only [ov,List.lookup,RO,simprocAttr]
 rcases Nat.lt_or_ge i E.length with hlt|hge
 ·have g:=sgc_getDv hlt
  have ht:hs (E.getD i sg0)≤2^20:=h2 _ (by rw [List.getD_eq_getElem?_getD,List.getElem?_eq_getElem hlt];exact List.getElem_mem hlt)
  simp (disch:=omega) only [↓RS,RZ,simprocAttr,ssV,sgc_length,g,sgc,set_app_len]
  refine call_sc (diag1_sc s (E.getD i sg0) h1 ht (get_app (hE.get hb)) ?_)
  intro H2 hE2
  have g2:get H2 H.length=some (.row 12 true [sgc sg0]):=hE2.get (get_app hg)
  have g3:get H2 H1.length=some (.row 12 true [sgc (E.getD i sg0)]):=hE2.get get_app_len
  have hE3:Ext H H2:=hE.trans ((Ext.app _).trans hE2)
  have hl:=get_lt_len g2
  have hl1:=get_lt_len hg
  cases hB:blockB s (E.getD i sg0) with
  |true=>
   have s4:∀ x,get (H2.set H.length x) H.length=x:=fun x=>get_eq hl
   have fin:∀ k,K (.tup [sgV (E.getD i sg0),.prim (.bool true)]) (H2.set H.length k):=by
    intro k
    have:=hK (E.getD i sg0) (H2.set H.length k) ⟨by rw [List.length_set];exact hE3.len,fun {c k} hc=>by
     rw [get_ne (by have:=get_lt_len hc;omega)];exact hE3.get hc⟩
    rw [anyTo_true hlt hB] at this
    exact this
   simp (disch:=omega) only [↓RS,RZ,simprocAttr,g2,g3,sgc,s4]
   exact fin _
  |false=>
   simp (disch:=omega) only [↓RS,RZ,simprocAttr]
   exact lp_next (i+1) rfl ⟨hlt,fun j hj=>by
    rcases Nat.lt_or_ge j i with h|h
    ·exact hp j h
    ·rw [show j=i by omega];exact hB,hE3,g2⟩ (by omega)
 ·have hia:i=E.length:=by omega
  subst hia
  have hl1:=get_lt_len hg
  have fin:∀ k l,K (.tup [sgV sg0,.prim (.bool false)]) ((H1++[l]).set H.length k):=by
   intro k l
   have:=hK sg0 ((H1++[l]).set H.length k) ⟨by rw [List.length_set,List.length_append];have:=hE.len;omega,fun {c k} hc=>by
    rw [get_ne (by have:=get_lt_len hc;omega)];exact get_app (hE.get hc)⟩
   rw [anyTo_false hp] at this
   exact this
  have s4:∀ x y,get ((H1++[x]).set H.length y) H.length=y:=fun x y=>get_eq (by rw [List.length_append];omega)
  have s5:∀ x,get (H1++[x]) H.length=some (.row 12 true [sgc sg0]):=fun x=>get_app hg
  have hne:(H1.length==H.length)=false:=by rw [beq_eq_false_iff_ne];omega
  have fin2:=fun k l=>fin k l
  rw [sgV0] at fin2
  simp (disch:=omega) only [↓RS,RZ,simprocAttr,ssV,sgc_length,s4,s5,hne,hz]
  exact fin2 _ _
end Go.Av
namespace Go.Av
open Go.RowKit
open Go.Proofs.Tryz (prog)
theorem dl_small {n:Nat} (h:n<256):dl n≤1:=by
 rw [←len_dl]
 by_cases h0:n=0
 ·subst h0;simp [digitsOf_zero]
 ·rw [digitsOf_pos h0,show n/256=0 by omega,digitsOf_zero];simp
theorem half_pc:PC prog 35 [.prim (.int .i64 (1)),.prim (.int .i64 (2))] (.tup [qV (1/2),.prim (.int .i64 (0))]):=by
 have o1:=of_pc 1 (by omega) (by omega)
 have o2:=of_pc 2 (by omega) (by omega)
 have d1:= @dl_small 1 (by omega)
 have d2:= @dl_small 2 (by omega)
 have n:=newC_pc 1 2 (by simp only [Int.natAbs_one];omega) (by show dl 2<_;omega)
 rw [if_neg (by omega),show qI 1 2=1/2 by decide+kernel] at n
 refine PCi ?_
 conv in trip _ _=>cbv
 simp only [runT,RN,simprocAttr]
 simp (disch:=omega) only [↓RS,RZ,simprocAttr]
 refine cX o1 ?_
 simp (disch:=omega) only [↓RS,RZ,simprocAttr,cI,iN]
 refine cX o2 ?_
 simp (disch:=omega) only [↓RS,RZ,simprocAttr,cI,iN]
 refine cX n ?_
 simp (disch:=omega) only [↓RS,RZ,simprocAttr,qV,rV]
def blockedP (E:List Sg) (s:Sg):Bool:=anyTo E.length fun i=>blockB s (E.getD i sg0)
def diagS (L:List Pt) (Hs:List (List Pt)) (s:Sg):Bool×Int:=
 if cmpP s.a s.b=0 then (false,12)
 else if s.a∈cornersTo (L::Hs) (Hs.length+1)∧s.b∈cornersTo (L::Hs) (Hs.length+1) then
  (!blockedP (edgesTo (L::Hs) (Hs.length+1)) s&&decide (0<whereS L Hs (s.a.at s.b (1/2))),0)
 else (false,0)
theorem hl_corners {L:List Pt} {Hs:List (List Pt)} (hg:Rgs L Hs):∀ i,i≤Hs.length+1→hl (cornersTo (L::Hs) i) (2^16)
 |0,_=>by intro p hp;simp [cornersTo] at hp
 |i+1,hi=>by
  intro p hp
  rw [cornersTo,List.mem_append] at hp
  rcases hp with hp|hp
  ·exact hl_corners hg i (by omega) p hp
  ·exact (hg.get (i:=i) (by omega)).ht p hp
theorem hs_edges {L:List Pt} {Hs:List (List Pt)} (hg:Rgs L Hs):∀ i,i≤Hs.length+1→∀ t∈edgesTo (L::Hs) i,hs t≤2^16
 |0,_=>by intro p hp;simp [edgesTo] at hp
 |i+1,hi=>by
  intro p hp
  rw [edgesTo,List.mem_append] at hp
  rcases hp with hp|hp
  ·exact hs_edges hg i (by omega) p hp
  ·obtain ⟨j,hj,rfl⟩:=List.mem_map.1 hp
   exact hs_seg (hg.get (i:=i) (by omega)).ht (by simpa using hj)
theorem Diagonal_pc {O:List Rp} {hr:List (List Rp)} (h:Fine O hr) (s:Sg) (h1:hs s≤2^16):PC prog 17 [cgV (pts O) (hr.map pts),sgV s] (.tup [.prim (.bool (diagS (pts O) (hr.map pts) s).1),.prim (.int .i64 ((diagS (pts O) (hr.map pts) s).2))]):=by
 have ck:=h.check_pc
 have hg:=h.rgs
 generalize hr.map pts=Hs at*
 generalize pts O=L at*
 have cc:=corners_pc _ _ hg
 have ce:=edges_pc _ _ hg
 have hlC:=hl_corners hg (Hs.length+1) (Nat.le_refl _)
 have hsE:=hs_edges hg (Hs.length+1) (Nat.le_refl _)
 obtain ⟨lC,lE⟩:=cornersTo_le hg (Hs.length+1) (Nat.le_refl _)
 have hf:=hg.few
 have hD:diagS L Hs s=if cmpP s.a s.b=0 then (false,12) else if s.a∈cornersTo (L::Hs) (Hs.length+1)∧s.b∈cornersTo (L::Hs) (Hs.length+1) then
  (!blockedP (edgesTo (L::Hs) (Hs.length+1)) s&&decide (0<whereS L Hs (s.a.at s.b (1/2))),0) else (false,0):=rfl
 generalize cornersTo (L::Hs) (Hs.length+1)=C at*
 generalize edgesTo (L::Hs) (Hs.length+1)=E at*
 have a4:=hs_a s;have a5:=hs_b s
 have v1:=vcheckP_pc s.a (by omega)
 have v2:=vcheckP_pc s.b (by omega)
 have sc:=scheck_pc s (by omega)
 have x1:=containsV_pc C s.a (by omega)
 have x2:=containsV_pc C s.b (by omega)
 have hh:ht (1/2)≤3:=by have:=ht_div 1 2;have:=ht_two;have e:ht 1≤1:= @ht_int 1 (by omega);omega
 have at_:=vat_pc s.a s.b (1/2) (by omega) (by omega) (by omega)
 have hat:=hp_at s.a s.b (1/2)
 have w:=where_pc L Hs (s.a.at s.b (1/2)) hg (by omega)
 refine PCi ?_
 conv in trip _ _=>cbv
 simp only [runT,RN,simprocAttr]
 simp (disch:=omega) only [↓RS,RZ,simprocAttr,cgV,psV,sgV,s4V]
 refine cX ck ?_
 simp (disch:=omega) only [↓RS,RZ,simprocAttr,psV,sgV,s4V]
 refine cX v1 ?_
 simp (disch:=omega) only [↓RS,RZ,simprocAttr,psV,sgV,s4V]
 refine cX v2 ?_
 simp (disch:=omega) only [↓RS,RZ,simprocAttr,psV,sgV,s4V]
 refine cX sc ?_
 by_cases hz:cmpP s.a s.b=0
 ·rw [if_pos hz] at hD
  rw [hD,if_pos hz]
  simp (disch:=omega) only [↓RS,RZ,simprocAttr]
 rw [if_neg hz] at hD
 rw [if_neg hz]
 simp (disch:=omega) only [↓RS,RZ,simprocAttr,psV,sgV,s4V]
 refine cX cc ?_
 simp (disch:=omega) only [↓RS,RZ,simprocAttr,psV,sgV,s4V]
 refine cX x1 ?_
 by_cases hA:s.a∈C
 ·rw [decide_eq_true hA]
  simp (disch:=omega) only [↓RS,RZ,simprocAttr,psV,sgV,s4V]
  refine cX x2 ?_
  by_cases hB:s.b∈C
  ·rw [if_pos ⟨hA,hB⟩] at hD
   rw [decide_eq_true hB,hD]
   simp (disch:=omega) only [↓RS,RZ,simprocAttr,psV,sgV,s4V]
   refine cX ce ?_
   simp (disch:=omega) only [↓RS,RZ,simprocAttr,ssV]
   refine call_sc (find_sc E s (by omega) (fun t ht=>Nat.le_trans (hsE t ht) (by omega)) (by omega) rfl ?_)
   intro x H' hE
   have e0:get H' 0=some (.row 2 true [[psV L,.lst 1 ((Hs.map psV).map fun v=>[v])]]):=hE.get rfl
   have e1:get H' 1=some (.row 12 true [sgc s]):=hE.get rfl
   clear hE
   have w0:∀ x y,get (H'++[x]++[y]) 0=some (.row 2 true [[psV L,.lst 1 ((Hs.map psV).map fun v=>[v])]]):=fun x y=>get_app (get_app e0)
   have w1:∀ x y,get (H'++[x]++[y]) 1=some (.row 12 true [sgc s]):=fun x y=>get_app (get_app e1)
   have hbp:(anyTo E.length fun i=>blockB s (E.getD i sg0))=blockedP E s:=rfl
   rw [hbp]
   have hf:=half_pc
   cases hb:blockedP E s with
   |true=>
    simp (disch:=omega) only [↓RS,RZ,simprocAttr,sgV,s4V,set_app_len]
    refine cX hf ?_
    simp (disch:=omega) only [↓RS,RZ,simprocAttr,qV,rV,set_app_len]
   |false=>
    simp (disch:=omega) only [↓RS,RZ,simprocAttr,sgV,s4V,set_app_len]
    refine cX hf ?_
    simp (disch:=omega) only [↓RS,RZ,simprocAttr,qV,rV,set_app_len,w0,w1,sgc,psV]
    refine cX at_ ?_
    simp (disch:=omega) only [↓RS,RZ,simprocAttr,pV,ptV,psV]
    refine cX w ?_
    by_cases hw:0<whereS L Hs (s.a.at s.b (1/2))
    ·rw [decide_eq_true hw]
     simp (disch:=omega) only [↓RS,RZ,simprocAttr]
    ·rw [decide_eq_false hw]
     simp (disch:=omega) only [↓RS,RZ,simprocAttr]
  ·rw [if_neg (fun h=>hB h.2)] at hD
   rw [decide_eq_false hB,hD]
   simp (disch:=omega) only [↓RS,RZ,simprocAttr]
 ·rw [if_neg (fun h=>hA h.1)] at hD
  rw [decide_eq_false hA,hD]
  simp (disch:=omega) only [↓RS,RZ,simprocAttr]
end Go.Av
namespace Go.Av
open Go.RowKit
open Go.Proofs.Tryz (prog)
def sqL (a b:Int):List Pt:=[⟨a,a⟩,⟨b,a⟩,⟨b,b⟩,⟨a,b⟩]
theorem hl_of {L:List Pt} {k:Nat} (hk:1≤k) (h:∀ p∈L,∃ x y:Int,p=⟨x,y⟩∧x.natAbs<256∧y.natAbs<256):hl L k:=by
 intro p hp
 obtain ⟨x,y,rfl,hx,hy⟩:=h p hp
 exact Nat.le_trans (hp_mk (ht_int hx) (ht_int hy)) hk
theorem hl_sq {a b:Int} (ha:a.natAbs<256) (hb:b.natAbs<256):hl (sqL a b) (2^16):=by
 refine hl_of (by omega) fun p hp=> ?_
 simp only [sqL,List.mem_cons,List.not_mem_nil,or_false] at hp
 rcases hp with rfl|rfl|rfl|rfl
 ·exact ⟨a,a,rfl,ha,ha⟩
 ·exact ⟨b,a,rfl,hb,ha⟩
 ·exact ⟨b,b,rfl,hb,hb⟩
 ·exact ⟨a,b,rfl,ha,hb⟩
end Go.Av
namespace Go.Av
open Go.RowKit
open Go.Proofs.Tryz (prog)
end Go.Av
namespace Go.Av
theorem idxP_neg {n:Nat} {p:Nat→Bool} (h:¬0≤idxP n p):∀ i,i<n→p i=false:=by
 intro i hi
 cases hp:p i with
 |false=>rfl
 |true=>
  exfalso;apply h
  have:= @idxP_nonneg n p
  rw [show (List.range n).any p=true from List.any_eq_true.2 ⟨i,by simpa using hi,hp⟩] at this
  exact of_decide_eq_true this
theorem Ring.flat {L:List Pt} (h:Ring L):∀ i,i<L.length→flatAt L i=false:=by
 have:=h.ok
 unfold chkC at this
 split at this
 ·cases this
 ·rename_i h1;exact idxP_neg h1
theorem Ring.cross {L:List Pt} (h:Ring L):crossB L=false:=by
 have:=h.ok
 unfold chkC at this
 split at this
 ·cases this
 ·split at this
  ·cases this
  ·rename_i h1;simpa using h1
theorem orient_same (a c:Pt):orient a a c=0:=by
 unfold orient
 rw [cmpQ_zero]
 unfold Av.cross Pt.sub
 grind
theorem flat_next_ne {L:List Pt} (hlo:3≤L.length) (hfl:∀ i,i<L.length→flatAt L i=false) {i:Nat} (hi:i<L.length):L.getD i default≠nx L i:=by
 intro e
 have hm:=Nat.mod_lt (i+1) (show 0<L.length by omega)
 have hf:=hfl ((i+1)%L.length) hm
 unfold flatAt at hf
 have hp:((i+1)%L.length+L.length-1)%L.length=i:=by
  rcases Nat.lt_or_ge (i+1) L.length with hlt|hge
  ·rw [Nat.mod_eq_of_lt hlt,show i+1+L.length-1=i+L.length by omega,Nat.add_mod_right,Nat.mod_eq_of_lt hi]
  ·rw [show i+1=L.length by omega,Nat.mod_self,Nat.zero_add,Nat.mod_eq_of_lt (by omega)];omega
 rw [hp] at hf
 unfold nx at e
 rw [←e,orient_same] at hf
 simp at hf
theorem Ring.next_ne {L:List Pt} (h:Ring L) {i:Nat} (hi:i<L.length):L.getD i default≠nx L i:=flat_next_ne h.lo h.flat hi
theorem Ring.seg_ok {L:List Pt} (h:Ring L) {i:Nat} (hi:i<L.length):(segOf L i).ok:=fun e=>h.next_ne hi (cmpP_zero.1 e)
theorem Ring.distinct {L:List Pt} (h:Ring L) {i k:Nat} (hik:i<k) (hk:k<L.length):L.getD i default≠L.getD k default:=by
 intro e
 have hlo:=h.lo
 by_cases h1:k=i+1
 ·subst h1
  have:=h.next_ne (show i<L.length by omega)
  unfold nx at this
  rw [Nat.mod_eq_of_lt hk] at this
  exact this e
 ·by_cases h2:i=0∧k=L.length-1
  ·obtain ⟨rfl,h2⟩:=h2
   have:=h.next_ne hk
   unfold nx at this
   rw [show k+1=L.length by omega,Nat.mod_self] at this
   exact this e.symm
  ·have hc:=crossB_get h.cross (show i<L.length by omega) hk
   unfold crossAt at hc
   rw [decide_eq_true (show i+2≤k by omega),←Bool.decide_and,decide_eq_false h2] at hc
   have hm:=meet_common (P:=L.getD i default) (h.seg_ok (show i<L.length by omega)) (h.seg_ok hk) (.inl rfl) (.inl e)
   rw [hm] at hc
   simp at hc
theorem meetB_disjoint {A B:List Pt} (hA:Ring A) (hB:Ring B) (h:meetB A B=false) {i k:Nat} (hi:i<A.length) (hk:k<B.length):A.getD i default≠B.getD k default:=by
 intro e
 have hm:=meet_common (P:=A.getD i default) (hA.seg_ok hi) (hB.seg_ok hk) (.inl rfl) (.inl e)
 rw [meetB_true hi hk hm] at h
 cases h
theorem mem_getD {L:List Pt} {p:Pt} (h:p∈L):∃ i,i<L.length∧L.getD i default=p:=by
 obtain ⟨i,hi,rfl⟩:=List.mem_iff_getElem.1 h
 exact ⟨i,hi,by rw [List.getD_eq_getElem?_getD,List.getElem?_eq_getElem hi];rfl⟩
theorem Ring.nodup {L:List Pt} (h:Ring L):L.Nodup:=by
 rw [List.nodup_iff_pairwise_ne,List.pairwise_iff_getElem]
 intro i j hi hj hij
 have:=h.distinct hij hj
 rwa [List.getD_eq_getElem?_getD,List.getD_eq_getElem?_getD,List.getElem?_eq_getElem hi,List.getElem?_eq_getElem hj] at this
structure Apart (Ls:List (List Pt)):Prop where
 ring:∀ i,i<Ls.length→Ring (Ls.getD i [])
 meet:∀ i j,j<i→i<Ls.length→meetB (Ls.getD i []) (Ls.getD j [])=false
theorem cornersTo_mem {Ls:List (List Pt)} {p:Pt}:∀ {i},p∈cornersTo Ls i→∃ j,j<i∧p∈Ls.getD j []
 |0,h=>by simp [cornersTo] at h
 |i+1,h=>by
  rw [cornersTo,List.mem_append] at h
  rcases h with h|h
  ·obtain ⟨j,hj,hp⟩:=cornersTo_mem h;exact ⟨j,by omega,hp⟩
  ·exact ⟨i,by omega,h⟩
theorem Apart.nodup {Ls:List (List Pt)} (h:Apart Ls):∀ i,i≤Ls.length→(cornersTo Ls i).Nodup
 |0,_=>by simp [cornersTo]
 |i+1,hi=>by
  rw [cornersTo,List.nodup_append]
  refine ⟨h.nodup i (by omega),(h.ring i hi).nodup,?_⟩
  intro a ha b hb e
  subst e
  obtain ⟨j,hj,ha⟩:=cornersTo_mem ha
  obtain ⟨x,hx,ex⟩:=mem_getD ha
  obtain ⟨y,hy,ey⟩:=mem_getD hb
  exact meetB_disjoint (h.ring i hi) (h.ring j (by omega)) (h.meet i j hj hi) hy hx (ey.trans ex.symm)
theorem edgesL_a (L:List Pt):(edgesL L).map Sg.a=L:=by
 refine List.ext_getElem (by simp [edgesL_length]) fun i h1 h2=> ?_
 rw [List.getElem_map]
 unfold edgesL
 rw [List.getElem_map,List.getElem_range]
 show L.getD i default=_
 rw [List.getD_eq_getElem?_getD,List.getElem?_eq_getElem h2];rfl
theorem edgesL_b (L:List Pt):((edgesL L).map Sg.b).Perm L:=by
 cases L with
 |nil=>simp [edgesL]
 |cons p t=>
  have e:(edgesL (p::t)).map Sg.b=t++[p]:=by
   refine List.ext_getElem (by simp [edgesL_length]) fun i h1 h2=> ?_
   rw [List.getElem_map]
   unfold edgesL
   rw [List.getElem_map,List.getElem_range]
   show nx (p::t) i=_
   unfold nx
   simp only [List.length_append,List.length_cons,List.length_nil] at h2
   rcases Nat.lt_or_ge i t.length with hlt|hge
   ·rw [List.length_cons,Nat.mod_eq_of_lt (by omega),List.getD_cons_succ,List.getD_eq_getElem?_getD,List.getElem?_eq_getElem hlt,List.getElem_append_left hlt];rfl
   ·have:i=t.length:=by omega
    subst this
    rw [List.length_cons,Nat.mod_self,List.getD_cons_zero,List.getElem_append_right (Nat.le_refl _)]
    simp
  rw [e]
  exact List.perm_append_singleton p t
theorem edgesTo_a (Ls:List (List Pt)):∀ i,(edgesTo Ls i).map Sg.a=cornersTo Ls i
 |0=>rfl
 |i+1=>by rw [edgesTo,cornersTo,List.map_append,edgesTo_a Ls i,edgesL_a]
theorem edgesTo_b (Ls:List (List Pt)):∀ i,((edgesTo Ls i).map Sg.b).Perm (cornersTo Ls i)
 |0=> .nil
 |i+1=>by rw [edgesTo,cornersTo,List.map_append];exact (edgesTo_b Ls i).append (edgesL_b _)
def cntTo (f:Nat→Bool) (k:Nat):Nat:=(List.range k).countP f
theorem cntTo_list (E:List Sg) (g:Sg→Bool):cntTo (fun k=>g (E.getD k sg0)) E.length=E.countP g:=by
 have e:E=(List.range E.length).map fun k=>E.getD k sg0:=by
  refine List.ext_getElem (by simp) fun i h1 h2=> ?_
  rw [List.getElem_map,List.getElem_range,List.getD_eq_getElem?_getD,List.getElem?_eq_getElem h1];rfl
 conv=>rhs;rw [e]
 rw [List.countP_map];rfl
theorem count_one {C:List Pt} (h:C.Nodup) {c:Pt} (hc:c∈C):C.countP (fun p=>decide (p=c))=1:=by
 induction C with
 |nil=>cases hc
 |cons p C ih=>
  rw [List.nodup_cons] at h
  rw [List.countP_cons]
  by_cases e:p=c
  ·subst e
   rw [List.countP_eq_zero.2 (fun a ha=>by simp;rintro rfl;exact h.1 ha)]
   simp
  ·rcases List.mem_cons.1 hc with h1|h1
   ·exact absurd h1.symm e
   ·rw [ih h.2 h1];simp [e]
theorem Apart.ends {Ls:List (List Pt)} (h:Apart Ls) {c:Pt} (hc:c∈cornersTo Ls Ls.length):cntTo (fun k=>decide (((edgesTo Ls Ls.length).getD k sg0).b=c)) (edgesTo Ls Ls.length).length=1:=by
 rw [cntTo_list _ (fun s=>decide (s.b=c))]
 have:=count_one (h.nodup Ls.length (Nat.le_refl _)) hc
 rw [←(edgesTo_b Ls Ls.length).countP_eq,List.countP_map] at this
 exact this
theorem Fine.apart {O:List Rp} {hs:List (List Rp)} (h:Fine O hs):Apart (pts O::hs.map pts):=by
 have hlen:(hs.map pts).length=hs.length:=List.length_map ..
 have get:∀ i,i<hs.length→(hs.map pts).getD i []=pts (hs.getD i []):=fun i hi=>by
  rw [List.getD_eq_getElem?_getD,List.getD_eq_getElem?_getD,List.getElem?_map,List.getElem?_eq_getElem hi];rfl
 refine ⟨fun i hi=>h.rgs.get (by simp only [List.length_cons] at hi;omega),fun i j hj hi=> ?_⟩
 simp only [List.length_cons,hlen] at hi
 obtain ⟨i,rfl⟩:∃ k,i=k+1:=⟨i-1,by omega⟩
 have hz:=h.hz i (by omega)
 unfold chkH at hz
 rw [if_neg (by intro h2;exact h2 (chkH_ring (h.hz i (by omega))))] at hz
 split at hz
 ·cases hz
 ·rename_i h1
  rw [List.getD_cons_succ,get i (by omega)]
  rcases j with _|j
  ·rw [List.getD_cons_zero]
   cases hm:meetB (pts (hs.getD i [])) (pts O) with
   |false=>rfl
   |true=>exact absurd (.inl hm) h1
  ·rw [List.getD_cons_succ,get j (by omega)]
   cases hm:meetB (pts (hs.getD i [])) (pts (hs.getD j [])) with
   |false=>rfl
   |true=>exact absurd (.inr (anyTo_true (show j<i by omega) hm)) h1
end Go.Av
namespace Go.Av
open Go.RowKit
open Go.Proofs.Tryz (prog)
structure Read (O:List Rp) (hs:List (List Rp)):Prop where
 o:O.length≤maxLen∧∀ p∈O,p.fit
 n:hs.length≤maxLen
 h:∀ l∈hs,l.length≤maxLen∧∀ p∈l,p.fit
theorem big_le {p:Rp} (h:bigP p=false):p.le (2^16):=by
 unfold bigP at h
 simp only [Bool.or_eq_false_iff,decide_eq_false_iff_not] at h
 exact ⟨⟨by omega,by omega⟩,⟨by omega,by omega⟩⟩
theorem greatL_le {l:List Rp} (h:greatL l=false):∀ p∈l,p.le (2^16):=by
 intro p hp
 obtain ⟨i,hi,rfl⟩:=List.mem_iff_getElem.1 hp
 have:=anyTo_get h hi
 rw [List.getD_eq_getElem?_getD,List.getElem?_eq_getElem hi] at this
 exact big_le this
theorem greatP_small {O:List Rp} {hs:List (List Rp)} (h:greatP O hs=false):O.length≤67∧(∀ p∈O,p.le (2^16))∧hs.length≤10∧∀ l∈hs,l.length<2^50∧∀ p∈l,p.le (2^16):=by
 unfold greatP at h
 simp only [Bool.or_eq_false_iff,decide_eq_false_iff_not] at h
 obtain ⟨h1,h2,h3,h4,h5,h6⟩:=h
 refine ⟨by omega,greatL_le h3,by omega,?_⟩
 intro l hl
 obtain ⟨i,hi,rfl⟩:=List.mem_iff_getElem.1 hl
 have:=anyTo_get h4 (show i<min hs.length 11 by omega)
 rw [List.getD_eq_getElem?_getD,List.getElem?_eq_getElem hi] at this
 simp only [Option.getD_some,Bool.or_eq_false_iff,decide_eq_false_iff_not] at this
 exact ⟨by omega,greatL_le this.2⟩
end Go.Av
