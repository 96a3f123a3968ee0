/- Helping texts: Gd, Ge. -/
import Derived.Test.YtbidkolaahnbiaaGreatKGb
import Derived.Test.YtbidkolaahnbiaaGreatKGa
import Derived.Test.YtbidkolaahnbiaaGreatKDq
set_option linter.unusedSimpArgs false
set_option linter.unusedVariables false
set_option maxRecDepth 100000
set_option maxHeartbeats 16000000
namespace Go.Av
open Go.RowKit
open Go.Proofs.Tryz (prog)
def placeA (r v:Pt):Aff:=⟨r.x, -r.y,r.y,r.x,v.x,v.y⟩
def mirA:Aff:=⟨-1,0,0,1,0,0⟩
def scaleA (k:Rat):Aff:=⟨k,0,0,k,0,0⟩
theorem placeA_ap (r v q:Pt):(placeA r v).ap q=(rotP r q).add v:=by refine Pt.ext ?_ ?_<;>(unfold placeA Aff.ap Pt.add rotP;simp only;try grind)
theorem mirA_ap (q:Pt):mirA.ap q=⟨-q.x,q.y⟩:=by refine Pt.ext ?_ ?_<;>(unfold mirA Aff.ap;simp only;try grind)
theorem scaleA_ap (k:Rat) (q:Pt):(scaleA k).ap q=q.smul k:=by refine Pt.ext ?_ ?_<;>(unfold scaleA Aff.ap Pt.smul;simp only;try grind)
theorem vcheck0_pc (v:Pt) (h:hp v≤2^20):PC prog 57 [pV v] (.prim (.int .i64 (0))):=by
 have h1:=hp_x v
 have h2:=hp_y v
 have c:=vcheck_pc (can v.x) (can v.y) (can_le (by omega)) (can_le (by omega))
 rwa [if_pos ⟨by rw [can_val],by rw [can_val]⟩] at c
theorem rcheck0_pc (k:Rat) (h:ht k≤2^20):PC prog 93 [qV k] (.prim (.int .i64 (0))):=by
 have c:=checkR2_pc (can k) (can_le (by omega))
 rwa [if_pos (by rw [can_val])] at c
theorem scale1_sc (k:Rat) (q:Pt) (h1:ht k≤2^20) (h2:hp q≤2^20) {b:Nat} {H:Hp} {K:V→Hp→Prop} (hb:get H b=some (.row 3 true [qc k])) (hK:∀ H',Ext H H'→K (pV ((scaleA k).ap q)) H'):SC prog 94 [pV q,.ptr b 0 0] H K:=by
 have hb2:∀ x l,get (H++[x]++[l]) b=some (.row 3 true [qc k]):=fun x l=>get_app (get_app hb)
 have c:=vscale_pc q k (by omega) (by omega)
 have fin:=hK (H++[some (.row 6 true [pc q])]++[some (.row 6 true [pc (q.smul k)])]) ((Ext.app _).trans (Ext.app _))
 rw [scaleA_ap] at fin
 simp only [pV,ptV,pc] at fin
 refine SCi ?_
 conv in trip _ _=>cbv
 simp only [runT,RN,simprocAttr]
 simp (disch:=omega) only [↓RS,RZ,simprocAttr,pV,ptV,hb2,pc,qc,get_app_len2,set_app_len]
 refine cX c ?_
 simp (disch:=omega) only [↓RS,RZ,simprocAttr,pV,ptV,hb2,pc,get_app_len2,set_app_len]
 exact fin
theorem mirror1_sc (q:Pt) (h2:hp q≤2^20) {H:Hp} {K:V→Hp→Prop} (hK:∀ H',Ext H H'→K (pV (mirA.ap q)) H'):SC prog 92 [pV q] H K:=by
 have:=hp_x q
 have c:=negQ_pc q.x (by omega)
 have fin:=hK (H++[some (.row 6 true [pc q])]++[some (.row 6 true [pc ⟨-q.x,q.y⟩])]) ((Ext.app _).trans (Ext.app _))
 rw [mirA_ap] at fin
 simp only [pV,ptV,pc] at fin
 refine SCi ?_
 conv in trip _ _=>cbv
 simp only [runT,RN,simprocAttr]
 simp (disch:=omega) only [↓RS,RZ,simprocAttr,pV,ptV,pc,get_app_len2,set_app_len]
 refine cX c ?_
 simp (disch:=omega) only [↓RS,RZ,simprocAttr,qV,rV,pV,ptV,pc,get_app_len2,set_app_len]
 exact fin
theorem place1_sc (r v q:Pt) (hr:isRot r) (h0:hp r≤2^20) (h1:hp v≤2^20) (h2:hp q≤2^20) {b c:Nat} {H:Hp} {K:V→Hp→Prop} (hb:get H b=some (.row 6 true [pc r])) (hc:get H c=some (.row 6 true [pc v]))
 (hK:∀ H',Ext H H'→K (pV ((placeA r v).ap q)) H'):SC prog 87 [pV q,.ptr b 0 0,.ptr c 0 0] H K:=by
 have hb2:∀ k l,get (H++[k]++[l]) b=some (.row 6 true [pc r]):=fun k l=>get_app (get_app hb)
 have hc3:∀ k l m,get (H++[k]++[l]++[m]) c=some (.row 6 true [pc v]):=fun k l m=>get_app (get_app (get_app hc))
 have a:=apply_pc r q h0 h2 hr
 have:=hp_rot r q
 have d:=vadd_pc (rotP r q) v (by omega) (by omega)
 have fin:=hK (H++[some (.row 6 true [pc q])]++[some (.row 6 true [pc ((rotP r q).add v)])]++[some (.row 6 true [pc (rotP r q)])]) (((Ext.app _).trans (Ext.app _)).trans (Ext.app _))
 rw [placeA_ap] at fin
 simp only [pV,ptV,pc] at fin
 refine SCi ?_
 conv in trip _ _=>cbv
 simp only [runT,RN,simprocAttr]
 simp (disch:=omega) only [↓RS,RZ,simprocAttr,pV,ptV,hb2,pc,get_app_len2,set_app_len]
 refine cX a ?_
 simp (disch:=omega) only [↓RS,RZ,simprocAttr,pV,ptV,hc3,pc,get_app_len2,set_app_len,set_app_len2]
 refine cX d ?_
 simp (disch:=omega) only [↓RS,RZ,simprocAttr,pV,ptV,pc,get_app_len2,set_app_len,set_app_len2]
 exact fin
theorem touch_pc {n:Nat} {H:Hp} (p:Pt):(pc p).flatMap (touch H (n+1))=[]:=by
 simp only [pc,List.flatMap_cons,List.flatMap_nil,touch_prim,List.append_nil]
theorem touch_qc {n:Nat} {H:Hp} (p:Rat):(qc p).flatMap (touch H (n+1))=[]:=by
 simp only [qc,List.flatMap_cons,List.flatMap_nil,touch_prim,List.append_nil]
variable {L:List Pt} {Hs:List (List Pt)}
theorem mirror_pc (hv:Valid L Hs) (h3:Hs.length≤3) (hf:Fits mirA L Hs):PC prog 27 [cgV L Hs] (.tup [cgV (imgL mirA L) (imgH mirA Hs),.prim (.int .i64 (0))]):=by
 refine PCi ?_
 conv in trip _ _=>cbv
 simp only [runT,RN,simprocAttr]
 simp (disch:=omega) only [↓RS,RZ,simprocAttr,cgV,psV]
 refine call_sc (mapped_sc (t:=mirA) hv h3 par_mirror hf (B:=[]) (fun _ _=>rfl) (fun b hb=>by cases hb) (fun H' _ _ H'' _ q hq K hK=>mirror1_sc q (by omega) hK) ?_)
 intro H' hE
 have e1:get H' 1=some (.row 2 true [[.prim (.slice none 0 0),.prim (.slice none 0 0)]]):=hE.get rfl
 have s1:∀ x,get (H'.set 1 x) 1=x:=fun x=>get_eq (get_lt_len e1)
 simp (disch:=omega) only [↓RS,RZ,simprocAttr,cgV,psV,e1,s1]
theorem scale_pc (hv:Valid L Hs) (h3:Hs.length≤3) (k:Rat) (h1:ht k≤2^20) (h0:k≠0) (hf:Fits (scaleA k) L Hs):PC prog 29 [cgV L Hs,qV k] (.tup [cgV (imgL (scaleA k) L) (imgH (scaleA k) Hs),.prim (.int .i64 (0))]):=by
 have c:=rcheck0_pc k h1
 have sg:=signQ_pc k (by omega)
 have hne:cmpQ k 0≠0:=fun e=>h0 (cmpQ_zero.1 e)
 generalize cmpQ k 0=z at*
 refine PCi ?_
 conv in trip _ _=>cbv
 simp only [runT,RN,simprocAttr]
 simp (disch:=omega) only [↓RS,RZ,simprocAttr,cgV,psV,qV,rV]
 refine cX c ?_
 simp (disch:=omega) only [↓RS,RZ,simprocAttr]
 refine cX sg ?_
 simp (disch:=omega) only [↓RS,RZ,simprocAttr]
 refine call_sc (mapped_sc (t:=scaleA k) hv h3 (par_scale h0) hf (B:=[1]) ?_ ?_ ?_ ?_)
 ·intro H' hE
  have q1:get H' 1=some (.row 3 true [qc k]):=hE.get rfl
  simp only [List.flatMap_cons,List.flatMap_nil,touch_ptr,q1,touchB_row,List.getD_cons_zero,touch_qc,List.append_nil]
 ·intro b hb
  rw [List.mem_singleton.1 hb];exact ⟨_,rfl⟩
 ·intro H' _ hb H'' hE q hq K hK
  have:=hb 1 (List.mem_cons_self ..)
  exact scale1_sc k q h1 (by omega) (hE.get this) hK
 ·intro H' hE
  have e1:get H' 2=some (.row 2 true [[.prim (.slice none 0 0),.prim (.slice none 0 0)]]):=hE.get rfl
  have s1:∀ x,get (H'.set 2 x) 2=x:=fun x=>get_eq (get_lt_len e1)
  simp (disch:=omega) only [↓RS,RZ,simprocAttr,cgV,psV,e1,s1]
theorem place_pc (hv:Valid L Hs) (h3:Hs.length≤3) (r v:Pt) (hr:isRot r) (h0:hp r≤2^20) (h1:hp v≤2^20) (hf:Fits (placeA r v) L Hs):
 PC prog 22 [cgV L Hs,pV r,pV v] (.tup [cgV (imgL (placeA r v) L) (imgH (placeA r v) Hs),.prim (.int .i64 (0))]):=by
 have c:=vcheck0_pc v h1
 have rc:=rotCheck0_pc r h0 hr
 refine PCi ?_
 conv in trip _ _=>cbv
 simp only [runT,RN,simprocAttr]
 simp (disch:=omega) only [↓RS,RZ,simprocAttr,cgV,psV,pV,ptV]
 refine cX rc ?_
 simp (disch:=omega) only [↓RS,RZ,simprocAttr]
 refine cX c ?_
 simp (disch:=omega) only [↓RS,RZ,simprocAttr]
 refine callD_qc (.tup [cgV (imgL (placeA r v) L) (imgH (placeA r v) Hs),.prim (.int .i64 (0))]) none ⟨rfl,trivial⟩ ?_ ?_
 ·intro H0 h0'
  have q1:get H0 1=some (.row 6 true [pc r]):=by rw [h0' 1 (by simp [touch])];rfl
  have q2:get H0 2=some (.row 6 true [pc v]):=by rw [h0' 2 (by simp [touch])];rfl
  refine mapped_sc hv h3 (par_place hr v.x v.y) hf (B:=[1,2]) ?_ ?_ ?_ (fun H' hE'=>⟨rfl,fun c k h=>hE'.get h⟩)
  ·intro H' hE
   simp only [List.flatMap_cons,List.flatMap_nil,touch_ptr,hE.get q1,hE.get q2,touchB_row,List.getD_cons_zero,touch_pc,List.append_nil,List.cons_append,List.nil_append]
  ·intro b hb
   rcases List.mem_cons.1 hb with rfl|hb
   ·exact ⟨_,q1⟩
   ·rw [List.mem_singleton.1 hb];exact ⟨_,q2⟩
  ·intro H' _ hb H'' hE q hq K hK
   have b1:=hb 1 (List.mem_cons_self ..)
   have b2:=hb 2 (List.mem_cons_of_mem _ (List.mem_cons_self ..))
   rw [q1] at b1
   rw [q2] at b2
   exact place1_sc r v q hr h0 h1 (by omega) (hE.get b1) (hE.get b2) hK
 ·simp (disch:=omega) only [↓RS,RZ,simprocAttr,setO,cgV,psV]
theorem flip_pc (hv:Valid L Hs) (h3:Hs.length≤3) (hf:Fits (scaleA (-1)) L Hs):PC prog 25 [cgV L Hs] (.tup [cgV (imgL (scaleA (-1)) L) (imgH (scaleA (-1)) Hs),.prim (.int .i64 (0))]):=by
 have o:=ofQ_pc (-1) (by omega) (by omega)
 have e:(((-1:Int)):Rat)= -1:=rfl
 rw [e] at o
 have:= @ht_int (-1) (by omega)
 rw [e] at this
 have s:=scale_pc hv h3 (-1) (by omega) (by decide+kernel) hf
 refine PCi ?_
 conv in trip _ _=>cbv
 simp only [runT,RN,simprocAttr]
 simp (disch:=omega) only [↓RS,RZ,simprocAttr,cgV,psV]
 refine cX o ?_
 simp (disch:=omega) only [↓RS,RZ,simprocAttr,qV,rV]
 refine cX s ?_
 simp (disch:=omega) only [↓RS,RZ,simprocAttr,cgV,psV]
end Go.Av
namespace Go.Av
open Go.RowKit
open Go.Proofs.Tryz (prog)
def rtc (r:Rt):List V:=[.prim (.bool r.neg),.prim (.string (bs (r.num))),.prim (.string (bs (r.den)))]
theorem rtc_getD {l:List Rt} {k:Nat} (h:k<l.length):(l.map rtc).getD k []=rtc (l.getD k default):=by
 rw [List.getD_eq_getElem?_getD,List.getD_eq_getElem?_getD,List.getElem?_map,List.getElem?_eq_getElem h];rfl
theorem rtc_length (l:List Rt):(l.map rtc).length=l.length:=List.length_map ..
theorem indexR_pc (l:List Rt) (f:FuncId) (p:Nat→Bool) (hl:l.length<2^40) (hf:∀ i,i<l.length→PC prog f [rV (l.getD i default)] (.prim (.bool (p i)))):
 PC prog 168 [.lst 3 (l.map rtc),.clo f [] []] (.prim (.int .i64 (idxP l.length p))):=by
 refine PCi ?_
 conv in trip _ _=>cbv
 simp only [runT,RN,simprocAttr]
 simp (disch:=omega) only [↓RS,RZ,simprocAttr,rtc_length]
 refine wp_lp (fun (i:Nat) J=>ov [(0,.lst 3 (l.map rtc)),(1,.clo f [] []),(4,.prim (.int .i64 (0))),(6,.lst 3 (l.map rtc)),(7,.prim (.int .i64 ((l.length:Nat):Int))),(8,.prim (.int .i64 ((i:Nat):Int)))] J 0 19) (fun i H=>(i≤l.length∧∀ j,j<i→p j=false)∧H=[]) (fun i=>l.length-i) 0 rfl ⟨⟨Nat.zero_le _,fun j hj=>absurd hj (Nat.not_lt_zero j)⟩,rfl⟩ ?_
 rintro i J _ ⟨⟨hi,hp⟩,rfl⟩
 try conv in ov _ _ _ _=>simp only [ov,List.lookup,RO,simprocAttr]
 rcases Nat.lt_or_ge i l.length with hlt|hge
 ·have g:=rtc_getD hlt
  have h:=hf i hlt
  simp (disch:=omega) only [↓RS,RZ,simprocAttr,rtc_length,g,rtc]
  refine cX h ?_
  cases hpi:p i with
  |true=>
   rw [idxP_found hlt hpi hp]
   simp (disch:=omega) only [↓RS,RZ,simprocAttr]
  |false=>
   simp (disch:=omega) only [↓RS,RZ,simprocAttr]
   exact lp_next (i+1) rfl ⟨⟨hlt,fun j hj=>by
    rcases Nat.lt_or_ge j i with h|h
    ·exact hp j h
    ·rw [show j=i by omega];exact hpi⟩,rfl⟩ (by omega)
 ·have hia:i=l.length:=by omega
  subst hia
  rw [idxP_none hp]
  simp (disch:=omega) only [↓RS,RZ,simprocAttr,rtc_length]
theorem containsR_pc (l:List Rt) (f:FuncId) (p:Nat→Bool) (hl:l.length<2^40) (hf:∀ i,i<l.length→PC prog f [rV (l.getD i default)] (.prim (.bool (p i)))):
 PC prog 78 [.lst 3 (l.map rtc),.clo f [] []] (.prim (.bool ((List.range l.length).any p))):=by
 refine PCi ?_
 conv in trip _ _=>cbv
 simp only [runT,RN,simprocAttr]
 have h:=indexR_pc l f p hl hf
 rw [←idxP_nonneg]
 simp (disch:=omega) only [↓RS,RZ,simprocAttr]
 refine cX h ?_
 simp (disch:=omega) only [↓RS,RZ,simprocAttr]
def big30 (r:Rt):Bool:=decide (30<r.num.length)||decide (30<r.den.length)
theorem great1_pc (r:Rt) (h:r.fit):PC prog 79 [rV r] (.prim (.bool (big30 r))):=by
 have hm:maxLen<2^63:=by decide
 obtain ⟨h1,h2⟩:=h
 unfold big30
 by_cases k1:30<r.num.length
 ·rw [decide_eq_true k1]
  refine PCi ?_
  conv in trip _ _=>cbv
  simp only [runT,RN,simprocAttr]
  simp (disch:=omega) only [↓RS,RZ,simprocAttr,rV]
 ·rw [decide_eq_false k1]
  by_cases k2:30<r.den.length
  ·rw [decide_eq_true k2]
   refine PCi ?_
   conv in trip _ _=>cbv
   simp only [runT,RN,simprocAttr]
   simp (disch:=omega) only [↓RS,RZ,simprocAttr,rV]
  ·rw [decide_eq_false k2]
   refine PCi ?_
   conv in trip _ _=>cbv
   simp only [runT,RN,simprocAttr]
   simp (disch:=omega) only [↓RS,RZ,simprocAttr,rV]
def anyBig (l:List Rt):Bool:=(List.range l.length).any fun i=>big30 (l.getD i default)
theorem anyBig_get {l:List Rt} (h:anyBig l=false) {r:Rt} (hr:r∈l):r.num.length≤30∧r.den.length≤30:=by
 obtain ⟨i,hi,rfl⟩:=List.mem_iff_getElem.1 hr
 unfold anyBig at h
 have:=anyTo_get h hi
 rw [List.getD_eq_getElem?_getD,List.getElem?_eq_getElem hi] at this
 unfold big30 at this
 simp only [Option.getD_some,Bool.or_eq_false_iff,decide_eq_false_iff_not] at this
 omega
theorem great14_pc (O:List Rp) (hs:List (List Rp)) (l:List Rt) (hr:Read O hs) (hn:l.length<2^20) (hl:∀ r∈l,r.fit):
 PC prog 16 [pgV O hs,.lst 3 (l.map rtc)] (.prim (.bool (greatP O hs||anyBig l))):=by
 have hm:maxLen<2^63:=by decide
 have g:=greatP_pc O hs (by have:=hr.n;omega) (by have:=hr.o.1;omega) hr.o.2 (fun l hl=>⟨by have:=(hr.h l hl).1;omega,(hr.h l hl).2⟩)
 have c:=containsR_pc l 79 (fun i=>big30 (l.getD i default)) (by omega) (fun i hi=>great1_pc _ (hl _ (by rw [List.getD_eq_getElem?_getD,List.getElem?_eq_getElem hi];exact List.getElem_mem hi)))
 rw [show (List.range l.length).any (fun i=>big30 (l.getD i default))=anyBig l from rfl] at c
 generalize anyBig l=y at*
 cases hx:greatP O hs with
 |true=>
  rw [hx] at g
  refine PCi ?_
  conv in trip _ _=>cbv
  simp only [runT,RN,simprocAttr]
  simp (disch:=omega) only [↓RS,RZ,simprocAttr,pgV,hsV,rpsV]
  refine cX g ?_
  simp (disch:=omega) only [↓RS,RZ,simprocAttr]
 |false=>
  rw [hx] at g
  refine PCi ?_
  conv in trip _ _=>cbv
  simp only [runT,RN,simprocAttr]
  simp (disch:=omega) only [↓RS,RZ,simprocAttr,pgV,hsV,rpsV]
  refine cX g ?_
  simp (disch:=omega) only [↓RS,RZ,simprocAttr]
  refine cX c ?_
  simp (disch:=omega) only [↓RS,RZ,simprocAttr]
theorem greatP_12 {O:List Rp} {hs:List (List Rp)} (h:greatP O hs=false):(∀ p∈O,p.le 12)∧∀ i,i<hs.length→i<11→∀ p∈hs.getD i [],p.le 12:=by
 unfold greatP at h
 simp only [Bool.or_eq_false_iff,decide_eq_false_iff_not] at h
 obtain ⟨h1,h2,h3,h4,h5,h6⟩:=h
 have one:∀ {l:List Rp},greatL l=false→∀ p∈l,p.le 12:=by
  intro l hl p hp
  obtain ⟨i,hi,rfl⟩:=List.mem_iff_getElem.1 hp
  have:=anyTo_get hl hi
  rw [List.getD_eq_getElem?_getD,List.getElem?_eq_getElem hi] at this
  unfold bigP at this
  simp only [Option.getD_some,Bool.or_eq_false_iff,decide_eq_false_iff_not] at this
  exact ⟨⟨by omega,by omega⟩,⟨by omega,by omega⟩⟩
 refine ⟨one h3,fun i hi h11=> ?_⟩
 have:=anyTo_get h4 (i:=i) (by omega)
 simp only [Bool.or_eq_false_iff,decide_eq_false_iff_not] at this
 exact one this.2
structure FineT (O:List Rp) (hs:List (List Rp)) (r v:Rp) (k:Rt):Prop where
 f:Fine O hs
 few:hs.length≤3
 leO:∀ p∈O,p.le 12
 leH:∀ l∈hs,∀ p∈l,p.le 12
 rc:r.x=can r.x.val∧r.y=can r.y.val
 rr:isRot ⟨r.x.val,r.y.val⟩
 rl:r.le 30
 vc:v.x=can v.x.val∧v.y=can v.y.val
 vl:v.le 30
 kc:k=can k.val
 kl:k.le 30
 sz:∀ l∈O::hs,l.length≤10
theorem Rt.le_mono {r:Rt} {a b:Nat} (h:r.le a) (hab:a≤b):r.le b:=⟨Nat.le_trans h.1 hab,Nat.le_trans h.2 hab⟩
theorem ptV_pV {p:Rp} (h:p.x=can p.x.val∧p.y=can p.y.val):ptV p.x p.y=pV ⟨p.x.val,p.y.val⟩:=by
 show ptV p.x p.y=ptV (can p.x.val) (can p.y.val)
 rw [←h.1,←h.2]
theorem hp_raw {p:Rp} (h:p.x=can p.x.val∧p.y=can p.y.val) (hl:p.le 30):hp ⟨p.x.val,p.y.val⟩≤30:=by
 have h1:=hl.1
 have h2:=hl.2
 rw [h.1] at h1
 rw [h.2] at h2
 exact hp_mk (ht_of_le h1 (by omega)) (ht_of_le h2 (by omega))
theorem fineT_pc (O:List Rp) (hs:List (List Rp)) (r v:Rp) (k:Rt) (hr:Read O hs) (f1:r.fit) (f2:v.fit) (f3:k.fit):
 ∃ b,PC prog 33 [pgV O hs,ptV r.x r.y,ptV v.x v.y,rV k] (.prim (.bool b))∧(b=true→FineT O hs r v k):=by
 have g:=great14_pc O hs [r.x,r.y,v.x,v.y,k] hr (by simp) (fun x hx=>by
  simp only [List.mem_cons,List.not_mem_nil,or_false] at hx
  rcases hx with rfl|rfl|rfl|rfl|rfl
  ·exact f1.1
  ·exact f1.2
  ·exact f2.1
  ·exact f2.2
  ·exact f3)
 simp only [List.map_cons,List.map_nil,rtc] at g
 cases hg:greatP O hs||anyBig [r.x,r.y,v.x,v.y,k] with
 |true=>
  rw [hg] at g
  refine ⟨false,?_,fun h=>by cases h⟩
  refine PCi ?_
  conv in trip _ _=>cbv
  simp only [runT,RN,simprocAttr]
  simp (disch:=omega) only [↓RS,RZ,simprocAttr,pgV,hsV,rpsV,ptV,rV]
  refine cX g ?_
  simp (disch:=omega) only [↓RS,RZ,simprocAttr]
 |false=>
  rw [hg] at g
  rw [Bool.or_eq_false_iff] at hg
  obtain ⟨hg1,hg2⟩:=hg
  obtain ⟨h1,h2,h3,h4⟩:=greatP_small hg1
  obtain ⟨l1,l2⟩:=greatP_12 hg1
  have rl:r.le 30:=⟨anyBig_get hg2 (by simp),anyBig_get hg2 (by simp)⟩
  have vl:v.le 30:=⟨anyBig_get hg2 (by simp),anyBig_get hg2 (by simp)⟩
  have kl:k.le 30:=anyBig_get hg2 (by simp)
  have c:=Pcheck_pc O hs (by omega) (by omega) h2 h4
  have rc:=rotCheck_pc r.x r.y (Rt.le_mono rl.1 (by omega)) (Rt.le_mono rl.2 (by omega))
  have vc:=vcheck_pc v.x v.y (Rt.le_mono vl.1 (by omega)) (Rt.le_mono vl.2 (by omega))
  have kc:=checkR2_pc k (Rt.le_mono kl (by omega))
  by_cases z1:chkP O hs=0
  ·rw [z1] at c
   by_cases z2:rotC r.x r.y=0
   ·rw [z2] at rc
    by_cases z3:v.x=can v.x.val∧v.y=can v.y.val
    ·rw [if_pos z3] at vc
     by_cases z4:k=can k.val
     ·rw [if_pos z4] at kc
      refine ⟨true,?_,fun _=> ?_⟩
      ·skip
       refine PCi ?_
       conv in trip _ _=>cbv
       simp only [runT,RN,simprocAttr]
       simp (disch:=omega) only [↓RS,RZ,simprocAttr,pgV,hsV,rpsV,ptV,rV]
       refine cX g ?_
       simp (disch:=omega) only [↓RS,RZ,simprocAttr,pgV,hsV,rpsV]
       refine cX c ?_
       simp (disch:=omega) only [↓RS,RZ,simprocAttr]
       refine cX rc ?_
       simp (disch:=omega) only [↓RS,RZ,simprocAttr]
       refine cX vc ?_
       simp (disch:=omega) only [↓RS,RZ,simprocAttr]
       refine cX kc ?_
       simp (disch:=omega) only [↓RS,RZ,simprocAttr]
      ·have hf:Fine O hs:=⟨z1,h2,h4⟩
       have h8:=hf.few
       have few:hs.length≤3:=by
        unfold greatP at hg1
        simp only [Bool.or_eq_false_iff,decide_eq_false_iff_not] at hg1
        omega
       unfold rotC at z2
       split at z2
       ·rename_i q1
        split at z2
        ·rename_i q2
         refine ⟨hf,few,l1,fun l hl p hp=> ?_,q1,q2,rl,z3,vl,z4,kl,fun l hl=> ?_⟩
         rotate_left
         ·have h64:=hf.rgs.1.hi
          rw [pts,List.length_map] at h64
          unfold greatP at hg1
          simp only [Bool.or_eq_false_iff,decide_eq_false_iff_not] at hg1
          rcases List.mem_cons.1 hl with rfl|hl
          ·omega
          ·obtain ⟨i,hi,rfl⟩:=List.mem_iff_getElem.1 hl
           have:=anyTo_get hg1.2.2.2.1 (i:=i) (by omega)
           simp only [Bool.or_eq_false_iff,decide_eq_false_iff_not] at this
           rw [List.getD_eq_getElem?_getD,List.getElem?_eq_getElem hi] at this
           have:=this.1
           simp only [Option.getD_some] at this
           omega
         obtain ⟨i,hi,rfl⟩:=List.mem_iff_getElem.1 hl
         refine l2 i hi (by omega) p ?_
         rw [List.getD_eq_getElem?_getD,List.getElem?_eq_getElem hi];exact hp
        ·cases z2
       ·cases z2
     ·rw [if_neg z4] at kc
      refine ⟨false,?_,fun h=>by cases h⟩
      refine PCi ?_
      conv in trip _ _=>cbv
      simp only [runT,RN,simprocAttr]
      simp (disch:=omega) only [↓RS,RZ,simprocAttr,pgV,hsV,rpsV,ptV,rV]
      refine cX g ?_
      simp (disch:=omega) only [↓RS,RZ,simprocAttr,pgV,hsV,rpsV]
      refine cX c ?_
      simp (disch:=omega) only [↓RS,RZ,simprocAttr]
      refine cX rc ?_
      simp (disch:=omega) only [↓RS,RZ,simprocAttr]
      refine cX vc ?_
      simp (disch:=omega) only [↓RS,RZ,simprocAttr]
      refine cX kc ?_
      simp (disch:=omega) only [↓RS,RZ,simprocAttr]
    ·rw [if_neg z3] at vc
     refine ⟨false,?_,fun h=>by cases h⟩
     refine PCi ?_
     conv in trip _ _=>cbv
     simp only [runT,RN,simprocAttr]
     simp (disch:=omega) only [↓RS,RZ,simprocAttr,pgV,hsV,rpsV,ptV,rV]
     refine cX g ?_
     simp (disch:=omega) only [↓RS,RZ,simprocAttr,pgV,hsV,rpsV]
     refine cX c ?_
     simp (disch:=omega) only [↓RS,RZ,simprocAttr]
     refine cX rc ?_
     simp (disch:=omega) only [↓RS,RZ,simprocAttr]
     refine cX vc ?_
     simp (disch:=omega) only [↓RS,RZ,simprocAttr]
   ·refine ⟨false,?_,fun h=>by cases h⟩
    generalize rotC r.x r.y=z at*
    refine PCi ?_
    conv in trip _ _=>cbv
    simp only [runT,RN,simprocAttr]
    simp (disch:=omega) only [↓RS,RZ,simprocAttr,pgV,hsV,rpsV,ptV,rV]
    refine cX g ?_
    simp (disch:=omega) only [↓RS,RZ,simprocAttr,pgV,hsV,rpsV]
    refine cX c ?_
    simp (disch:=omega) only [↓RS,RZ,simprocAttr]
    refine cX rc ?_
    simp (disch:=omega) only [↓RS,RZ,simprocAttr]
  ·refine ⟨false,?_,fun h=>by cases h⟩
   generalize chkP O hs=z at*
   refine PCi ?_
   conv in trip _ _=>cbv
   simp only [runT,RN,simprocAttr]
   simp (disch:=omega) only [↓RS,RZ,simprocAttr,pgV,hsV,rpsV,ptV,rV]
   refine cX g ?_
   simp (disch:=omega) only [↓RS,RZ,simprocAttr,pgV,hsV,rpsV]
   refine cX c ?_
   simp (disch:=omega) only [↓RS,RZ,simprocAttr]
end Go.Av
