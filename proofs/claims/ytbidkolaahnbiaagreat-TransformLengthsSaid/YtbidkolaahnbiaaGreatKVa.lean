/- Helping texts: Va, Vb, Vc. -/
import Derived.Test.YtbidkolaahnbiaaGreatKUe
import Derived.Test.YtbidkolaahnbiaaGreatKGf
import Derived.Test.YtbidkolaahnbiaaGreatKRh
set_option linter.unusedSimpArgs false
set_option linter.unusedVariables false
set_option maxRecDepth 100000
set_option maxHeartbeats 16000000
namespace Go.Av
open Go.RowKit
open Go.Proofs.Tryz (prog)
theorem vdot_pc (p q:Pt) (h1:hp p≤2^30) (h2:hp q≤2^30):PC prog 192 [pV p,pV q] (qV (dotP p q)):=by
 have:=hp_x p;have:=hp_y p;have:=hp_x q;have:=hp_y q
 have:=ht_mul p.x q.x;have:=ht_mul p.y q.y
 have h:=each_pc p q 37 (p.x*q.x) (p.y*q.y) (mulQ_pc p.x q.x (by omega) (by omega)) (mulQ_pc p.y q.y (by omega) (by omega))
 have hs:=addQ_pc (p.x*q.x) (p.y*q.y) (by omega) (by omega)
 refine PCi ?_
 conv in trip _ _=>cbv
 simp only [runT,RN,simprocAttr]
 simp (disch:=omega) only [↓RS,RZ,simprocAttr,pV,ptV]
 refine cX h ?_
 simp (disch:=omega) only [↓RS,RZ,simprocAttr,pV,ptV]
 refine cX hs ?_
 simp (disch:=omega) only [↓RS,RZ,simprocAttr,qV,rV]
 try rfl
def dsq (s:Sg):Rat:=dotP (s.a.sub s.b) (s.a.sub s.b)
theorem dist_pc (p q:Pt) (h1:hp p≤2^28) (h2:hp q≤2^28):PC prog 117 [pV p,pV q] (qV (dsq ⟨p,q⟩)):=by
 have hd:=hp_sub p q
 have h:=vsub_pc p q (by omega) (by omega)
 have c:=vdot_pc (p.sub q) (p.sub q) (by omega) (by omega)
 refine PCi ?_
 conv in trip _ _=>cbv
 simp only [runT,RN,simprocAttr]
 simp (disch:=omega) only [↓RS,RZ,simprocAttr,pV,ptV]
 refine cX h ?_
 simp (disch:=omega) only [↓RS,RZ,simprocAttr,pV,ptV]
 refine cX c ?_
 simp (disch:=omega) only [↓RS,RZ,simprocAttr,qV,rV]
 try rfl
theorem ht_dsq {s:Sg} {k:Nat} (h:hs s≤k):ht (dsq s)≤8*k+5:=by
 have h1:=hp_sub s.a s.b
 have h2:=ht_dot (s.a.sub s.b) (s.a.sub s.b)
 have h3:hp s.a≤hs s:=Nat.le_max_left _ _
 have h4:hp s.b≤hs s:=Nat.le_max_right _ _
 unfold dsq;omega
def qsV (l:List Rat):V:= .lst 3 (l.map qc)
theorem qc_getD {l:List Rat} {i:Nat} (h:i<l.length):(l.map qc).getD i []=qc (l.getD i 0):=by
 rw [List.getD_eq_getElem?_getD,List.getD_eq_getElem?_getD,List.getElem?_map,List.getElem?_eq_getElem h];rfl
theorem qc_len (l:List Rat):(l.map qc).length=l.length:=List.length_map ..
theorem equalQ_pc (L:List Rat) (hn:L.length<2^40):PC prog 50 [qsV L,qsV L] (.prim (.bool true)):=by
 have e:=fun x=>eqA_q x x
 refine PCi ?_
 conv in trip _ _=>cbv
 simp only [runT,RN,simprocAttr]
 simp (disch:=omega) only [↓RS,RZ,simprocAttr,qsV,qc_len]
 refine wp_lp (fun (i:Nat) J=>ov [(0,qsV L),(1,qsV L),(4,.prim (.bool false)),(11,qsV L),(12,.prim (.int .i64 ((L.length:Nat):Int))),(13,.prim (.int .i64 ((i:Nat):Int)))] J 0 26) (fun i H=>i≤L.length∧H=[]) (fun i=>L.length-i) 0 rfl ⟨Nat.zero_le _,rfl⟩ ?_
 rintro i J _ ⟨hi,rfl⟩
 try conv in ov _ _ _ _=>simp only [ov,List.lookup,RO,simprocAttr]
 rcases Nat.lt_or_ge i L.length with hlt|hge
 ·have g1:=qc_getD hlt
  have e:=eqA_q (L.getD i 0) (L.getD i 0)
  rw [decide_eq_true rfl] at e
  simp (disch:=omega) only [↓RS,RZ,simprocAttr,qsV,qc_len,g1,qc,e]
  exact lp_next (i+1) rfl ⟨hlt,rfl⟩ (by omega)
 ·simp (disch:=omega) only [↓RS,RZ,simprocAttr,qsV,qc_len]
def lenTo (E:List Sg) (i:Nat):List Rat:=(List.range i).map fun j=>dsq (E.getD j sg0)
theorem lenTo_all (E:List Sg):lenTo E E.length=E.map dsq:=by
 have h0:∀ j∈List.range E.length,dsq (E.getD j sg0)=(E.map dsq).getD j 0:=fun j hj=>by
  have:=List.mem_range.1 hj
  rw [List.getD_eq_getElem?_getD,List.getD_eq_getElem?_getD,List.getElem?_map,List.getElem?_eq_getElem this];rfl
 rw [lenTo,List.map_congr_left h0]
 refine ext_q (by simp) fun i hi=> ?_
 have hi:i<E.length:=by simpa using hi
 rw [List.getD_eq_getElem?_getD,List.getElem?_map,List.getElem?_range hi];rfl
def lensP (L:List Pt) (Hs:List (List Pt)):List Rat:=srtQ ((edgesTo (L::Hs) (Hs.length+1)).map dsq)
theorem Valid.edges_pc {L:List Pt} {Hs:List (List Pt)} (h:Valid L Hs):PC prog 59 [cgV L Hs] (.tup [ssV (edgesTo (L::Hs) (Hs.length+1)),.prim (.int .i64 (0))]):=by
 have:=EdgesP_pc h.fine
 have e:Hs.map (pts∘fun l=>l.map Pt.rp)=Hs:=by
  conv=>rhs;rw [←List.map_id Hs]
  exact List.map_congr_left fun l _=>pts_rp l
 rw [pts_rp,List.map_map,e,List.length_map] at this
 exact this
theorem lengths_pc {L:List Pt} {Hs:List (List Pt)} (hv:Valid L Hs) (hE:(edgesTo (L::Hs) (Hs.length+1)).length<50):
 PC prog 49 [cgV L Hs,.prim (.int .i64 (0))] (.tup [qsV (lensP L Hs),.prim (.bool true)]):=by
 have ce:=hv.edges_pc
 have hne:edgesTo (L::Hs) (Hs.length+1)≠[]:=fun h=>cornersTo_ne hv.rgs Hs.length (List.length_eq_zero_iff.1 (by rw [←(cornersTo_le hv.rgs (Hs.length+1) (Nat.le_refl _)).2,h];rfl))
 have hEs:=hs_edges hv.rgs (Hs.length+1) (Nat.le_refl _)
 have hla:=lenTo_all (edgesTo (L::Hs) (Hs.length+1))
 have hF:CmpF 119 :=fun p q h1 h2=>rcmpQ_pc p q (by omega) (by omega)
 unfold lensP
 generalize edgesTo (L::Hs) (Hs.length+1)=E at*
 refine PCi ?_
 conv in trip _ _=>cbv
 simp only [runT,RN,simprocAttr]
 simp (disch:=omega) only [↓RS,RZ,simprocAttr,cgV,psV]
 refine cX ce ?_
 simp (disch:=omega) only [↓RS,RZ,simprocAttr,ssV,sgc_length]
 refine wp_lp (fun (s:Nat×V) J=>ov [(1,.prim (.int .i64 (0))),(7,.prim (.int .i64 (0))),(8,s.2),(16,ssV E),(17,.prim (.int .i64 ((E.length:Nat):Int))),(18,.prim (.int .i64 ((s.1:Nat):Int)))] J 0 40) (fun s H=>s.1≤E.length∧Bufn 1 H s.2 3 ((lenTo E s.1).map qc)) (fun s=>E.length-s.1) (0,.prim (.slice none 0 0)) rfl ⟨Nat.zero_le _,.nil (by simp)⟩ ?_
 rintro ⟨i,v⟩ J H ⟨hi,hB⟩
 try conv in ov _ _ _ _=>simp only [ov,List.lookup,RO,simprocAttr]
 simp only at hi hB ⊢
 rcases Nat.lt_or_ge i E.length with hlt|hge
 ·have g:=sgc_getD hlt
  have hss:hs (E.getD i sg0)≤2^16:=hEs _ (by rw [List.getD_eq_getElem?_getD,List.getElem?_eq_getElem hlt];exact List.getElem_mem hlt)
  have h3:hp (E.getD i sg0).a≤2^28:=Nat.le_trans (Nat.le_trans (Nat.le_max_left _ _) hss) (by omega)
  have h4:hp (E.getD i sg0).b≤2^28:=Nat.le_trans (Nat.le_trans (Nat.le_max_right _ _) hss) (by omega)
  have hd:=dist_pc (E.getD i sg0).a (E.getD i sg0).b h3 h4
  simp (disch:=omega) only [↓RS,RZ,simprocAttr,ssV,sgc_length,g,sgc,set_app_len,get_app_len]
  refine cX hd ?_
  simp (disch:=omega) only [↓RS,RZ,simprocAttr,qV,rV]
  have hl:(lenTo E i).length=i:=by simp [lenTo]
  refine Bufn.append ((hB.app _).app _) (by simp [cellV]) (by simp only [List.length_cons,List.length_nil,List.length_map,hl];omega) (by simp only [List.length_cons,List.length_nil,List.length_map,hl];omega) ?_
  intro v' H2 hb hk
  simp (disch:=omega) only [↓RS,RZ,simprocAttr]
  refine lp_next (i+1,v') rfl ⟨hlt,?_⟩ (by simp only;omega)
  unfold lenTo
  rw [range_map_succ,List.map_append]
  exact hb
 ·have hia:i=E.length:=by omega
  subst hia
  rw [hla] at hB
  have hml:(E.map dsq).length=E.length:=List.length_map ..
  have hq0:hq (E.map dsq) (2^30):=fun j hj=>by
   rw [hml] at hj
   have e:(E.map dsq).getD j 0=dsq (E.getD j sg0):=by
    rw [List.getD_eq_getElem?_getD,List.getD_eq_getElem?_getD,List.getElem?_map,List.getElem?_eq_getElem hj];rfl
   rw [e]
   have hss:hs (E.getD j sg0)≤2^16:=hEs _ (by rw [List.getD_eq_getElem?_getD,List.getElem?_eq_getElem hj];exact List.getElem_mem hj)
   exact Nat.le_trans (ht_dsq hss) (by omega)
  obtain ⟨bb,hbb,rfl,hgb⟩:=hB.cases (by simpa using hne)
  have sc:=fun K0 hK0=> @sortG_sc 119 hF (E.map dsq) (by omega) hq0 bb false H K0 hgb hK0
  rw [hml] at sc
  rw [List.length_map,hml]
  simp (disch:=omega) only [↓RS,RZ,simprocAttr,ssV,sgc_length]
  refine call_sc (sc _ fun H2 hU hg=> ?_)
  simp (disch:=omega) only [↓RS,RZ,simprocAttr]
  have hl:((srtQ (E.map dsq)).map qc).length=E.length:=by rw [List.length_map,(srtQ_perm _).length_eq,hml]
  have hvl:= @viewLL_prims H2 6 _ (qc_prims (srtQ (E.map dsq)))
  rw [hg]
  try simp only
  rw [if_pos (by omega),List.take_of_length_le (by omega),hvl]
  rfl
end Go.Av
namespace Go.Av
open Go.RowKit
open Go.Proofs.Tryz (prog)
theorem edgesTo_flat (Ls:List (List Pt)):∀ i,i≤Ls.length→edgesTo Ls i=(Ls.take i).flatMap edgesL
 |0,_=>by simp [edgesTo]
 |i+1,h=>by
  have e:edgesTo Ls (i+1)=edgesTo Ls i++edgesL (Ls.getD i []):=rfl
  rw [e,edgesTo_flat Ls i (by omega),List.take_add_one,List.getElem?_eq_getElem (by omega),List.flatMap_append,List.getD_eq_getElem?_getD,List.getElem?_eq_getElem (by omega)]
  simp
theorem edgesTo_all (L:List Pt) (Hs:List (List Pt)):edgesTo (L::Hs) (Hs.length+1)=edgesL L++Hs.flatMap edgesL:=by
 rw [edgesTo_flat (L::Hs) (Hs.length+1) (Nat.le_refl _),List.take_of_length_le (by simp),List.flatMap_cons]
theorem dsq_rev (s:Sg):dsq s.rev=dsq s:=by
 unfold dsq Sg.rev dotP Pt.sub;simp only;grind
def Iso (t:Aff):Prop:=∀ s:Sg,dsq (s.map t.ap)=dsq s
theorem lens_img {l:List Pt} (h:Ring l) {t:Aff} (ht:Iso t):((edgesL (imgL t l)).map dsq).Perm ((edgesL l).map dsq):=by
 have h0:0<(l.map t.ap).length:=by rw [List.length_map];have:=h.lo;omega
 have e1:(edgesL (l.map t.ap)).map dsq=(edgesL l).map dsq:=by
  rw [edges_map,List.map_map]
  exact List.map_congr_left fun s _=>ht s
 unfold imgL
 rcases edges_canonL h0 with k|k
 ·rw [←e1];exact k.map dsq
 ·have:=k.map dsq
  rw [List.map_map] at this
  rw [←e1]
  refine this.trans ?_
  rw [List.map_congr_left fun s (_:s∈edgesL (l.map t.ap))=>show (dsq∘Sg.rev) s=dsq s from dsq_rev s]
theorem perm_flat {α β:Type} {f g:α→List β}:∀ {l:List α},(∀ a∈l,(f a).Perm (g a))→(l.flatMap f).Perm (l.flatMap g)
 |[],_=> .refl _
 |a::l,h=>by
  rw [List.flatMap_cons,List.flatMap_cons]
  exact (h a (List.mem_cons_self ..)).append (perm_flat fun b hb=>h b (List.mem_cons_of_mem _ hb))
theorem lensP_perm {L:List Pt} {Hs:List (List Pt)} (hv:Valid L Hs) (h3:Hs.length≤3) {t:Aff} (ht:Par t) (hf:Fits t L Hs) (hi:Iso t):((edgesTo (imgL t L::imgH t Hs) ((imgH t Hs).length+1)).map dsq).Perm ((edgesTo (L::Hs) (Hs.length+1)).map dsq):=by
 rw [edgesTo_all,edgesTo_all,List.map_append,List.map_append,List.map_flatMap,List.map_flatMap]
 refine (lens_img hv.out hi).append ?_
 refine ((sortH_perm hv h3 ht hf).flatMap_right _).trans ?_
 rw [List.flatMap_map]
 exact perm_flat fun l hl=>lens_img (hv.holes l hl) hi
theorem lensP_img {L:List Pt} {Hs:List (List Pt)} (hv:Valid L Hs) (h3:Hs.length≤3) {t:Aff} (ht:Par t) (hf:Fits t L Hs) (hi:Iso t):lensP (imgL t L) (imgH t Hs)=lensP L Hs:=srtQ_eq (lensP_perm hv h3 ht hf hi)
theorem edges_few {L:List Pt} {Hs:List (List Pt)} (h3:Hs.length≤3) (hs:∀ l∈L::Hs,l.length≤10):(edgesTo (L::Hs) (Hs.length+1)).length<50:=by
 have:∀ X:List (List Pt),(∀ l∈X,l.length≤10)→(X.flatMap edgesL).length≤X.length*10:=by
  intro X
  induction X with
  |nil=>intro _;simp
  |cons a X ih=>
   intro h
   have h1:=h a (List.mem_cons_self ..)
   have h2:=ih fun l hl=>h l (List.mem_cons_of_mem _ hl)
   rw [List.flatMap_cons,List.length_append,edgesL_length,List.length_cons];omega
 rw [edgesTo_all,←List.flatMap_cons]
 have:=this (L::Hs) hs
 rw [List.length_cons] at this;omega
theorem iso_place {r:Pt} (hr:isRot r) (v:Pt):Iso (placeA r v):=fun s=>by
 unfold isRot at hr
 unfold dsq Sg.map placeA Aff.ap dotP Pt.sub
 try simp only
 generalize s.a.x=a at*
 generalize s.a.y=b at*
 generalize s.b.x=c at*
 generalize s.b.y=d at*
 have:(r.x*a+ -r.y*b+v.x-(r.x*c+ -r.y*d+v.x))*(r.x*a+ -r.y*b+v.x-(r.x*c+ -r.y*d+v.x))+(r.y*a+r.x*b+v.y-(r.y*c+r.x*d+v.y))*(r.y*a+r.x*b+v.y-(r.y*c+r.x*d+v.y))=(r.x*r.x+r.y*r.y)*((a-c)*(a-c)+(b-d)*(b-d)):=by grind
 rw [this,hr];grind
theorem iso_flip:Iso (scaleA (-1)):=fun s=>by unfold dsq Sg.map scaleA Aff.ap dotP Pt.sub;simp only;grind
theorem iso_mir:Iso mirA:=fun s=>by unfold dsq Sg.map mirA Aff.ap dotP Pt.sub;simp only;grind
end Go.Av
namespace Go.Av
open Go.RowKit
open Go.Proofs.Tryz (prog)
theorem transformLengths_pc (O:List Rp) (hs:List (List Rp)) (r v:Rp) (hr:Read O hs) (f1:r.fit) (f2:v.fit):
 PC prog 8 [pgV O hs,ptV r.x r.y,ptV v.x v.y] (.prim (.bool true)):=by
 obtain ⟨b,f,hb⟩:=fineT_pc O hs r v ⟨false,[],[]⟩ hr f1 f2 ⟨Nat.zero_le _,Nat.zero_le _⟩
 have aw:=awake14_pc
 cases b with
 |false=>
  refine PCi ?_
  conv in trip _ _=>cbv
  simp only [runT,RN,simprocAttr]
  simp (disch:=omega) only [↓RS,RZ,simprocAttr,pgV,hsV,rpsV,ptV,rV]
  refine cX f ?_
  simp (disch:=omega) only [↓RS,RZ,simprocAttr]
  refine cX aw ?_
  simp (disch:=omega) only [↓RS,RZ,simprocAttr]
 |true=>
  have hf:=hb rfl
  have hv:=hf.f.valid
  have h3:(hs.map pts).length≤3:=by rw [List.length_map];exact hf.few
  have hsz:∀ l∈pts O::hs.map pts,l.length≤10:=by
   intro l hl
   rcases List.mem_cons.1 hl with rfl|hl
   ·rw [pts,List.length_map];exact hf.sz O (List.mem_cons_self ..)
   ·obtain ⟨m,hm,rfl⟩:=List.mem_map.1 hl
    rw [pts,List.length_map];exact hf.sz m (List.mem_cons_of_mem _ hm)
  have hl0:=hf.hlP
  have hR:=hp_raw hf.rc hf.rl
  have hV:=hp_raw hf.vc hf.vl
  have hrr:=hf.rr
  rw [hf.f.val,ptV_pV hf.rc,ptV_pV hf.vc] at f ⊢
  clear hb hf f1 f2 hr
  generalize hs.map pts=Hs at*
  generalize pts O=L at*
  generalize (⟨r.x.val,r.y.val⟩:Pt)=R at*
  generalize (⟨v.x.val,v.y.val⟩:Pt)=W at*
  have ft1:Fits (placeA R W) L Hs:=hl0.fits (le_place hR hV) (by omega)
  have ft2:Fits (scaleA (-1)) L Hs:=hl0.fits (le_scale ht_mone (Nat.le_refl _)) (by omega)
  have ft3:Fits mirA L Hs:=hl0.fits le_mir (by omega)
  have q1:=par_place hrr W.x W.y
  have q2:=par_scale (k:= -1) (by decide+kernel)
  have n0:=edges_few h3 hsz
  have len:∀ {t:Aff},Par t→Fits t L Hs→Iso t→PC prog 49 [cgV (imgL t L) (imgH t Hs),.prim (.int .i64 (0))] (.tup [qsV (lensP L Hs),.prim (.bool true)]):=fun {t} hp hft hi=>by
   have hn:=(lensP_perm hv h3 hp hft hi).length_eq
   rw [List.length_map,List.length_map] at hn
   have:=lengths_pc (hv.img h3 hp hft) (by rw [show sortH (Hs.map (imgL t))=imgH t Hs from rfl,hn];exact n0)
   rw [show sortH (Hs.map (imgL t))=imgH t Hs from rfl,lensP_img hv h3 hp hft hi] at this
   exact this
  have l0:=lengths_pc hv n0
  have l1:=len (t:=placeA R W) q1 ft1 (iso_place hrr W)
  have l2:=len (t:=scaleA (-1)) q2 ft2 iso_flip
  have l3:=len (t:=mirA) par_mirror ft3 iso_mir
  have p1:=place_pc hv h3 R W hrr (by omega) (by omega) ft1
  have p2:=flip_pc hv h3 ft2
  have p3:=mirror_pc hv h3 ft3
  have hl50:(lensP L Hs).length<2^40:=by
   unfold lensP;rw [(srtQ_perm _).length_eq,List.length_map];omega
  have eq:=equalQ_pc (lensP L Hs) hl50
  generalize lensP L Hs=X at*
  clear len q1 q2 n0 ft1 ft2 ft3 hl0 hsz
  generalize imgL (placeA R W) L=L1 at*
  generalize imgH (placeA R W) Hs=H1 at*
  generalize imgL (scaleA (-1)) L=L2 at*
  generalize imgH (scaleA (-1)) Hs=H2 at*
  generalize imgL mirA L=L3 at*
  generalize imgH mirA Hs=H3 at*
  refine PCi ?_
  conv in trip _ _=>cbv
  simp only [runT,RN,simprocAttr]
  simp (disch:=omega) only [↓RS,RZ,simprocAttr,cgV,psV,pV,ptV,rV]
  refine cX f ?_
  simp (disch:=omega) only [↓RS,RZ,simprocAttr,psV]
  refine cX l0 ?_
  simp (disch:=omega) only [↓RS,RZ,simprocAttr,qsV,psV]
  refine cX p1 ?_
  simp (disch:=omega) only [↓RS,RZ,simprocAttr,cgV,psV]
  refine cX l1 ?_
  simp (disch:=omega) only [↓RS,RZ,simprocAttr,qsV,psV]
  refine cX p2 ?_
  simp (disch:=omega) only [↓RS,RZ,simprocAttr,cgV,psV]
  refine cX l2 ?_
  simp (disch:=omega) only [↓RS,RZ,simprocAttr,qsV,psV]
  refine cX p3 ?_
  simp (disch:=omega) only [↓RS,RZ,simprocAttr,cgV,psV]
  refine cX l3 ?_
  simp (disch:=omega) only [↓RS,RZ,simprocAttr,qsV]
  refine cX eq ?_
  simp (disch:=omega) only [↓RS,RZ,simprocAttr,qsV]
  refine cX eq ?_
  simp (disch:=omega) only [↓RS,RZ,simprocAttr,qsV]
  refine cX eq ?_
  simp (disch:=omega) only [↓RS,RZ,simprocAttr]
  refine cX aw ?_
  simp (disch:=omega) only [↓RS,RZ,simprocAttr]
end Go.Av
