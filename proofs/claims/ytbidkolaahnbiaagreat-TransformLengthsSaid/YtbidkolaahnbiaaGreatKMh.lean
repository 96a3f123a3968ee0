/- Helping texts: Mh, Mi, Mj. -/
import Derived.Test.YtbidkolaahnbiaaGreatKFh
import Derived.Test.YtbidkolaahnbiaaGreatKMf
set_option linter.unusedSimpArgs false
set_option linter.unusedVariables false
set_option maxRecDepth 100000
set_option maxHeartbeats 16000000
namespace Go.Av
open Go.RowKit
open Go.Proofs.Tryz (prog)
def NoMeet (A B:List Pt):Prop:=∀ s∈edgesL A,∀ t∈edgesL B,¬Common s.a s.b t.a t.b
theorem NoMeet.symm {A B:List Pt} (h:NoMeet A B):NoMeet B A:=fun s hs t ht k=>h t ht s hs k.symm
theorem seg_mem {A:List Pt} {i:Nat} (hi:i<A.length):segOf A i∈edgesL A:=List.mem_map.2 ⟨i,List.mem_range.2 hi,rfl⟩
theorem meetB_noMeet {A B:List Pt} (hA:Ring A) (hB:Ring B):meetB A B=false↔NoMeet A B:=by
 constructor
 ·intro h s hs t ht hc
  obtain ⟨i,hi,rfl⟩:=mem_edgesL hs
  obtain ⟨k,hk,rfl⟩:=mem_edgesL ht
  rw [meetB_true hi hk (meet_some (hA.seg_ok hi) (hB.seg_ok hk) hc)] at h
  cases h
 ·intro h
  refine meetB_false fun i hi k hk=> ?_
  have:¬(meetM (segOf A i) (segOf B k)).isSome=true:=fun hm=>h _ (seg_mem hi) _ (seg_mem hk) (some_common hm)
  rwa [Bool.not_eq_true] at this
theorem NoMeet.free {A B:List Pt} (h:NoMeet A B) {i:Nat} (hi:i<A.length):∀ s∈edgesL B,¬onSeg s.a s.b (A.getD i default):=fun s hs k=>h _ (seg_mem hi) s hs ⟨_,onSeg_l _ _,k⟩
theorem NoMeet.freeP {A B:List Pt} (h:NoMeet A B) {p:Pt} (hp:p∈A):∀ s∈edgesL B,¬onSeg s.a s.b p:=by
 obtain ⟨i,hi,rfl⟩:=mem_getD hp
 exact h.free hi
theorem odd_const {A B:List Pt} (h:NoMeet A B):∀ {i:Nat},i<A.length→oddTo B (A.getD i default) B.length=oddTo B (A.getD 0 default) B.length
 |0,_=>rfl
 |i+1,hi=>by
  rw [←odd_const h (show i<A.length by omega)]
  have e:A.getD (i+1) default=nx A i:=by rw [nx_sc (by omega)];unfold sc;rw [if_neg (by omega)]
  rw [e]
  exact (odd_same fun j hj=>h (segOf A i) (seg_mem (by omega)) (segOf B j) (seg_mem hj)).symm
theorem withinB_odd {A B:List Pt} (h:NoMeet A B) (h0:0<A.length):withinB A B=oddTo B (A.getD 0 default) B.length:=by
 have hb:onB B (A.getD 0 default)=false:=onB_false fun i hi=>by
  have:=h.free h0 (segOf B i) (seg_mem hi)
  cases hx:between (B.getD i default) (nx B i) (A.getD 0 default) with
  |false=>rfl
  |true=>exact absurd (between_onSeg hx) this
 unfold withinB sideS
 rw [hb]
 cases oddTo B (A.getD 0 default) B.length<;>simp
structure Sep (a b:List Pt):Prop where
 nm:NoMeet a b
 ab:∀ p∈b,oddTo a p a.length=false
 ba:∀ p∈a,oddTo b p b.length=false
theorem Sep.symm {a b:List Pt} (h:Sep a b):Sep b a:=⟨h.nm.symm,h.ba,h.ab⟩
structure Valid (L:List Pt) (Hs:List (List Pt)):Prop where
 out:Ring L
 holes:∀ h∈Hs,Ring h
 few:Hs.length≤8
 mo:∀ h∈Hs,NoMeet h L
 wo:∀ h∈Hs,∀ p∈h,oddTo L p L.length=true
 pw:Hs.Pairwise Sep
 asc:Asc Hs
theorem Valid.rgs {L:List Pt} {Hs:List (List Pt)} (h:Valid L Hs):Rgs L Hs:=⟨h.out,h.holes,h.few⟩
theorem Fine.valid {O:List Rp} {hs:List (List Rp)} (h:Fine O hs):Valid (pts O) (hs.map pts):=by
 have hr:=h.rgs
 have get:∀ i,i<hs.length→(hs.map pts).getD i []=pts (hs.getD i []):=fun i hi=>by
  rw [List.getD_eq_getElem?_getD,List.getD_eq_getElem?_getD,List.getElem?_map,List.getElem?_eq_getElem hi];rfl
 have ring:∀ i,i<hs.length→Ring (pts (hs.getD i [])):=fun i hi=>by
  rw [←get i hi];exact hr.hole (by rw [List.length_map];exact hi)
 have key:∀ i,i<hs.length→NoMeet (pts (hs.getD i [])) (pts O)∧(∀ j,j<i→NoMeet (pts (hs.getD i [])) (pts (hs.getD j [])))∧withinB (pts (hs.getD i [])) (pts O)=true∧
  ∀ j,j<i→withinB (pts (hs.getD i [])) (pts (hs.getD j []))=false∧withinB (pts (hs.getD j [])) (pts (hs.getD i []))=false:=by
  intro i hi
  have hz:=h.hz i hi
  unfold chkH at hz
  rw [if_neg (by intro h2;exact h2 (chkH_ring (h.hz i hi)))] at hz
  split at hz
  ·cases hz
  rename_i x1
  split at hz
  ·cases hz
  rename_i x2
  split at hz
  ·cases hz
  rename_i x3
  rw [not_or,Bool.not_eq_true,Bool.not_eq_true] at x1
  rw [Bool.not_eq_false] at x2
  rw [Bool.not_eq_true] at x3
  refine ⟨(meetB_noMeet (ring i hi) hr.out).1 x1.1,fun j hj=>(meetB_noMeet (ring i hi) (ring j (by omega))).1 (anyTo_get x1.2 hj),x2,fun j hj=> ?_⟩
  have:=anyTo_get x3 hj
  rwa [Bool.or_eq_false_iff] at this
 have mem:∀ l∈hs.map pts,∃ i,i<hs.length∧l=pts (hs.getD i []):=by
  intro l hl
  obtain ⟨i,hi,rfl⟩:=List.mem_iff_getElem.1 hl
  rw [List.length_map] at hi
  refine ⟨i,hi,?_⟩
  rw [←get i hi,List.getD_eq_getElem?_getD,List.getElem?_eq_getElem (by rw [List.length_map];exact hi)];rfl
 refine ⟨hr.out,hr.holes,hr.few,fun l hl=> ?_,fun l hl p hp=> ?_,?_,h.asc⟩
 ·obtain ⟨i,hi,rfl⟩:=mem l hl
  exact (key i hi).1
 ·obtain ⟨i,hi,rfl⟩:=mem l hl
  obtain ⟨k1,_,k3,_⟩:=key i hi
  have r:=ring i hi
  rw [withinB_odd k1 (by have:=r.lo;omega)] at k3
  obtain ⟨j,hj,rfl⟩:=mem_getD hp
  rw [odd_const k1 hj];exact k3
 ·rw [List.pairwise_iff_getElem]
  intro j i hj hi hlt
  rw [List.length_map] at hi hj
  obtain ⟨_,k2,_,k4⟩:=key i hi
  have e:∀ k (hk:k<hs.length),(hs.map pts)[k]'(by rw [List.length_map];exact hk)=pts (hs.getD k []):=fun k hk=>by
   rw [List.getElem_map,List.getD_eq_getElem?_getD,List.getElem?_eq_getElem hk];rfl
  rw [e i hi,e j hj]
  have nm:=k2 j hlt
  obtain ⟨w1,w2⟩:=k4 j hlt
  have ri:=ring i hi
  have rj:=ring j hj
  rw [withinB_odd nm (by have:=ri.lo;omega)] at w1
  rw [withinB_odd nm.symm (by have:=rj.lo;omega)] at w2
  refine ⟨nm.symm,fun p hp=> ?_,fun p hp=> ?_⟩
  ·obtain ⟨k,hk,rfl⟩:=mem_getD hp
   rw [odd_const nm hk];exact w1
  ·obtain ⟨k,hk,rfl⟩:=mem_getD hp
   rw [odd_const nm.symm hk];exact w2
theorem getD_mem0 {l:List Pt} (h:0<l.length):l.getD 0 default∈l:=by
 rw [List.getD_eq_getElem?_getD,List.getElem?_eq_getElem h];exact List.getElem_mem h
theorem Valid.fine {L:List Pt} {Hs:List (List Pt)} (h:Valid L Hs):Fine (L.map Pt.rp) (Hs.map fun l=>l.map Pt.rp):=by
 have get:∀ i,i<Hs.length→pts ((Hs.map fun l=>l.map Pt.rp).getD i [])=Hs.getD i []:=fun i hi=>by
  rw [List.getD_eq_getElem?_getD,List.getD_eq_getElem?_getD,List.getElem?_map,List.getElem?_eq_getElem hi];exact pts_rp _
 have get2:∀ i,i<Hs.length→(Hs.map fun l=>l.map Pt.rp).getD i []=(Hs.getD i []).map Pt.rp:=fun i hi=>by
  rw [List.getD_eq_getElem?_getD,List.getD_eq_getElem?_getD,List.getElem?_map,List.getElem?_eq_getElem hi];rfl
 have mem:∀ i,i<Hs.length→Hs.getD i []∈Hs:=fun i hi=>by rw [List.getD_eq_getElem?_getD,List.getElem?_eq_getElem hi];exact List.getElem_mem hi
 refine ⟨?_,rp_le h.out.ht,fun l hl=> ?_⟩
 ·unfold chkP
  rw [chkR_rp h.out.lo h.out.hi,h.out.ok,if_neg (fun k=>k rfl),List.length_map,if_neg (by have:=h.few;omega)]
  refine firstNz_none fun i hi=> ?_
  have r:=h.holes _ (mem i hi)
  have sep:∀ j,j<i→Sep (Hs.getD j []) (Hs.getD i []):=fun j hj=>by
   have:=List.pairwise_iff_getElem.1 h.pw j i (by omega) hi hj
   rw [List.getD_eq_getElem?_getD,List.getD_eq_getElem?_getD,List.getElem?_eq_getElem hi,List.getElem?_eq_getElem (show j<Hs.length by omega)]
   exact this
  unfold chkH
  rw [get2 i hi,chkR_rp r.lo r.hi,r.ok,if_neg (fun k=>k rfl),pts_rp,pts_rp,if_neg,if_neg,if_neg,if_neg]
  ·rintro ⟨h0,hle⟩
   rw [get (i-1) (by omega)] at hle
   have:=h.asc i h0 hi
   unfold cmpH at this
   omega
  ·rw [Bool.not_eq_true]
   refine anyTo_false fun j hj=> ?_
   have s:=sep j hj
   have rj:=h.holes _ (mem j (by omega))
   have l1:=r.lo
   have l2:=rj.lo
   rw [get j (by omega),withinB_odd s.nm.symm (by omega),withinB_odd s.nm (by omega),s.ab _ (getD_mem0 (by omega)),s.ba _ (getD_mem0 (by omega))]
   rfl
  ·have l1:=r.lo
   rw [withinB_odd (h.mo _ (mem i hi)) (by omega),h.wo _ (mem i hi) _ (getD_mem0 (by omega))]
   simp
  ·rw [not_or,Bool.not_eq_true,Bool.not_eq_true]
   refine ⟨(meetB_noMeet r h.out).2 (h.mo _ (mem i hi)),anyTo_false fun j hj=> ?_⟩
   rw [get j (by omega)]
   exact (meetB_noMeet r (h.holes _ (mem j (by omega)))).2 (sep j hj).nm.symm
 ·obtain ⟨l0,hl0,rfl⟩:=List.mem_map.1 hl
  have r:=h.holes l0 hl0
  exact ⟨by rw [List.length_map];have:=r.hi;omega,rp_le r.ht⟩
theorem Valid.check_pc {L:List Pt} {Hs:List (List Pt)} (h:Valid L Hs):PC prog 74 [cgV L Hs] (.prim (.int .i64 (0))):=by
 have:=h.fine.check_pc
 rw [pts_rp,List.map_map] at this
 have e:Hs.map (pts∘fun l=>l.map Pt.rp)=Hs:=by
  conv=>rhs;rw [←List.map_id Hs]
  exact List.map_congr_left fun l _=>pts_rp l
 rwa [e] at this
theorem edges_rotL (l:List Pt) {r:Nat} (h:r≤l.length):(edgesL (rotL l r)).Perm (edgesL l):=rotL_ind (fun m=>(edgesL m).Perm (edgesL l)) (fun m k=>(edges_rot1 m).trans k) (List.Perm.refl _) r h
theorem edges_startL {m:List Pt} (h:0<m.length):(edgesL (startL m)).Perm (edgesL m):=edges_rotL m (Nat.le_of_lt (leastTo_in h))
theorem edges_canonL {l:List Pt} (h:0<l.length):(edgesL (canonL l)).Perm (edgesL l)∨(edgesL (canonL l)).Perm ((edgesL l).map Sg.rev):=by
 unfold canonL
 split
 ·exact .inr ((edges_startL (by rw [List.length_reverse];exact h)).trans (edges_rev l))
 ·exact .inl (edges_startL h)
theorem odd_canonL {l:List Pt} (h:0<l.length) (p:Pt):oddTo (canonL l) p (canonL l).length=oddTo l p l.length:=by
 rw [odd_xsum,odd_xsum]
 rcases edges_canonL h with e|e
 ·exact xsum_perm e
 ·rw [xsum_perm e,xsum_map]
  exact xsum_congr fun s _=>cr_symm ..
theorem mem_edges_canonL {l:List Pt} (h:0<l.length) {s:Sg} (hs:s∈edgesL (canonL l)):∃ s'∈edgesL l,s=s'∨s=s'.rev:=by
 rcases edges_canonL h with e|e
 ·exact ⟨s,e.mem_iff.1 hs,.inl rfl⟩
 ·obtain ⟨s',h1,rfl⟩:=List.mem_map.1 (e.mem_iff.1 hs)
  exact ⟨s',h1,.inr rfl⟩
theorem NoMeet.canonL {a b:List Pt} (h:NoMeet a b) (ha:0<a.length):NoMeet (canonL a) b:=by
 intro s hs t ht k
 obtain ⟨s',h1,rfl|rfl⟩:=mem_edges_canonL ha hs
 ·exact h _ h1 t ht k
 ·exact h _ h1 t ht k.rev1
theorem least_rot {m:List Pt} (h:0<m.length):leastTo (startL m) (startL m).length=0:=by
 have hk:=leastTo_in h
 have hn:(startL m).length=m.length:=startL_length h
 have h0:(startL m).getD 0 default=m.getD (leastTo m m.length) default:=by
  show (rotL m _).getD 0 default=_
  rw [rotL_getD (by omega) h,if_pos (by omega),Nat.add_zero]
 have le:∀ j,j<(startL m).length→cmpP ((startL m).getD 0 default) ((startL m).getD j default)≤0:=by
  intro j hj
  rw [hn] at hj
  have hm:(startL m).getD j default∈m:=startL_mem (by rw [List.getD_eq_getElem?_getD,List.getElem?_eq_getElem (by omega)];exact List.getElem_mem _)
  obtain ⟨i,hi,e⟩:=mem_getD hm
  rw [h0,←e]
  exact leastTo_spec _ _ hi
 have:∀ i,i≤(startL m).length→leastTo (startL m) i=0:=by
  intro i
  induction i with
  |zero=>intro _;rfl
  |succ i ih=>
   intro hi
   unfold leastTo
   rw [ih (by omega),if_neg]
   intro hc
   have e:=cmpP_antisymm (le i (by omega)) (Int.le_of_lt hc)
   rw [e,cmpP_self] at hc
   omega
 exact this _ (Nat.le_refl _)
theorem area_startL {m:List Pt} (h:0<m.length):areaL (startL m)=areaL m:=
 (rotL_ind (fun l=>1≤l.length∧areaL l=areaL m) (fun l k=>⟨by rw [rot1_length];exact k.1,by rw [area_rot1 k.1];exact k.2⟩) ⟨h,rfl⟩ _ (Nat.le_of_lt (leastTo_in h))).2
theorem area_canonL {l:List Pt} (h:0<l.length):areaL (canonL l)=if areaL l<0 then-areaL l else areaL l:=by
 unfold canonL
 split
 ·rw [area_startL (by rw [List.length_reverse];exact h),area_rev h]
 ·exact area_startL h
theorem Good.canonL {l:List Pt} (h:Good l):Good (canonL l):=by
 have hlo:=h.lo
 have st:∀ m,Good m→Good (startL m):=fun m hm=>rotL_ind Good (fun _ k=>k.rot1) hm _ (Nat.le_of_lt (leastTo_in (by have:=hm.lo;omega)))
 unfold Av.canonL
 split
 ·exact st _ h.rev
 ·exact st _ h
theorem Good.ring {l:List Pt} (h:Good l) (hi:l.length≤64) (hh:hl l (2^16)) (ha:areaL l≠0):Ring (Av.canonL l):=by
 have hlo:=h.lo
 have g:=h.canonL
 have hn:=canonL_length (l:=l) (by omega)
 refine ⟨g.lo,by omega,?_,fun p hp=>hh p (canonL_mem hp)⟩
 have hf:idxP (Av.canonL l).length (flatAt (Av.canonL l))= -1:=idxP_none fun i hi=>(g.keep i hi).2
 have hpos:0<areaL (Av.canonL l):=by
  rw [area_canonL (by omega)]
  rcases lt_tri (areaL l) 0 with k|k|k
  ·rw [if_pos k];grind
  ·exact absurd k ha
  ·rw [if_neg (by grind)];exact k
 have hz:leastTo (Av.canonL l) (Av.canonL l).length=0:=by
  unfold Av.canonL
  split
  ·exact least_rot (by rw [List.length_reverse];omega)
  ·exact least_rot (by omega)
 unfold chkC
 rw [hf,if_neg (by omega),g.crossB,if_neg (by simp),if_neg]
 rintro (k|k)
 ·exact absurd (cmpQ_le.1 k) (Rat.not_le.2 hpos)
 ·exact k hz
theorem NoMeet.map {a b:List Pt} (h:NoMeet a b) {t:Aff} (ht:t.det≠0):NoMeet (a.map t.ap) (b.map t.ap):=by
 intro s hs r hr k
 rw [edges_map] at hs hr
 obtain ⟨s',h1,rfl⟩:=List.mem_map.1 hs
 obtain ⟨r',h2,rfl⟩:=List.mem_map.1 hr
 exact h _ h1 _ h2 ((Common_ap ht).1 k)
def imgL (t:Aff) (l:List Pt):List Pt:=canonL (l.map t.ap)
theorem imgL_mem {t:Aff} {l:List Pt} {p:Pt} (h:p∈imgL t l):∃ q∈l,p=t.ap q:=by
 obtain ⟨q,h1,rfl⟩:=List.mem_map.1 (canonL_mem h)
 exact ⟨q,h1,rfl⟩
theorem NoMeet.img {a b:List Pt} (h:NoMeet a b) {t:Aff} (ht:t.det≠0) (ha:0<a.length) (hb:0<b.length):NoMeet (imgL t a) (imgL t b):=
 (((h.map ht).canonL (by rw [List.length_map];exact ha)).symm.canonL (by rw [List.length_map];exact hb)).symm
theorem odd_img {t:Aff} (ht:Par t) {l:List Pt} {p:Pt} (h:0<l.length) (hp:∀ s∈edgesL l,¬onSeg s.a s.b p):oddTo (imgL t l) (t.ap p) (imgL t l).length=oddTo l p l.length:=by
 unfold imgL
 rw [odd_canonL (by rw [List.length_map];exact h)]
 exact ht.2 l p hp
theorem Sep.img {a b:List Pt} (h:Sep a b) {t:Aff} (ht:Par t) (ha:0<a.length) (hb:0<b.length):Sep (imgL t a) (imgL t b):=by
 refine ⟨h.nm.img ht.1 ha hb,fun p hp=> ?_,fun p hp=> ?_⟩
 ·obtain ⟨q,hq,rfl⟩:=imgL_mem hp
  rw [odd_img ht ha (h.nm.symm.freeP hq)];exact h.ab q hq
 ·obtain ⟨q,hq,rfl⟩:=imgL_mem hp
  rw [odd_img ht hb (h.nm.freeP hq)];exact h.ba q hq
theorem Ring.img {l:List Pt} (h:Ring l) {t:Aff} (ht:t.det≠0) (hh:hl (l.map t.ap) (2^16)):Ring (imgL t l):=by
 refine (h.good.map ht).ring (by rw [List.length_map];exact h.hi) hh ?_
 rw [area_ap]
 intro e
 rcases Rat.mul_eq_zero.1 e with e|e
 ·exact ht e
 ·have:=h.areaPos;rw [e] at this;exact absurd this Rat.lt_irrefl
def sortH (X:List (List Pt)):List (List Pt):=isortH X (X.length-1)
theorem Sep.ne {a b:List Pt} (h:Sep a b) (ha:0<a.length) (hb:0<b.length):cmpH a b≠0:=by
 intro e
 have e:=cmpP_zero.1 e
 exact h.nm _ (seg_mem ha) _ (seg_mem hb) ⟨a.getD 0 default,onSeg_l _ _,by rw [e];exact onSeg_l _ _⟩
theorem cmpH_flip {a b:List Pt} (h:¬cmpH a b<0) (hne:cmpH a b≠0):cmpH b a<0:=by
 unfold cmpH at*
 have h1:=cmpP_pos_le (p:=a.getD 0 default) (q:=b.getD 0 default) (by omega)
 rcases Int.lt_or_eq_of_le h1 with h2|h2
 ·exact h2
 ·rw [cmpP_zero.1 h2,cmpP_self] at hne;exact absurd rfl hne
theorem sortH_ok {X:List (List Pt)} (h3:X.length≤3) (hp:X.Pairwise Sep) (h0:∀ l∈X,0<l.length):(sortH X).Perm X∧Asc (sortH X):=by
 have asc2:∀ {a b:List Pt},cmpH a b<0→Asc [a,b]:=by
  intro a b h i h1 h2
  simp only [List.length_cons,List.length_nil] at h2
  have:i=1:=by omega
  subst this
  exact h
 have asc3:∀ {a b c:List Pt},cmpH a b<0→cmpH b c<0→Asc [a,b,c]:=by
  intro a b c h k i h1 h2
  simp only [List.length_cons,List.length_nil] at h2
  have:i=1∨i=2:=by omega
  rcases this with rfl|rfl
  ·exact h
  ·exact k
 match X,h3,hp,h0 with
 |[],_,_,_=>exact ⟨List.Perm.refl _,fun i _ h=>by simp [sortH,isortH] at h⟩
 |[a],_,_,_=>exact ⟨List.Perm.refl _,fun i h1 h=>by simp [sortH,isortH] at h;omega⟩
 |[a,b],_,hp,h0=>
  have n1:cmpH b a≠0:=((List.pairwise_cons.1 hp).1 b (by simp)).symm.ne (h0 b (by simp)) (h0 a (by simp))
  by_cases c1:cmpH b a<0
  ·have e:sortH [a,b]=[b,a]:=by simp [sortH,isortH,bubbleH,swapH,c1]
   rw [e];exact ⟨List.Perm.swap ..,asc2 c1⟩
  ·have e:sortH [a,b]=[a,b]:=by simp [sortH,isortH,bubbleH,swapH,c1]
   rw [e];exact ⟨List.Perm.refl _,asc2 (cmpH_flip c1 n1)⟩
 |[a,b,c],_,hp,h0=>
  have s1:=(List.pairwise_cons.1 hp).1 b (by simp)
  have s2:=(List.pairwise_cons.1 hp).1 c (by simp)
  have s3:=(List.pairwise_cons.1 (List.pairwise_cons.1 hp).2).1 c (by simp)
  have n1:cmpH b a≠0:=s1.symm.ne (h0 b (by simp)) (h0 a (by simp))
  have n2:cmpH c a≠0:=s2.symm.ne (h0 c (by simp)) (h0 a (by simp))
  have n3:cmpH c b≠0:=s3.symm.ne (h0 c (by simp)) (h0 b (by simp))
  by_cases c1:cmpH b a<0
  ·by_cases c2:cmpH c a<0
   ·by_cases c3:cmpH c b<0
    ·have e:sortH [a,b,c]=[c,b,a]:=by simp [sortH,isortH,bubbleH,swapH,c1,c2,c3]
     rw [e];exact ⟨by simpa using (List.reverse_perm [a,b,c]),asc3 c3 c1⟩
    ·have e:sortH [a,b,c]=[b,c,a]:=by simp [sortH,isortH,bubbleH,swapH,c1,c2,c3]
     rw [e];exact ⟨(List.perm_append_comm (l₁:=[b,c]) (l₂:=[a])),asc3 (cmpH_flip c3 n3) c2⟩
   ·have e:sortH [a,b,c]=[b,a,c]:=by simp [sortH,isortH,bubbleH,swapH,c1,c2]
    rw [e];exact ⟨List.Perm.swap ..,asc3 c1 (cmpH_flip c2 n2)⟩
  ·by_cases c3:cmpH c b<0
   ·by_cases c2:cmpH c a<0
    ·have e:sortH [a,b,c]=[c,a,b]:=by simp [sortH,isortH,bubbleH,swapH,c1,c2,c3]
     rw [e];exact ⟨(List.perm_append_comm (l₁:=[c]) (l₂:=[a,b])),asc3 c2 (cmpH_flip c1 n1)⟩
    ·have e:sortH [a,b,c]=[a,c,b]:=by simp [sortH,isortH,bubbleH,swapH,c1,c2,c3]
     rw [e];exact ⟨List.Perm.cons _ (List.Perm.swap ..),asc3 (cmpH_flip c2 n2) c3⟩
   ·have e:sortH [a,b,c]=[a,b,c]:=by simp [sortH,isortH,bubbleH,swapH,c1,c3]
    rw [e];exact ⟨List.Perm.refl _,asc3 (cmpH_flip c1 n1) (cmpH_flip c3 n3)⟩
theorem Valid.img {L:List Pt} {Hs:List (List Pt)} (h:Valid L Hs) (h3:Hs.length≤3) {t:Aff} (ht:Par t) (hh:∀ l∈L::Hs,hl (l.map t.ap) (2^16)):Valid (imgL t L) (sortH (Hs.map (imgL t))):=by
 have pos:∀ l,Ring l→0<l.length:=fun l r=>by have:=r.lo;omega
 have hr:∀ l∈Hs.map (imgL t),Ring l:=by
  intro l hl
  obtain ⟨x,hx,rfl⟩:=List.mem_map.1 hl
  exact (h.holes x hx).img ht.1 (hh x (List.mem_cons_of_mem _ hx))
 have hp:(Hs.map (imgL t)).Pairwise Sep:=by
  rw [List.pairwise_map]
  exact h.pw.imp_of_mem fun ha hb s=>s.img ht (pos _ (h.holes _ ha)) (pos _ (h.holes _ hb))
 obtain ⟨p,asc⟩:=sortH_ok (X:=Hs.map (imgL t)) (by rw [List.length_map];exact h3) hp (fun l hl=>pos l (hr l hl))
 refine ⟨h.out.img ht.1 (hh L (List.mem_cons_self ..)),fun l hl=>hr l (p.mem_iff.1 hl),by rw [p.length_eq,List.length_map];omega,fun l hl=> ?_,fun l hl q hq=> ?_,p.symm.pairwise hp fun s=>s.symm,asc⟩
 ·obtain ⟨x,hx,rfl⟩:=List.mem_map.1 (p.mem_iff.1 hl)
  exact (h.mo x hx).img ht.1 (pos _ (h.holes x hx)) (pos _ h.out)
 ·obtain ⟨x,hx,rfl⟩:=List.mem_map.1 (p.mem_iff.1 hl)
  obtain ⟨y,hy,rfl⟩:=imgL_mem hq
  rw [odd_img ht (pos _ h.out) ((h.mo x hx).freeP hy)]
  exact h.wo x hx y hy
end Go.Av
namespace Go.Av
open Go.RowKit
open Go.Proofs.Tryz (prog)
theorem sortH_perm {L:List Pt} {Hs:List (List Pt)} (h:Valid L Hs) (h3:Hs.length≤3) {t:Aff} (ht:Par t) (hh:∀ l∈L::Hs,hl (l.map t.ap) (2^16)):(sortH (Hs.map (imgL t))).Perm (Hs.map (imgL t)):=by
 have pos:∀ l,Ring l→0<l.length:=fun l r=>by have:=r.lo;omega
 refine (sortH_ok (by rw [List.length_map];exact h3) ?_ fun l hl=> ?_).1
 ·rw [List.pairwise_map]
  exact h.pw.imp_of_mem fun ha hb s=>s.img ht (pos _ (h.holes _ ha)) (pos _ (h.holes _ hb))
 ·obtain ⟨x,hx,rfl⟩:=List.mem_map.1 hl
  exact pos _ ((h.holes x hx).img ht.1 (hh x (List.mem_cons_of_mem _ hx)))
def onE (l:List Pt) (q:Pt):Prop:=∃ s∈edgesL l,onSeg s.a s.b q
theorem Sep.off {a b:List Pt} (h:Sep a b) {q:Pt} (hq:onE a q):¬onE b q∧oddTo b q b.length=false:=by
 obtain ⟨s,hs,k⟩:=hq
 refine ⟨fun ⟨r,hr,k2⟩=>h.nm s hs r hr ⟨q,k,k2⟩,?_⟩
 obtain ⟨i,hi,rfl⟩:=mem_edgesL hs
 have hm:a.getD i default∈a:=by rw [List.getD_eq_getElem?_getD,List.getElem?_eq_getElem hi];exact List.getElem_mem hi
 rw [←h.ba _ hm]
 refine (odd_same fun j hj=> ?_).symm
 rintro ⟨p,⟨m,m0,m1,rfl⟩,k2⟩
 obtain ⟨n,n0,n1,rfl⟩:=k
 refine h.nm _ (seg_mem hi) _ (seg_mem hj) ⟨_,⟨m*n,Rat.mul_nonneg m0 n0,?_,?_⟩,k2⟩
 ·have:=Rat.mul_nonneg (show 0≤1-m by grind) n0
  grind
 ·have e:=pt_pt (a.getD i default) (nx a i) 0 n m
  have e0:pt (a.getD i default) (nx a i) 0=a.getD i default:=Pt.ext (by unfold pt;simp only;grind) (by unfold pt;simp only;grind)
  rw [e0] at e
  show pt (a.getD i default) (pt (a.getD i default) (nx a i) n) m=_
  rw [e,show (0:Rat)+m*(n-0)=m*n by grind];rfl
end Go.Av
namespace Go.Av
open Go.RowKit
open Go.Proofs.Tryz (prog)
def imgH (t:Aff) (Hs:List (List Pt)):List (List Pt):=sortH (Hs.map (imgL t))
def Fits (t:Aff) (L:List Pt) (Hs:List (List Pt)):Prop:=∀ l∈L::Hs,hl (l.map t.ap) (2^16)
end Go.Av
