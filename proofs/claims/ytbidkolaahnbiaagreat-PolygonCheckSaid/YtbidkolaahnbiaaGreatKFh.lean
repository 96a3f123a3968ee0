/- Helping texts: Fh, Fi, Fj, Mh, Mi, Mj, Mm, Ga, Gb, Gc, Gd, Ge, Gf, Gg. -/
import Derived.Test.YtbidkolaahnbiaaGreatKFd
import Derived.Test.YtbidkolaahnbiaaGreatKDb
import Derived.Test.YtbidkolaahnbiaaGreatKMb
import Derived.Test.YtbidkolaahnbiaaGreatKFa
import Derived.Test.YtbidkolaahnbiaaGreatKMe
import Derived.Test.YtbidkolaahnbiaaGreatKMk
import Derived.Test.YtbidkolaahnbiaaGreatKDj
set_option linter.unusedSimpArgs false
set_option linter.unusedVariables false
set_option maxRecDepth 100000
set_option maxHeartbeats 16000000
namespace Go.Av
open Go.RowKit
open Go.Proofs.Tryz (prog)
end Go.Av
namespace Go.Av
open Go.RowKit
open Go.Proofs.Tryz (prog)
def Asc (Hs:List (List Pt)):Prop:=∀ i,0<i→i<Hs.length→cmpH (Hs.getD (i-1) []) (Hs.getD i [])<0
theorem Fine.asc {O:List Rp} {hs:List (List Rp)} (h:Fine O hs):Asc (hs.map pts):=by
 have get:∀ i,i<hs.length→(hs.map pts).getD i []=pts (hs.getD i []):=fun i hi=>by
  rw [List.getD_eq_getElem?_getD,List.getD_eq_getElem?_getD,List.getElem?_map,List.getElem?_eq_getElem hi];rfl
 intro i h0 hi
 rw [List.length_map] at hi
 rw [get i hi,get (i-1) (by omega)]
 have hz:=h.hz i hi
 unfold chkH at hz
 rw [if_neg (by intro h2;exact h2 (chkH_ring (h.hz i hi)))] at hz
 split at hz
 ·cases hz
 split at hz
 ·cases hz
 split at hz
 ·cases hz
 split at hz
 ·cases hz
 ·rename_i hx
  unfold cmpH
  exact Int.not_le.1 fun hle=>hx ⟨h0,hle⟩
theorem cmpH_trans {a b c:List Pt} (h1:cmpH a b<0) (h2:cmpH b c<0):cmpH a c<0:=by
 unfold cmpH at*
 have h3:=cmpP_le_trans (Int.le_of_lt h1) (Int.le_of_lt h2)
 rcases Int.lt_or_eq_of_le h3 with h|h
 ·exact h
 ·have e:=cmpP_zero.1 h
  rw [e] at h1
  have:=cmpP_antisymm (Int.le_of_lt h1) (Int.le_of_lt h2)
  rw [this,cmpP_self] at h1
  omega
theorem Ring.can {R:List Pt} (h:Ring R):Can R:=⟨h.lo,h.hi,h.ht,h.good.keep,h.good.crossB⟩
end Go.Av
namespace Go.Av
open Go.RowKit
open Go.Proofs.Tryz (prog)
end Go.Av
namespace Go.Av
open Go.RowKit
open Go.Proofs.Tryz (prog)
def NoMeet (A B:List Pt):Prop:=∀ s∈edgesL A,∀ t∈edgesL B,¬Common s.a s.b t.a t.b
theorem NoMeet.symm {A B:List Pt} (h:NoMeet A B):NoMeet B A:=fun s hs t ht k=>h t ht s hs k.symm
theorem seg_mem {A:List Pt} {i:Nat} (hi:i<A.length):segOf A i∈edgesL A:=List.mem_map.2 ⟨i,List.mem_range.2 hi,rfl⟩
theorem meetB_noMeet {A B:List Pt} (hA:Ring A) (hB:Ring B):meetB A B=false↔NoMeet A B:=by
 constructor
 ·intro h s hs t ht hc
  obtain ⟨i,hi,rfl⟩:=mem_edgesL hs
  obtain ⟨k,hk,rfl⟩:=mem_edgesL ht
  rw [meetB_true hi hk (meet_some (hA.seg_ok hi) (hB.seg_ok hk) hc)] at h
  cases h
 ·intro h
  refine meetB_false fun i hi k hk=> ?_
  have:¬(meetM (segOf A i) (segOf B k)).isSome=true:=fun hm=>h _ (seg_mem hi) _ (seg_mem hk) (some_common hm)
  rwa [Bool.not_eq_true] at this
theorem NoMeet.free {A B:List Pt} (h:NoMeet A B) {i:Nat} (hi:i<A.length):∀ s∈edgesL B,¬onSeg s.a s.b (A.getD i default):=fun s hs k=>h _ (seg_mem hi) s hs ⟨_,onSeg_l _ _,k⟩
theorem NoMeet.freeP {A B:List Pt} (h:NoMeet A B) {p:Pt} (hp:p∈A):∀ s∈edgesL B,¬onSeg s.a s.b p:=by
 obtain ⟨i,hi,rfl⟩:=mem_getD hp
 exact h.free hi
theorem withinB_odd {A B:List Pt} (h:NoMeet A B) (h0:0<A.length):withinB A B=oddTo B (A.getD 0 default) B.length:=by
 have hb:onB B (A.getD 0 default)=false:=onB_false fun i hi=>by
  have:=h.free h0 (segOf B i) (seg_mem hi)
  cases hx:between (B.getD i default) (nx B i) (A.getD 0 default) with
  |false=>rfl
  |true=>exact absurd (between_onSeg hx) this
 unfold withinB sideS
 rw [hb]
 cases oddTo B (A.getD 0 default) B.length<;>simp
structure Sep (a b:List Pt):Prop where
 nm:NoMeet a b
 ab:∀ p∈b,oddTo a p a.length=false
 ba:∀ p∈a,oddTo b p b.length=false
theorem Sep.symm {a b:List Pt} (h:Sep a b):Sep b a:=⟨h.nm.symm,h.ba,h.ab⟩
structure Valid (L:List Pt) (Hs:List (List Pt)):Prop where
 out:Ring L
 holes:∀ h∈Hs,Ring h
 few:Hs.length≤8
 mo:∀ h∈Hs,NoMeet h L
 wo:∀ h∈Hs,∀ p∈h,oddTo L p L.length=true
 pw:Hs.Pairwise Sep
 asc:Asc Hs
theorem Valid.rgs {L:List Pt} {Hs:List (List Pt)} (h:Valid L Hs):Rgs L Hs:=⟨h.out,h.holes,h.few⟩
theorem getD_mem0 {l:List Pt} (h:0<l.length):l.getD 0 default∈l:=by
 rw [List.getD_eq_getElem?_getD,List.getElem?_eq_getElem h];exact List.getElem_mem h
theorem Valid.fine {L:List Pt} {Hs:List (List Pt)} (h:Valid L Hs):Fine (L.map Pt.rp) (Hs.map fun l=>l.map Pt.rp):=by
 have get:∀ i,i<Hs.length→pts ((Hs.map fun l=>l.map Pt.rp).getD i [])=Hs.getD i []:=fun i hi=>by
  rw [List.getD_eq_getElem?_getD,List.getD_eq_getElem?_getD,List.getElem?_map,List.getElem?_eq_getElem hi];exact pts_rp _
 have get2:∀ i,i<Hs.length→(Hs.map fun l=>l.map Pt.rp).getD i []=(Hs.getD i []).map Pt.rp:=fun i hi=>by
  rw [List.getD_eq_getElem?_getD,List.getD_eq_getElem?_getD,List.getElem?_map,List.getElem?_eq_getElem hi];rfl
 have mem:∀ i,i<Hs.length→Hs.getD i []∈Hs:=fun i hi=>by rw [List.getD_eq_getElem?_getD,List.getElem?_eq_getElem hi];exact List.getElem_mem hi
 refine ⟨?_,rp_le h.out.ht,fun l hl=> ?_⟩
 ·unfold chkP
  rw [chkR_rp h.out.lo h.out.hi,h.out.ok,if_neg (fun k=>k rfl),List.length_map,if_neg (by have:=h.few;omega)]
  refine firstNz_none fun i hi=> ?_
  have r:=h.holes _ (mem i hi)
  have sep:∀ j,j<i→Sep (Hs.getD j []) (Hs.getD i []):=fun j hj=>by
   have:=List.pairwise_iff_getElem.1 h.pw j i (by omega) hi hj
   rw [List.getD_eq_getElem?_getD,List.getD_eq_getElem?_getD,List.getElem?_eq_getElem hi,List.getElem?_eq_getElem (show j<Hs.length by omega)]
   exact this
  unfold chkH
  rw [get2 i hi,chkR_rp r.lo r.hi,r.ok,if_neg (fun k=>k rfl),pts_rp,pts_rp,if_neg,if_neg,if_neg,if_neg]
  ·rintro ⟨h0,hle⟩
   rw [get (i-1) (by omega)] at hle
   have:=h.asc i h0 hi
   unfold cmpH at this
   omega
  ·rw [Bool.not_eq_true]
   refine anyTo_false fun j hj=> ?_
   have s:=sep j hj
   have rj:=h.holes _ (mem j (by omega))
   have l1:=r.lo
   have l2:=rj.lo
   rw [get j (by omega),withinB_odd s.nm.symm (by omega),withinB_odd s.nm (by omega),s.ab _ (getD_mem0 (by omega)),s.ba _ (getD_mem0 (by omega))]
   rfl
  ·have l1:=r.lo
   rw [withinB_odd (h.mo _ (mem i hi)) (by omega),h.wo _ (mem i hi) _ (getD_mem0 (by omega))]
   simp
  ·rw [not_or,Bool.not_eq_true,Bool.not_eq_true]
   refine ⟨(meetB_noMeet r h.out).2 (h.mo _ (mem i hi)),anyTo_false fun j hj=> ?_⟩
   rw [get j (by omega)]
   exact (meetB_noMeet r (h.holes _ (mem j (by omega)))).2 (sep j hj).nm.symm
 ·obtain ⟨l0,hl0,rfl⟩:=List.mem_map.1 hl
  have r:=h.holes l0 hl0
  exact ⟨by rw [List.length_map];have:=r.hi;omega,rp_le r.ht⟩
theorem Valid.check_pc {L:List Pt} {Hs:List (List Pt)} (h:Valid L Hs):PC prog 74 [cgV L Hs] (.prim (.int .i64 (0))):=by
 have:=h.fine.check_pc
 rw [pts_rp,List.map_map] at this
 have e:Hs.map (pts∘fun l=>l.map Pt.rp)=Hs:=by
  conv=>rhs;rw [←List.map_id Hs]
  exact List.map_congr_left fun l _=>pts_rp l
 rwa [e] at this
theorem edges_rotL (l:List Pt) {r:Nat} (h:r≤l.length):(edgesL (rotL l r)).Perm (edgesL l):=rotL_ind (fun m=>(edgesL m).Perm (edgesL l)) (fun m k=>(edges_rot1 m).trans k) (List.Perm.refl _) r h
theorem edges_startL {m:List Pt} (h:0<m.length):(edgesL (startL m)).Perm (edgesL m):=edges_rotL m (Nat.le_of_lt (leastTo_in h))
theorem edges_canonL {l:List Pt} (h:0<l.length):(edgesL (canonL l)).Perm (edgesL l)∨(edgesL (canonL l)).Perm ((edgesL l).map Sg.rev):=by
 unfold canonL
 split
 ·exact .inr ((edges_startL (by rw [List.length_reverse];exact h)).trans (edges_rev l))
 ·exact .inl (edges_startL h)
theorem mem_edges_canonL {l:List Pt} (h:0<l.length) {s:Sg} (hs:s∈edgesL (canonL l)):∃ s'∈edgesL l,s=s'∨s=s'.rev:=by
 rcases edges_canonL h with e|e
 ·exact ⟨s,e.mem_iff.1 hs,.inl rfl⟩
 ·obtain ⟨s',h1,rfl⟩:=List.mem_map.1 (e.mem_iff.1 hs)
  exact ⟨s',h1,.inr rfl⟩
theorem NoMeet.canonL {a b:List Pt} (h:NoMeet a b) (ha:0<a.length):NoMeet (canonL a) b:=by
 intro s hs t ht k
 obtain ⟨s',h1,rfl|rfl⟩:=mem_edges_canonL ha hs
 ·exact h _ h1 t ht k
 ·exact h _ h1 t ht k.rev1
theorem least_rot {m:List Pt} (h:0<m.length):leastTo (startL m) (startL m).length=0:=by
 have hk:=leastTo_in h
 have hn:(startL m).length=m.length:=startL_length h
 have h0:(startL m).getD 0 default=m.getD (leastTo m m.length) default:=by
  show (rotL m _).getD 0 default=_
  rw [rotL_getD (by omega) h,if_pos (by omega),Nat.add_zero]
 have le:∀ j,j<(startL m).length→cmpP ((startL m).getD 0 default) ((startL m).getD j default)≤0:=by
  intro j hj
  rw [hn] at hj
  have hm:(startL m).getD j default∈m:=startL_mem (by rw [List.getD_eq_getElem?_getD,List.getElem?_eq_getElem (by omega)];exact List.getElem_mem _)
  obtain ⟨i,hi,e⟩:=mem_getD hm
  rw [h0,←e]
  exact leastTo_spec _ _ hi
 have:∀ i,i≤(startL m).length→leastTo (startL m) i=0:=by
  intro i
  induction i with
  |zero=>intro _;rfl
  |succ i ih=>
   intro hi
   unfold leastTo
   rw [ih (by omega),if_neg]
   intro hc
   have e:=cmpP_antisymm (le i (by omega)) (Int.le_of_lt hc)
   rw [e,cmpP_self] at hc
   omega
 exact this _ (Nat.le_refl _)
theorem area_startL {m:List Pt} (h:0<m.length):areaL (startL m)=areaL m:=
 (rotL_ind (fun l=>1≤l.length∧areaL l=areaL m) (fun l k=>⟨by rw [rot1_length];exact k.1,by rw [area_rot1 k.1];exact k.2⟩) ⟨h,rfl⟩ _ (Nat.le_of_lt (leastTo_in h))).2
theorem area_canonL {l:List Pt} (h:0<l.length):areaL (canonL l)=if areaL l<0 then-areaL l else areaL l:=by
 unfold canonL
 split
 ·rw [area_startL (by rw [List.length_reverse];exact h),area_rev h]
 ·exact area_startL h
theorem Good.canonL {l:List Pt} (h:Good l):Good (canonL l):=by
 have hlo:=h.lo
 have st:∀ m,Good m→Good (startL m):=fun m hm=>rotL_ind Good (fun _ k=>k.rot1) hm _ (Nat.le_of_lt (leastTo_in (by have:=hm.lo;omega)))
 unfold Av.canonL
 split
 ·exact st _ h.rev
 ·exact st _ h
theorem Good.ring {l:List Pt} (h:Good l) (hi:l.length≤64) (hh:hl l (2^16)) (ha:areaL l≠0):Ring (Av.canonL l):=by
 have hlo:=h.lo
 have g:=h.canonL
 have hn:=canonL_length (l:=l) (by omega)
 refine ⟨g.lo,by omega,?_,fun p hp=>hh p (canonL_mem hp)⟩
 have hf:idxP (Av.canonL l).length (flatAt (Av.canonL l))= -1:=idxP_none fun i hi=>(g.keep i hi).2
 have hpos:0<areaL (Av.canonL l):=by
  rw [area_canonL (by omega)]
  rcases lt_tri (areaL l) 0 with k|k|k
  ·rw [if_pos k];grind
  ·exact absurd k ha
  ·rw [if_neg (by grind)];exact k
 have hz:leastTo (Av.canonL l) (Av.canonL l).length=0:=by
  unfold Av.canonL
  split
  ·exact least_rot (by rw [List.length_reverse];omega)
  ·exact least_rot (by omega)
 unfold chkC
 rw [hf,if_neg (by omega),g.crossB,if_neg (by simp),if_neg]
 rintro (k|k)
 ·exact absurd (cmpQ_le.1 k) (Rat.not_le.2 hpos)
 ·exact k hz
theorem NoMeet.map {a b:List Pt} (h:NoMeet a b) {t:Aff} (ht:t.det≠0):NoMeet (a.map t.ap) (b.map t.ap):=by
 intro s hs r hr k
 rw [edges_map] at hs hr
 obtain ⟨s',h1,rfl⟩:=List.mem_map.1 hs
 obtain ⟨r',h2,rfl⟩:=List.mem_map.1 hr
 exact h _ h1 _ h2 ((Common_ap ht).1 k)
theorem Sep.ne {a b:List Pt} (h:Sep a b) (ha:0<a.length) (hb:0<b.length):cmpH a b≠0:=by
 intro e
 have e:=cmpP_zero.1 e
 exact h.nm _ (seg_mem ha) _ (seg_mem hb) ⟨a.getD 0 default,onSeg_l _ _,by rw [e];exact onSeg_l _ _⟩
theorem cmpH_flip {a b:List Pt} (h:¬cmpH a b<0) (hne:cmpH a b≠0):cmpH b a<0:=by
 unfold cmpH at*
 have h1:=cmpP_pos_le (p:=a.getD 0 default) (q:=b.getD 0 default) (by omega)
 rcases Int.lt_or_eq_of_le h1 with h2|h2
 ·exact h2
 ·rw [cmpP_zero.1 h2,cmpP_self] at hne;exact absurd rfl hne
end Go.Av
namespace Go.Av
open Go.RowKit
open Go.Proofs.Tryz (prog)
def onE (l:List Pt) (q:Pt):Prop:=∃ s∈edgesL l,onSeg s.a s.b q
theorem onSeg_between {a b p:Pt} (h:onSeg a b p) (hne:a≠b):between a b p=true:=by
 have hx:ar a b p=0:=by
  obtain ⟨m,_,_,rfl⟩:=h
  rw [ar_pt,ar_l,ar_r];grind
 have hc:cmpP a b≠0:=fun e=>hne (cmpP_zero.1 e)
 have ho:orient a b p=0:=orient_ar.2 hx
 unfold between
 rw [decide_eq_true ho,decide_eq_true hc,Bool.true_and,Bool.true_or,Bool.and_true,decide_eq_true_eq]
 rcases cmpP_le_total a b with k|k
 ·obtain ⟨h1,h2⟩:=lex_between h k
  exact Int.mul_nonneg_of_nonpos_of_nonpos h1 h2
 ·obtain ⟨h1,h2⟩:=lex_between (onSeg_rev h) k
  have f:∀ {u v:Pt},cmpP u v≤0→0≤cmpP v u:=by
   intro u v k
   by_cases hz:0≤cmpP v u
   ·exact hz
   ·have e:=cmpP_antisymm k (by omega)
    rw [e,cmpP_self];omega
  exact Int.mul_nonneg (f h2) (f h1)
theorem Sep.off {a b:List Pt} (h:Sep a b) {q:Pt} (hq:onE a q):¬onE b q∧oddTo b q b.length=false:=by
 obtain ⟨s,hs,k⟩:=hq
 refine ⟨fun ⟨r,hr,k2⟩=>h.nm s hs r hr ⟨q,k,k2⟩,?_⟩
 obtain ⟨i,hi,rfl⟩:=mem_edgesL hs
 have hm:a.getD i default∈a:=by rw [List.getD_eq_getElem?_getD,List.getElem?_eq_getElem hi];exact List.getElem_mem hi
 rw [←h.ba _ hm]
 refine (odd_same fun j hj=> ?_).symm
 rintro ⟨p,⟨m,m0,m1,rfl⟩,k2⟩
 obtain ⟨n,n0,n1,rfl⟩:=k
 refine h.nm _ (seg_mem hi) _ (seg_mem hj) ⟨_,⟨m*n,Rat.mul_nonneg m0 n0,?_,?_⟩,k2⟩
 ·have:=Rat.mul_nonneg (show 0≤1-m by grind) n0
  grind
 ·have e:=pt_pt (a.getD i default) (nx a i) 0 n m
  have e0:pt (a.getD i default) (nx a i) 0=a.getD i default:=Pt.ext (by unfold pt;simp only;grind) (by unfold pt;simp only;grind)
  rw [e0] at e
  show pt (a.getD i default) (pt (a.getD i default) (nx a i) n) m=_
  rw [e,show (0:Rat)+m*(n-0)=m*n by grind];rfl
theorem sideS_one {l:List Pt} {q:Pt}:sideS l q=0∨sideS l q=1∨sideS l q= -1:=by
 unfold sideS
 split
 ·exact .inl rfl
 ·split
  ·exact .inr (.inl rfl)
  ·exact .inr (.inr rfl)
end Go.Av
namespace Go.Av
open Go.RowKit
open Go.Proofs.Tryz (prog)
def Fits (t:Aff) (L:List Pt) (Hs:List (List Pt)):Prop:=∀ l∈L::Hs,hl (l.map t.ap) (2^16)
end Go.Av
namespace Go.Av
open Go.RowKit
open Go.Proofs.Tryz (prog)
theorem Good.apart {L:List Pt} (h:Good L):(edgesL L).Pairwise fun e f=>∀ q,onSeg e.a e.b q→onSeg f.a f.b q→q=e.a∨q=e.b:=by
 unfold edgesL
 rw [List.pairwise_map]
 refine (List.Pairwise.and_mem.1 (List.pairwise_lt_range)).imp ?_
 rintro i k ⟨hi,hk,hik⟩
 have hi:=List.mem_range.1 hi
 have hk:=List.mem_range.1 hk
 rw [segOf_sc hi,segOf_sc hk]
 try simp only
 intro q q1 q2
 have hlo:=h.lo
 by_cases h1:sc L.length i=k
 ·subst h1
  have fl:=h.fl i hi
  obtain ⟨m,_,_,rfl⟩:=q1
  obtain ⟨t,_,_,e⟩:=q2
  have e1:ar (L.getD i default) (L.getD (sc L.length i) default) (pt (L.getD i default) (L.getD (sc L.length i) default) m)=0:=by unfold ar pt;simp only;grind
  rw [e,pt_ar_l] at e1
  rcases Rat.mul_eq_zero.1 e1 with e2|e2
  ·right;rw [e,e2];refine Pt.ext ?_ ?_<;>(unfold pt;simp only;grind)
  ·exact absurd e2 fl
 ·by_cases h2:sc L.length k=i
  ·subst h2
   have fl:=h.fl k hk
   obtain ⟨m,_,_,rfl⟩:=q1
   obtain ⟨t,_,_,e⟩:=q2
   have e1:ar (L.getD k default) (L.getD (sc L.length k) default) (pt (L.getD k default) (L.getD (sc L.length k) default) t)=0:=by unfold ar pt;simp only;grind
   rw [←e,pt_ar_l] at e1
   rcases Rat.mul_eq_zero.1 e1 with e2|e2
   ·left;rw [e2];refine Pt.ext ?_ ?_<;>(unfold pt;simp only;grind)
   ·exact absurd e2 fl
  ·exact absurd ⟨q,q1,q2⟩ (h.cr i k hi hk (by omega) h1 h2)
theorem edges_closed (L:List Pt):((edgesL L).map Sg.b).Perm ((edgesL L).map Sg.a):=by rw [edgesL_a];exact edgesL_b L
theorem up_rev {s:Sg} (h:s.a.y≠s.b.y):s.rev.up= !s.up:=by
 unfold Sg.up Sg.rev
 try simp only
 rcases lt_tri s.a.y s.b.y with k|k|k
 ·rw [decide_eq_true k,decide_eq_false (by grind)];rfl
 ·exact absurd k h
 ·rw [decide_eq_true k,decide_eq_false (by grind)];rfl
theorem pt_rev (a b:Pt) (m:Rat):pt b a m=pt a b (1-m):=by refine Pt.ext ?_ ?_<;>(unfold pt;simp only;grind)
theorem apart_rev {E:List Sg} (h:E.Pairwise fun e f=>∀ q,onSeg e.a e.b q→onSeg f.a f.b q→q=e.a∨q=e.b):(E.map Sg.rev).Pairwise fun e f=>∀ q,onSeg e.a e.b q→onSeg f.a f.b q→q=e.a∨q=e.b:=by
 rw [List.pairwise_map]
 exact h.imp fun {e f} hq q q1 q2=>(hq q (onSeg_rev q1) (onSeg_rev q2)).symm
theorem steep_rev {E:List Sg} (h:Steep E):Steep (E.map Sg.rev):=by
 intro s hs
 obtain ⟨s0,h0,rfl⟩:=List.mem_map.1 hs
 exact fun e=>h s0 h0 e.symm
theorem map_rev_a (E:List Sg):(E.map Sg.rev).map Sg.a=E.map Sg.b:=by rw [List.map_map];rfl
theorem map_rev_b (E:List Sg):(E.map Sg.rev).map Sg.b=E.map Sg.a:=by rw [List.map_map];rfl
theorem side_area {L:List Pt} (h:Good L) (hz:Steep (edgesL L)):areaL L≠0∧(0<areaL L→∀ s∈edgesL L,∀ m:Rat,0<m→m<1→oddTo L (pt s.a s.b m) L.length=(true^^s.up)):=by
 obtain ⟨c,hc⟩:=side_all h hz
 have hlo:=h.lo
 have hne:edgesL L≠[]:=by
  intro e
  have:(edgesL L).length=L.length:=by simp [edgesL]
  rw [e] at this;simp at this;omega
 cases c with
 |true=>
  have l:Lefts (edgesL L):=⟨hz,edges_closed L,h.apart,fun e he m m0 m1=>by rw [←odd_xsum];exact hc e he m m0 m1⟩
  have p:=l.pos hne
  refine ⟨?_,fun _ s hs m m0 m1=>hc s hs m m0 m1⟩
  rw [area_esum];grind
 |false=>
  have l:Lefts ((edgesL L).map Sg.rev):=by
   refine ⟨steep_rev hz,?_,apart_rev h.apart,fun e he m m0 m1=> ?_⟩
   ·rw [map_rev_a,map_rev_b];exact (edges_closed L).symm
   ·obtain ⟨e0,h0,rfl⟩:=List.mem_map.1 he
    rw [up_rev (hz e0 h0),xsum_map]
    have:=hc e0 h0 (1-m) (by grind) (by grind)
    rw [odd_xsum] at this
    rw [show pt e0.rev.a e0.rev.b m=pt e0.a e0.b (1-m) from pt_rev ..]
    rw [xsum_congr (f:=fun s=>cr (pt e0.a e0.b (1-m)) s.rev.a s.rev.b) (g:=fun s=>cr (pt e0.a e0.b (1-m)) s.a s.b) fun s _=>cr_symm ..,this]
    unfold Sg.up
    cases decide (e0.a.y<e0.b.y)<;>rfl
  have p:=l.pos (by intro e;exact hne (List.map_eq_nil_iff.1 e))
  rw [esum_neg] at p
  rw [area_esum]
  constructor
  ·grind
  ·intro k;grind
def shy (k:Rat):Aff:=⟨1,0,k,1,0,0⟩
theorem shy_det (k:Rat):(shy k).det=1:=by unfold Aff.det shy;simp only;grind
theorem shy_ne (k:Rat):(shy k).det≠0:=by rw [shy_det];decide+kernel
theorem steep_shear (E:List Sg) (hne:∀ s∈E,s.a≠s.b):∃ k:Rat,Steep (E.map fun s=>s.map (shy k).ap):=by
 obtain ⟨k,hk⟩:=bound_high (E.map fun s=> -(s.a.y-s.b.y)/(s.a.x-s.b.x))
 refine ⟨k,fun s hs=> ?_⟩
 obtain ⟨s0,h0,rfl⟩:=List.mem_map.1 hs
 have h1:=hk _ (List.mem_map.2 ⟨s0,h0,rfl⟩)
 have h2:=hne s0 h0
 unfold Sg.map Aff.ap shy
 try simp only
 intro e
 by_cases hx:s0.a.x=s0.b.x
 ·exact h2 (Pt.ext hx (by rw [hx] at e;grind))
 ·have hd:s0.a.x-s0.b.x≠0:=fun e=>hx (by grind)
  have: -(s0.a.y-s0.b.y)/(s0.a.x-s0.b.x)=k:=by grind
  rw [this] at h1
  exact Rat.lt_irrefl h1
theorem Good.seg_ne {L:List Pt} (h:Good L):∀ s∈edgesL L,s.a≠s.b:=by
 intro s hs
 obtain ⟨i,hi,rfl⟩:=mem_edgesL hs
 rw [segOf_sc hi]
 exact h.ne i hi
theorem Good.areaNe {L:List Pt} (h:Good L):areaL L≠0:=by
 obtain ⟨k,hk⟩:=steep_shear (edgesL L) h.seg_ne
 have:=(side_area (h.map (shy_ne k)) (by rw [edges_map];exact hk)).1
 rw [area_ap,shy_det] at this
 intro e;rw [e] at this;exact this (by grind)
structure Nest (L:List Pt) (Hs:List (List Pt)):Prop where
 out:Good L
 pos:0<areaL L
 holes:∀ h∈Hs,Good h∧0<areaL h
 mo:∀ h∈Hs,NoMeet h L
 wo:∀ h∈Hs,∀ p∈h,oddTo L p L.length=true
 ow:∀ h∈Hs,∀ p∈L,oddTo h p h.length=false
 pw:Hs.Pairwise Sep
theorem odd_mapP {t:Aff} (ht:Par t) {l:List Pt} {p:Pt} (hp:∀ s∈edgesL l,¬onSeg s.a s.b p):oddTo (l.map t.ap) (t.ap p) (l.map t.ap).length=oddTo l p l.length:=ht.2 l p hp
theorem Nest.map {L:List Pt} {Hs:List (List Pt)} (h:Nest L Hs) {t:Aff} (ht:Par t) (hd:0<t.det):Nest (L.map t.ap) (Hs.map fun l=>l.map t.ap):=by
 have ar:∀ l,0<areaL l→0<areaL (l.map t.ap):=fun l hl=>by rw [area_ap];exact Rat.mul_pos hd hl
 refine ⟨h.out.map ht.1,ar _ h.pos,fun l hl=> ?_,fun l hl=> ?_,fun l hl p hp=> ?_,fun l hl p hp=> ?_,?_⟩
 ·obtain ⟨l,h1,rfl⟩:=List.mem_map.1 hl
  exact ⟨(h.holes l h1).1.map ht.1,ar _ (h.holes l h1).2⟩
 ·obtain ⟨l,h1,rfl⟩:=List.mem_map.1 hl
  exact (h.mo l h1).map ht.1
 ·obtain ⟨l,h1,rfl⟩:=List.mem_map.1 hl
  obtain ⟨p,h2,rfl⟩:=List.mem_map.1 hp
  rw [odd_mapP ht ((h.mo l h1).freeP h2)];exact h.wo l h1 p h2
 ·obtain ⟨l,h1,rfl⟩:=List.mem_map.1 hl
  obtain ⟨p,h2,rfl⟩:=List.mem_map.1 hp
  rw [odd_mapP ht ((h.mo l h1).symm.freeP h2)];exact h.ow l h1 p h2
 ·rw [List.pairwise_map]
  refine h.pw.imp fun {a b} s=>⟨s.nm.map ht.1,fun p hp=> ?_,fun p hp=> ?_⟩
  ·obtain ⟨p,h2,rfl⟩:=List.mem_map.1 hp
   rw [odd_mapP ht (s.nm.symm.freeP h2)];exact s.ab p h2
  ·obtain ⟨p,h2,rfl⟩:=List.mem_map.1 hp
   rw [odd_mapP ht (s.nm.freeP h2)];exact s.ba p h2
end Go.Av
namespace Go.Av
open Go.RowKit
open Go.Proofs.Tryz (prog)
end Go.Av
namespace Go.Av
open Go.RowKit
open Go.Proofs.Tryz (prog)
end Go.Av
namespace Go.Av
open Go.RowKit
open Go.Proofs.Tryz (prog)
theorem Fits.can {t:Aff} {L:List Pt} {Hs:List (List Pt)} (hf:Fits t L Hs) (ht:t.det≠0) (hv:Valid L Hs):∀ l∈(L.map t.ap)::(Hs.map fun l=>l.map t.ap),Can l:=by
 have key:∀ l,l∈L::Hs→Ring l→Can (l.map t.ap):=fun l hl hr=>by
  have g:=hr.good.map ht
  exact ⟨g.lo,by rw [List.length_map];exact hr.hi,hf l hl,g.keep,g.crossB⟩
 intro l hl
 rcases List.mem_cons.1 hl with rfl|hl
 ·exact key L (List.mem_cons_self ..) hv.out
 ·obtain ⟨h,hh,rfl⟩:=List.mem_map.1 hl
  exact key h (List.mem_cons_of_mem _ hh) (hv.holes h hh)
end Go.Av
namespace Go.Av
open Go.RowKit
open Go.Proofs.Tryz (prog)
variable {L:List Pt} {Hs:List (List Pt)}
end Go.Av
namespace Go.Av
open Go.RowKit
open Go.Proofs.Tryz (prog)
end Go.Av
namespace Go.Av
open Go.RowKit
open Go.Proofs.Tryz (prog)
theorem PC_arg2 {P:Program} {f:FuncId} {a v v':V} {vs:List V} {r:V} (hv:∀ I w x,VR (fun _=>none) I w v x→VR (fun _=>none) I w v' x) (h:PC P f (a::v'::vs) r):PC P f (a::v::vs) r:=fun I w xs hI hxs=>
 h I w xs hI ⟨hxs.len,fun k u x hu hx=>by
  match k,hu with
  |0,hu=>exact hxs.at_ 0 u x hu hx
  |1,hu=>cases hu;exact hv I w x (hxs.at_ 1 v x rfl hx)
  |k+2,hu=>exact hxs.at_ (k+2) u x hu hx⟩
end Go.Av
namespace Go.Av
open Go.RowKit
open Go.Proofs.Tryz (prog)
def Aff.le (t:Aff) (A:Nat):Prop:=ht t.a≤A∧ht t.b≤A∧ht t.c≤A∧ht t.d≤A∧ht t.e≤A∧ht t.f≤A
end Go.Av
