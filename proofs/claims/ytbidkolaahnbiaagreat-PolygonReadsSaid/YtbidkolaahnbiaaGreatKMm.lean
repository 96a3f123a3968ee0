/- Helping texts: Mm, Ga, Gb, Gc, Gd, Ge, Gf, Gg. -/
import Derived.Test.YtbidkolaahnbiaaGreatKMk
import Derived.Test.YtbidkolaahnbiaaGreatKFa
import Derived.Test.YtbidkolaahnbiaaGreatKDj
import Derived.Test.YtbidkolaahnbiaaGreatKMb
set_option linter.unusedSimpArgs false
set_option linter.unusedVariables false
set_option maxRecDepth 100000
set_option maxHeartbeats 16000000
namespace Go.Av
open Go.RowKit
open Go.Proofs.Tryz (prog)
theorem Good.apart {L:List Pt} (h:Good L):(edgesL L).Pairwise fun e f=>∀ q,onSeg e.a e.b q→onSeg f.a f.b q→q=e.a∨q=e.b:=by
 unfold edgesL
 rw [List.pairwise_map]
 refine (List.Pairwise.and_mem.1 (List.pairwise_lt_range)).imp ?_
 rintro i k ⟨hi,hk,hik⟩
 have hi:=List.mem_range.1 hi
 have hk:=List.mem_range.1 hk
 rw [segOf_sc hi,segOf_sc hk]
 try simp only
 intro q q1 q2
 have hlo:=h.lo
 by_cases h1:sc L.length i=k
 ·subst h1
  have fl:=h.fl i hi
  obtain ⟨m,_,_,rfl⟩:=q1
  obtain ⟨t,_,_,e⟩:=q2
  have e1:ar (L.getD i default) (L.getD (sc L.length i) default) (pt (L.getD i default) (L.getD (sc L.length i) default) m)=0:=by unfold ar pt;simp only;grind
  rw [e,pt_ar_l] at e1
  rcases Rat.mul_eq_zero.1 e1 with e2|e2
  ·right;rw [e,e2];refine Pt.ext ?_ ?_<;>(unfold pt;simp only;grind)
  ·exact absurd e2 fl
 ·by_cases h2:sc L.length k=i
  ·subst h2
   have fl:=h.fl k hk
   obtain ⟨m,_,_,rfl⟩:=q1
   obtain ⟨t,_,_,e⟩:=q2
   have e1:ar (L.getD k default) (L.getD (sc L.length k) default) (pt (L.getD k default) (L.getD (sc L.length k) default) t)=0:=by unfold ar pt;simp only;grind
   rw [←e,pt_ar_l] at e1
   rcases Rat.mul_eq_zero.1 e1 with e2|e2
   ·left;rw [e2];refine Pt.ext ?_ ?_<;>(unfold pt;simp only;grind)
   ·exact absurd e2 fl
  ·exact absurd ⟨q,q1,q2⟩ (h.cr i k hi hk (by omega) h1 h2)
theorem edges_closed (L:List Pt):((edgesL L).map Sg.b).Perm ((edgesL L).map Sg.a):=by rw [edgesL_a];exact edgesL_b L
theorem up_rev {s:Sg} (h:s.a.y≠s.b.y):s.rev.up= !s.up:=by
 unfold Sg.up Sg.rev
 try simp only
 rcases lt_tri s.a.y s.b.y with k|k|k
 ·rw [decide_eq_true k,decide_eq_false (by grind)];rfl
 ·exact absurd k h
 ·rw [decide_eq_true k,decide_eq_false (by grind)];rfl
theorem pt_rev (a b:Pt) (m:Rat):pt b a m=pt a b (1-m):=by refine Pt.ext ?_ ?_<;>(unfold pt;simp only;grind)
theorem apart_rev {E:List Sg} (h:E.Pairwise fun e f=>∀ q,onSeg e.a e.b q→onSeg f.a f.b q→q=e.a∨q=e.b):(E.map Sg.rev).Pairwise fun e f=>∀ q,onSeg e.a e.b q→onSeg f.a f.b q→q=e.a∨q=e.b:=by
 rw [List.pairwise_map]
 exact h.imp fun {e f} hq q q1 q2=>(hq q (onSeg_rev q1) (onSeg_rev q2)).symm
theorem steep_rev {E:List Sg} (h:Steep E):Steep (E.map Sg.rev):=by
 intro s hs
 obtain ⟨s0,h0,rfl⟩:=List.mem_map.1 hs
 exact fun e=>h s0 h0 e.symm
theorem map_rev_a (E:List Sg):(E.map Sg.rev).map Sg.a=E.map Sg.b:=by rw [List.map_map];rfl
theorem map_rev_b (E:List Sg):(E.map Sg.rev).map Sg.b=E.map Sg.a:=by rw [List.map_map];rfl
theorem side_area {L:List Pt} (h:Good L) (hz:Steep (edgesL L)):areaL L≠0∧(0<areaL L→∀ s∈edgesL L,∀ m:Rat,0<m→m<1→oddTo L (pt s.a s.b m) L.length=(true^^s.up)):=by
 obtain ⟨c,hc⟩:=side_all h hz
 have hlo:=h.lo
 have hne:edgesL L≠[]:=by
  intro e
  have:(edgesL L).length=L.length:=by simp [edgesL]
  rw [e] at this;simp at this;omega
 cases c with
 |true=>
  have l:Lefts (edgesL L):=⟨hz,edges_closed L,h.apart,fun e he m m0 m1=>by rw [←odd_xsum];exact hc e he m m0 m1⟩
  have p:=l.pos hne
  refine ⟨?_,fun _ s hs m m0 m1=>hc s hs m m0 m1⟩
  rw [area_esum];grind
 |false=>
  have l:Lefts ((edgesL L).map Sg.rev):=by
   refine ⟨steep_rev hz,?_,apart_rev h.apart,fun e he m m0 m1=> ?_⟩
   ·rw [map_rev_a,map_rev_b];exact (edges_closed L).symm
   ·obtain ⟨e0,h0,rfl⟩:=List.mem_map.1 he
    rw [up_rev (hz e0 h0),xsum_map]
    have:=hc e0 h0 (1-m) (by grind) (by grind)
    rw [odd_xsum] at this
    rw [show pt e0.rev.a e0.rev.b m=pt e0.a e0.b (1-m) from pt_rev ..]
    rw [xsum_congr (f:=fun s=>cr (pt e0.a e0.b (1-m)) s.rev.a s.rev.b) (g:=fun s=>cr (pt e0.a e0.b (1-m)) s.a s.b) fun s _=>cr_symm ..,this]
    unfold Sg.up
    cases decide (e0.a.y<e0.b.y)<;>rfl
  have p:=l.pos (by intro e;exact hne (List.map_eq_nil_iff.1 e))
  rw [esum_neg] at p
  rw [area_esum]
  constructor
  ·grind
  ·intro k;grind
def shy (k:Rat):Aff:=⟨1,0,k,1,0,0⟩
theorem shy_det (k:Rat):(shy k).det=1:=by unfold Aff.det shy;simp only;grind
theorem shy_ne (k:Rat):(shy k).det≠0:=by rw [shy_det];decide+kernel
theorem steep_shear (E:List Sg) (hne:∀ s∈E,s.a≠s.b):∃ k:Rat,Steep (E.map fun s=>s.map (shy k).ap):=by
 obtain ⟨k,hk⟩:=bound_high (E.map fun s=> -(s.a.y-s.b.y)/(s.a.x-s.b.x))
 refine ⟨k,fun s hs=> ?_⟩
 obtain ⟨s0,h0,rfl⟩:=List.mem_map.1 hs
 have h1:=hk _ (List.mem_map.2 ⟨s0,h0,rfl⟩)
 have h2:=hne s0 h0
 unfold Sg.map Aff.ap shy
 try simp only
 intro e
 by_cases hx:s0.a.x=s0.b.x
 ·exact h2 (Pt.ext hx (by rw [hx] at e;grind))
 ·have hd:s0.a.x-s0.b.x≠0:=fun e=>hx (by grind)
  have: -(s0.a.y-s0.b.y)/(s0.a.x-s0.b.x)=k:=by grind
  rw [this] at h1
  exact Rat.lt_irrefl h1
theorem Good.seg_ne {L:List Pt} (h:Good L):∀ s∈edgesL L,s.a≠s.b:=by
 intro s hs
 obtain ⟨i,hi,rfl⟩:=mem_edgesL hs
 rw [segOf_sc hi]
 exact h.ne i hi
theorem Good.areaNe {L:List Pt} (h:Good L):areaL L≠0:=by
 obtain ⟨k,hk⟩:=steep_shear (edgesL L) h.seg_ne
 have:=(side_area (h.map (shy_ne k)) (by rw [edges_map];exact hk)).1
 rw [area_ap,shy_det] at this
 intro e;rw [e] at this;exact this (by grind)
structure Nest (L:List Pt) (Hs:List (List Pt)):Prop where
 out:Good L
 pos:0<areaL L
 holes:∀ h∈Hs,Good h∧0<areaL h
 mo:∀ h∈Hs,NoMeet h L
 wo:∀ h∈Hs,∀ p∈h,oddTo L p L.length=true
 ow:∀ h∈Hs,∀ p∈L,oddTo h p h.length=false
 pw:Hs.Pairwise Sep
theorem odd_mapP {t:Aff} (ht:Par t) {l:List Pt} {p:Pt} (hp:∀ s∈edgesL l,¬onSeg s.a s.b p):oddTo (l.map t.ap) (t.ap p) (l.map t.ap).length=oddTo l p l.length:=ht.2 l p hp
theorem Nest.map {L:List Pt} {Hs:List (List Pt)} (h:Nest L Hs) {t:Aff} (ht:Par t) (hd:0<t.det):Nest (L.map t.ap) (Hs.map fun l=>l.map t.ap):=by
 have ar:∀ l,0<areaL l→0<areaL (l.map t.ap):=fun l hl=>by rw [area_ap];exact Rat.mul_pos hd hl
 refine ⟨h.out.map ht.1,ar _ h.pos,fun l hl=> ?_,fun l hl=> ?_,fun l hl p hp=> ?_,fun l hl p hp=> ?_,?_⟩
 ·obtain ⟨l,h1,rfl⟩:=List.mem_map.1 hl
  exact ⟨(h.holes l h1).1.map ht.1,ar _ (h.holes l h1).2⟩
 ·obtain ⟨l,h1,rfl⟩:=List.mem_map.1 hl
  exact (h.mo l h1).map ht.1
 ·obtain ⟨l,h1,rfl⟩:=List.mem_map.1 hl
  obtain ⟨p,h2,rfl⟩:=List.mem_map.1 hp
  rw [odd_mapP ht ((h.mo l h1).freeP h2)];exact h.wo l h1 p h2
 ·obtain ⟨l,h1,rfl⟩:=List.mem_map.1 hl
  obtain ⟨p,h2,rfl⟩:=List.mem_map.1 hp
  rw [odd_mapP ht ((h.mo l h1).symm.freeP h2)];exact h.ow l h1 p h2
 ·rw [List.pairwise_map]
  refine h.pw.imp fun {a b} s=>⟨s.nm.map ht.1,fun p hp=> ?_,fun p hp=> ?_⟩
  ·obtain ⟨p,h2,rfl⟩:=List.mem_map.1 hp
   rw [odd_mapP ht (s.nm.symm.freeP h2)];exact s.ab p h2
  ·obtain ⟨p,h2,rfl⟩:=List.mem_map.1 hp
   rw [odd_mapP ht (s.nm.freeP h2)];exact s.ba p h2
end Go.Av
namespace Go.Av
open Go.RowKit
open Go.Proofs.Tryz (prog)
def isRot (r:Pt):Prop:=r.x*r.x+r.y*r.y=1
end Go.Av
namespace Go.Av
open Go.RowKit
open Go.Proofs.Tryz (prog)
end Go.Av
namespace Go.Av
open Go.RowKit
open Go.Proofs.Tryz (prog)
theorem Fits.can {t:Aff} {L:List Pt} {Hs:List (List Pt)} (hf:Fits t L Hs) (ht:t.det≠0) (hv:Valid L Hs):∀ l∈(L.map t.ap)::(Hs.map fun l=>l.map t.ap),Can l:=by
 have key:∀ l,l∈L::Hs→Ring l→Can (l.map t.ap):=fun l hl hr=>by
  have g:=hr.good.map ht
  exact ⟨g.lo,by rw [List.length_map];exact hr.hi,hf l hl,g.keep,g.crossB⟩
 intro l hl
 rcases List.mem_cons.1 hl with rfl|hl
 ·exact key L (List.mem_cons_self ..) hv.out
 ·obtain ⟨h,hh,rfl⟩:=List.mem_map.1 hl
  exact key h (List.mem_cons_of_mem _ hh) (hv.holes h hh)
end Go.Av
namespace Go.Av
open Go.RowKit
open Go.Proofs.Tryz (prog)
variable {L:List Pt} {Hs:List (List Pt)}
end Go.Av
namespace Go.Av
open Go.RowKit
open Go.Proofs.Tryz (prog)
theorem greatP_12 {O:List Rp} {hs:List (List Rp)} (h:greatP O hs=false):(∀ p∈O,p.le 12)∧∀ i,i<hs.length→i<11→∀ p∈hs.getD i [],p.le 12:=by
 unfold greatP at h
 simp only [Bool.or_eq_false_iff,decide_eq_false_iff_not] at h
 obtain ⟨h1,h2,h3,h4,h5,h6⟩:=h
 have one:∀ {l:List Rp},greatL l=false→∀ p∈l,p.le 12:=by
  intro l hl p hp
  obtain ⟨i,hi,rfl⟩:=List.mem_iff_getElem.1 hp
  have:=anyTo_get hl hi
  rw [List.getD_eq_getElem?_getD,List.getElem?_eq_getElem hi] at this
  unfold bigP at this
  simp only [Option.getD_some,Bool.or_eq_false_iff,decide_eq_false_iff_not] at this
  exact ⟨⟨by omega,by omega⟩,⟨by omega,by omega⟩⟩
 refine ⟨one h3,fun i hi h11=> ?_⟩
 have:=anyTo_get h4 (i:=i) (by omega)
 simp only [Bool.or_eq_false_iff,decide_eq_false_iff_not] at this
 exact one this.2
structure FineT (O:List Rp) (hs:List (List Rp)) (r v:Rp) (k:Rt):Prop where
 f:Fine O hs
 few:hs.length≤3
 leO:∀ p∈O,p.le 12
 leH:∀ l∈hs,∀ p∈l,p.le 12
 rc:r.x=can r.x.val∧r.y=can r.y.val
 rr:isRot ⟨r.x.val,r.y.val⟩
 rl:r.le 30
 vc:v.x=can v.x.val∧v.y=can v.y.val
 vl:v.le 30
 kc:k=can k.val
 kl:k.le 30
 sz:∀ l∈O::hs,l.length≤10
theorem Rt.le_mono {r:Rt} {a b:Nat} (h:r.le a) (hab:a≤b):r.le b:=⟨Nat.le_trans h.1 hab,Nat.le_trans h.2 hab⟩
theorem ptV_pV {p:Rp} (h:p.x=can p.x.val∧p.y=can p.y.val):ptV p.x p.y=pV ⟨p.x.val,p.y.val⟩:=by
 show ptV p.x p.y=ptV (can p.x.val) (can p.y.val)
 rw [←h.1,←h.2]
end Go.Av
namespace Go.Av
open Go.RowKit
open Go.Proofs.Tryz (prog)
end Go.Av
namespace Go.Av
open Go.RowKit
open Go.Proofs.Tryz (prog)
theorem chkR_ok {l:List Rp} (h:chkR l=0):allOk l=true:=by
 unfold chkR at h
 split at h
 ·cases h
 ·split at h
  ·assumption
  ·cases h
def Aff.le (t:Aff) (A:Nat):Prop:=ht t.a≤A∧ht t.b≤A∧ht t.c≤A∧ht t.d≤A∧ht t.e≤A∧ht t.f≤A
def hlP (L:List Pt) (Hs:List (List Pt)) (k:Nat):Prop:=∀ l∈L::Hs,hl l k
theorem FineT.hlP {O:List Rp} {hs:List (List Rp)} {r v:Rp} {k:Rt} (h:FineT O hs r v k):Av.hlP (pts O) (hs.map pts) 12:=by
 intro l hl
 rcases List.mem_cons.1 hl with rfl|hl
 ·exact hl_pts (chkR_ok h.f.o0) h.leO (by omega)
 ·obtain ⟨l0,h0,rfl⟩:=List.mem_map.1 hl
  exact hl_pts (chkR_ok (h.f.hr l0 h0)) (h.leH l0 h0) (by omega)
theorem Valid.area_pc {L:List Pt} {Hs:List (List Pt)} (h:Valid L Hs):PC prog 34 [cgV L Hs] (.tup [qV (areaPTo L Hs Hs.length),.prim (.int .i64 (0))]):=by
 have:=AreaP_pc h.fine
 have e:Hs.map (pts∘fun l=>l.map Pt.rp)=Hs:=by
  conv=>rhs;rw [←List.map_id Hs]
  exact List.map_congr_left fun l _=>pts_rp l
 rw [pts_rp,List.map_map,e,List.length_map] at this
 exact this
theorem Valid.inside_pc {L:List Pt} {Hs:List (List Pt)} (h:Valid L Hs) (q:Pt) (hq:hp q≤2^16):PC prog 44 [cgV L Hs,pV q] (.tup [.prim (.int .i64 (whereS L Hs q)),.prim (.int .i64 (0))]):=by
 have:=InsideP_pc h.fine q (by omega)
 have e:Hs.map (pts∘fun l=>l.map Pt.rp)=Hs:=by
  conv=>rhs;rw [←List.map_id Hs]
  exact List.map_congr_left fun l _=>pts_rp l
 rw [pts_rp,List.map_map,e] at this
 exact this
end Go.Av
