/- Helping texts: Dq, Ds, Dt, Du, Dv, Dw, Dx, Dy, Mb, Dz. -/
import Derived.Test.YtbidkolaahnbiaaGreatKDn
import Derived.Test.YtbidkolaahnbiaaGreatKDh
set_option linter.unusedSimpArgs false
set_option linter.unusedVariables false
set_option maxRecDepth 100000
set_option maxHeartbeats 16000000
namespace Go.Av
open Go.RowKit
open Go.Proofs.Tryz (prog)
structure Fine (O:List Rp) (hs:List (List Rp)):Prop where
 chk:chkP O hs=0
 kO:∀ p∈O,p.le (2^16)
 kh:∀ l∈hs,l.length<2^50∧∀ p∈l,p.le (2^16)
theorem Fine.o0 {O:List Rp} {hs:List (List Rp)} (h:Fine O hs):chkR O=0:=by
 have:=h.chk
 unfold chkP at this
 split at this
 ·exact this
 ·rename_i h2;simpa using h2
theorem Fine.few {O:List Rp} {hs:List (List Rp)} (h:Fine O hs):hs.length≤8:=by
 have:=h.chk
 unfold chkP at this
 rw [if_neg (fun h2=>h2 h.o0)] at this
 split at this
 ·cases this
 ·omega
theorem Fine.hz {O:List Rp} {hs:List (List Rp)} (h:Fine O hs):∀ j,j<hs.length→chkH O hs j=0:=by
 have:=h.chk
 unfold chkP at this
 rw [if_neg (fun h2=>h2 h.o0),if_neg (by have:=h.few;omega)] at this
 exact firstNz_zero this
theorem Fine.hr {O:List Rp} {hs:List (List Rp)} (h:Fine O hs):∀ l∈hs,chkR l=0:=by
 intro l hl
 obtain ⟨i,hi,rfl⟩:=List.mem_iff_getElem.1 hl
 have:=chkH_ring (h.hz i hi)
 rwa [List.getD_eq_getElem?_getD,List.getElem?_eq_getElem hi] at this
theorem Fine.rgs {O:List Rp} {hs:List (List Rp)} (h:Fine O hs):Rgs (pts O) (hs.map pts):=by
 refine ⟨(ring_of h.o0 h.kO).1,?_,by rw [List.length_map];exact h.few⟩
 intro l hl
 obtain ⟨k,hk,rfl⟩:=List.mem_map.1 hl
 exact (ring_of (h.hr k hk) (h.kh k hk).2).1
theorem Fine.val {O:List Rp} {hs:List (List Rp)} (h:Fine O hs):pgV O hs=cgV (pts O) (hs.map pts):=by
 unfold pgV cgV hsV
 rw [(ring_of h.o0 h.kO).2]
 have:hs.map rpsV=(hs.map pts).map psV:=by
  rw [List.map_map]
  exact List.map_congr_left fun l hl=>(ring_of (h.hr l hl) (h.kh l hl).2).2
 rw [this]
theorem Fine.no {O:List Rp} {hs:List (List Rp)} (h:Fine O hs):O.length≤64:=by have:=h.rgs.out.hi;rwa [pts_length] at this
theorem Fine.check_pc {O:List Rp} {hs:List (List Rp)} (h:Fine O hs):PC prog 74 [cgV (pts O) (hs.map pts)] (.prim (.int .i64 (0))):=by
 have:=Pcheck_pc O hs (by have:=h.few;omega) (by have:=h.no;omega) h.kO h.kh
 rw [h.chk,h.val] at this
 exact this
theorem EdgesP_pc {O:List Rp} {hs:List (List Rp)} (h:Fine O hs):PC prog 59 [cgV (pts O) (hs.map pts)] (.tup [ssV (edgesTo (pts O::hs.map pts) (hs.length+1)),.prim (.int .i64 (0))]):=by
 have c:=h.check_pc
 have d:=edges_pc _ _ h.rgs
 rw [List.length_map] at d
 refine PCi ?_
 conv in trip _ _=>cbv
 simp only [runT,RN,simprocAttr]
 simp (disch:=omega) only [↓RS,RZ,simprocAttr,cgV,psV]
 refine cX c ?_
 simp (disch:=omega) only [↓RS,RZ,simprocAttr,psV]
 refine cX d ?_
 simp (disch:=omega) only [↓RS,RZ,simprocAttr,ssV]
theorem pg_getD {Hs:List (List Pt)} {i:Nat} (h:i<Hs.length):((Hs.map psV).map fun v=>[v]).getD i []=[psV (Hs.getD i [])]:=by
 rw [one_getD (by rw [List.length_map];exact h),List.getD_eq_getElem?_getD,List.getD_eq_getElem?_getD,List.getElem?_map,List.getElem?_eq_getElem h];rfl
theorem pgs_length (Hs:List (List Pt)):(Hs.map psV).length=Hs.length:=List.length_map ..
theorem Rgs.hole {L:List Pt} {Hs:List (List Pt)} (h:Rgs L Hs) {i:Nat} (hi:i<Hs.length):Ring (Hs.getD i []):=by
 rw [List.getD_eq_getElem?_getD,List.getElem?_eq_getElem hi]
 exact h.holes _ (List.getElem_mem hi)
end Go.Av
namespace Go.Av
open Go.RowKit
open Go.Proofs.Tryz (prog)
theorem set_self {H:Hp} {b:Nat} {k:Blk} (h:get H b=some k):H.set b (some k)=H:=by
 refine List.ext_getElem? fun c=> ?_
 rw [List.getElem?_set]
 split
 ·rename_i hc
  subst hc
  have hl:=get_lt_len h
  rw [if_pos hl]
  simp only [get,List.getElem?_eq_getElem hl,Option.join_some] at h ⊢
  rw [h]
 ·rfl
def hq (l:List Rat) (k:Nat):Prop:=∀ i,i<l.length→ht (l.getD i 0)≤k
theorem getD_set {l:List Rat} {i j:Nat} {x:Rat} (hj:j<l.length):(l.set j x).getD i 0=if i=j then x else l.getD i 0:=by
 rw [List.getD_eq_getElem?_getD,List.getElem?_set,List.getD_eq_getElem?_getD]
 by_cases h:j=i
 ·subst h;simp [hj]
 ·rw [if_neg h,if_neg (fun e=>h e.symm)]
theorem qc_get {l:List Rat} {i:Nat} (h:i<l.length):(l.map qc)[i]? =some (qc (l.getD i 0)):=by
 rw [List.getElem?_map,List.getD_eq_getElem?_getD,List.getElem?_eq_getElem h];rfl
theorem len64_pc (x:Nat) (hx:x<256):PC prog 263 [.prim (.int .u64 ((x:Nat):Int))] (.prim (.int .i64 ((blen x:Nat):Int))):=by
 refine PCi ?_
 conv in trip _ _=>cbv
 simp only [runT,RN,simprocAttr]
 have fin:some (V.prim (Value.int IntKind.i64 (IntKind.i64.wrap ((0:Int)+IntKind.i64.wrap ((lenTab.getD x 0).toNat:Nat)))))=some (V.prim (Value.int IntKind.i64 (blen x:Nat))):=by
  have:= @blen_le x 8 hx
  rw [lenTab_spec x hx,wrap_nat_i64 (by omega),wrap_i64 (by omega) (by omega)]
  simp
 simp (maxSteps:=2000000) (disch:=omega) only [↓RS,RY,simprocAttr]
 exact fin
theorem blen64_pc (x:Nat) (hx:x<256):PC prog 194 [.prim (.int .u64 ((x:Nat):Int))] (.prim (.int .i64 ((blen x:Nat):Int))):=by
 have c:=len64_pc x hx
 refine PCi ?_
 conv in trip _ _=>cbv
 simp only [runT,RN,simprocAttr]
 simp (disch:=omega) only [↓RS,RZ,simprocAttr,wrap_nat_u64]
 refine cX c ?_
 simp (disch:=omega) only [↓RS,RZ,simprocAttr]
end Go.Av
namespace Go.Av
open Go.RowKit
open Go.Proofs.Tryz (prog)
theorem eqA_q (a b:Rat):eqA (tyOf prog) 9 27 (.agg [.prim (.bool (can a).neg),.prim (.string (bs ((can a).num))),.prim (.string (bs ((can a).den)))]) (.agg [.prim (.bool (can b).neg),.prim (.string (bs ((can b).num))),.prim (.string (bs ((can b).den)))])=some (decide (a=b)):=by
 rw [eqA_rat]
 have:decide (Rt.mk (can a).neg (can a).num (can a).den=Rt.mk (can b).neg (can b).num (can b).den)=decide (a=b):=by
  rw [decide_eq_decide]
  exact ⟨fun h=>can_inj h,fun h=>by subst h;rfl⟩
 rw [this]
end Go.Av
namespace Go.Av
open Go.RowKit
open Go.Proofs.Tryz (prog)
theorem sgc_getD {l:List Sg} {k:Nat} (h:k<l.length):(l.map sgc).getD k []=sgc (l.getD k sg0):=by
 rw [List.getD_eq_getElem?_getD,List.getD_eq_getElem?_getD,List.getElem?_map,List.getElem?_eq_getElem h];rfl
theorem qc_prims (l:List Rat):Prims (l.map qc):=by
 intro e he v hv
 obtain ⟨s,_,rfl⟩:=List.mem_map.1 he
 simp only [qc,List.mem_cons,List.not_mem_nil,or_false] at hv
 rcases hv with h|h|h<;>exact ⟨_,h⟩
end Go.Av
namespace Go.Av
open Go.RowKit
open Go.Proofs.Tryz (prog)
end Go.Av
namespace Go.Av
open Go.RowKit
open Go.Proofs.Tryz (prog)
theorem hs_edges {L:List Pt} {Hs:List (List Pt)} (hg:Rgs L Hs):∀ i,i≤Hs.length+1→∀ t∈edgesTo (L::Hs) i,hs t≤2^16
 |0,_=>by intro p hp;simp [edgesTo] at hp
 |i+1,hi=>by
  intro p hp
  rw [edgesTo,List.mem_append] at hp
  rcases hp with hp|hp
  ·exact hs_edges hg i (by omega) p hp
  ·obtain ⟨j,hj,rfl⟩:=List.mem_map.1 hp
   exact hs_seg (hg.get (i:=i) (by omega)).ht (by simpa using hj)
end Go.Av
namespace Go.Av
open Go.RowKit
open Go.Proofs.Tryz (prog)
theorem hl_of {L:List Pt} {k:Nat} (hk:1≤k) (h:∀ p∈L,∃ x y:Int,p=⟨x,y⟩∧x.natAbs<256∧y.natAbs<256):hl L k:=by
 intro p hp
 obtain ⟨x,y,rfl,hx,hy⟩:=h p hp
 exact Nat.le_trans (hp_mk (ht_int hx) (ht_int hy)) hk
end Go.Av
namespace Go.Av
open Go.RowKit
open Go.Proofs.Tryz (prog)
theorem hp_ints {x y:Int} (hx:x.natAbs<256) (hy:y.natAbs<256):hp ⟨x,y⟩≤1:=hp_mk (ht_int hx) (ht_int hy)
end Go.Av
namespace Go.Av
theorem idxP_neg {n:Nat} {p:Nat→Bool} (h:¬0≤idxP n p):∀ i,i<n→p i=false:=by
 intro i hi
 cases hp:p i with
 |false=>rfl
 |true=>
  exfalso;apply h
  have:= @idxP_nonneg n p
  rw [show (List.range n).any p=true from List.any_eq_true.2 ⟨i,by simpa using hi,hp⟩] at this
  exact of_decide_eq_true this
theorem Ring.flat {L:List Pt} (h:Ring L):∀ i,i<L.length→flatAt L i=false:=by
 have:=h.ok
 unfold chkC at this
 split at this
 ·cases this
 ·rename_i h1;exact idxP_neg h1
theorem Ring.cross {L:List Pt} (h:Ring L):crossB L=false:=by
 have:=h.ok
 unfold chkC at this
 split at this
 ·cases this
 ·split at this
  ·cases this
  ·rename_i h1;simpa using h1
theorem orient_same (a c:Pt):orient a a c=0:=by
 unfold orient
 rw [cmpQ_zero]
 unfold Av.cross Pt.sub
 grind
theorem flat_next_ne {L:List Pt} (hlo:3≤L.length) (hfl:∀ i,i<L.length→flatAt L i=false) {i:Nat} (hi:i<L.length):L.getD i default≠nx L i:=by
 intro e
 have hm:=Nat.mod_lt (i+1) (show 0<L.length by omega)
 have hf:=hfl ((i+1)%L.length) hm
 unfold flatAt at hf
 have hp:((i+1)%L.length+L.length-1)%L.length=i:=by
  rcases Nat.lt_or_ge (i+1) L.length with hlt|hge
  ·rw [Nat.mod_eq_of_lt hlt,show i+1+L.length-1=i+L.length by omega,Nat.add_mod_right,Nat.mod_eq_of_lt hi]
  ·rw [show i+1=L.length by omega,Nat.mod_self,Nat.zero_add,Nat.mod_eq_of_lt (by omega)];omega
 rw [hp] at hf
 unfold nx at e
 rw [←e,orient_same] at hf
 simp at hf
theorem Ring.next_ne {L:List Pt} (h:Ring L) {i:Nat} (hi:i<L.length):L.getD i default≠nx L i:=flat_next_ne h.lo h.flat hi
theorem Ring.seg_ok {L:List Pt} (h:Ring L) {i:Nat} (hi:i<L.length):(segOf L i).ok:=fun e=>h.next_ne hi (cmpP_zero.1 e)
theorem mem_getD {L:List Pt} {p:Pt} (h:p∈L):∃ i,i<L.length∧L.getD i default=p:=by
 obtain ⟨i,hi,rfl⟩:=List.mem_iff_getElem.1 h
 exact ⟨i,hi,by rw [List.getD_eq_getElem?_getD,List.getElem?_eq_getElem hi];rfl⟩
theorem edgesL_a (L:List Pt):(edgesL L).map Sg.a=L:=by
 refine List.ext_getElem (by simp [edgesL_length]) fun i h1 h2=> ?_
 rw [List.getElem_map]
 unfold edgesL
 rw [List.getElem_map,List.getElem_range]
 show L.getD i default=_
 rw [List.getD_eq_getElem?_getD,List.getElem?_eq_getElem h2];rfl
theorem edgesL_b (L:List Pt):((edgesL L).map Sg.b).Perm L:=by
 cases L with
 |nil=>simp [edgesL]
 |cons p t=>
  have e:(edgesL (p::t)).map Sg.b=t++[p]:=by
   refine List.ext_getElem (by simp [edgesL_length]) fun i h1 h2=> ?_
   rw [List.getElem_map]
   unfold edgesL
   rw [List.getElem_map,List.getElem_range]
   show nx (p::t) i=_
   unfold nx
   simp only [List.length_append,List.length_cons,List.length_nil] at h2
   rcases Nat.lt_or_ge i t.length with hlt|hge
   ·rw [List.length_cons,Nat.mod_eq_of_lt (by omega),List.getD_cons_succ,List.getD_eq_getElem?_getD,List.getElem?_eq_getElem hlt,List.getElem_append_left hlt];rfl
   ·have:i=t.length:=by omega
    subst this
    rw [List.length_cons,Nat.mod_self,List.getD_cons_zero,List.getElem_append_right (Nat.le_refl _)]
    simp
  rw [e]
  exact List.perm_append_singleton p t
end Go.Av
namespace Go.Av
open Go.RowKit
open Go.Proofs.Tryz (prog)
structure Read (O:List Rp) (hs:List (List Rp)):Prop where
 o:O.length≤maxLen∧∀ p∈O,p.fit
 n:hs.length≤maxLen
 h:∀ l∈hs,l.length≤maxLen∧∀ p∈l,p.fit
theorem big_le {p:Rp} (h:bigP p=false):p.le (2^16):=by
 unfold bigP at h
 simp only [Bool.or_eq_false_iff,decide_eq_false_iff_not] at h
 exact ⟨⟨by omega,by omega⟩,⟨by omega,by omega⟩⟩
theorem greatL_le {l:List Rp} (h:greatL l=false):∀ p∈l,p.le (2^16):=by
 intro p hp
 obtain ⟨i,hi,rfl⟩:=List.mem_iff_getElem.1 hp
 have:=anyTo_get h hi
 rw [List.getD_eq_getElem?_getD,List.getElem?_eq_getElem hi] at this
 exact big_le this
theorem greatP_small {O:List Rp} {hs:List (List Rp)} (h:greatP O hs=false):O.length≤67∧(∀ p∈O,p.le (2^16))∧hs.length≤10∧∀ l∈hs,l.length<2^50∧∀ p∈l,p.le (2^16):=by
 unfold greatP at h
 simp only [Bool.or_eq_false_iff,decide_eq_false_iff_not] at h
 obtain ⟨h1,h2,h3,h4,h5,h6⟩:=h
 refine ⟨by omega,greatL_le h3,by omega,?_⟩
 intro l hl
 obtain ⟨i,hi,rfl⟩:=List.mem_iff_getElem.1 hl
 have:=anyTo_get h4 (show i<min hs.length 11 by omega)
 rw [List.getD_eq_getElem?_getD,List.getElem?_eq_getElem hi] at this
 simp only [Option.getD_some,Bool.or_eq_false_iff,decide_eq_false_iff_not] at this
 exact ⟨by omega,greatL_le this.2⟩
end Go.Av
