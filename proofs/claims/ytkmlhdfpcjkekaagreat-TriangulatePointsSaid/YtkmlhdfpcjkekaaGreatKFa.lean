/- Helping texts: Fa, Fs, Fb, Fc, Ft, Fd, Fe, Fg, Fh, Fi, Mh, Mi. -/
import Derived.Test.YtkmlhdfpcjkekaaGreatKDj
import Derived.Test.YtkmlhdfpcjkekaaGreatKAx
import Derived.Test.YtkmlhdfpcjkekaaGreatKDq
import Derived.Test.YtkmlhdfpcjkekaaGreatKMe
import Derived.Test.YtkmlhdfpcjkekaaGreatKDa
import Derived.Test.YtkmlhdfpcjkekaaGreatKDv
set_option linter.unusedSimpArgs false
set_option linter.unusedVariables false
set_option maxRecDepth 100000
set_option maxHeartbeats 16000000
namespace Go.Av
open Go.RowKit
open Go.Proofs.Tryz (prog)
def NewL (H:Hp) (l:List Pt) (K:V→Hp→Prop):Prop:=∀ b H',Ext H H'→H.length≤b→get H' b=some (.row 6 true (l.map pc))→K (.sref b 0 l.length l.length 6 false) H'
theorem clone_sc (l:List Pt) (hne:l≠[]) (hn:l.length≤2^30) {H:Hp} {K:V→Hp→Prop} (hK:NewL H l K):SC prog 113 [psV l] H K:=by
 obtain ⟨p,t,rfl⟩:∃ p t,l=p::t:=by
  cases l with
  |nil=>exact absurd rfl hne
  |cons p t=>exact ⟨p,t,rfl⟩
 have e:∀ x,eqA (tyOf prog) 9 22 (.lst 6 (x::t.map pc)) (.prim (.slice none 0 0))=some false:=by
  intro x;unfold eqA;simp only [RT]
 refine SCi ?_
 conv in trip _ _=>cbv
 simp only [runT,RN,simprocAttr]
 simp (disch:=omega) only [↓RS,RZ,simprocAttr,psV,List.map_cons,e,nilP_some]
 refine ⟨fun y hy v hv=>by obtain ⟨s,_,rfl⟩:=List.mem_map.1 (show y∈(p::t).map pc from hy);simp only [pc,List.mem_cons,List.not_mem_nil,or_false] at hv;rcases hv with rfl|rfl|rfl|rfl|rfl|rfl<;>rfl,?_⟩
 simp only [get_app_len]
 have hl:((p::t).map pc).length=(p::t).length:=List.length_map ..
 refine ⟨trivial,by simp,.inr (.inl ⟨trivial,?_,?_,?_,?_⟩)⟩
 ·show 0<0+((p::t).map pc).length;rw [hl];simp
 ·show (0+((p::t).map pc).length)*80≤_;rw [hl];omega
 ·show 0+((p::t).map pc).length≤_;rw [hl];omega
 have:=hK (H++[some (Blk.row 6 true [])]).length (H++[some (Blk.row 6 true [])]++[some (Blk.row 6 true ((p::t).map pc))]) ((Ext.app _).trans (Ext.app _)) (by rw [List.length_append];omega) get_app_len
 have hl2:(pc p::List.map pc t).length=(p::t).length:=hl
 rw [hl2]
 simp only [List.map_cons] at this
 simp (disch:=omega) only [↓RS,RZ,simprocAttr]
 exact this
end Go.Av
namespace Go.Av
open Go.RowKit
variable {P:Program} {H:Hp}
structure FnS (P:Program) (f:FuncId) (k:Nat) (rs:List ResultVar) (lc:LC):Prop where
 ex:∃ fn c d x y,P.funcs[f]? =some fn∧fn.body=some (.seq c (.scope d))∧lite c=some x∧lite d=some y∧rfOk c=true∧rfOk d=true∧(fn.name== "runtime.NumGoroutine")=false∧fn.ntmps=k∧fn.results.toList=rs∧lc= .seq x y
theorem FnS.call {f:FuncId} {k:Nat} {rs:List ResultVar} {lc:LC} (h:FnS P f k rs lc) (xs:Array Value) (W:World):(callFunc f xs).run P W= .ok (.enter f xs) W:=by
 obtain ⟨fn,c,d,x,y,h1,h2,_,_,_,_,h5,_⟩:=h.ex
 simp [callFunc,Sem.run_bind,h1,h2]
 simpa using h5
def lcS (P:Program) (f:FuncId):LC:=match P.funcs[f]? with
 |some fn=>match fn.body with
  |some (.seq c (.scope d))=> .seq (liteF c) (liteF d)
  |_=> .skip
 |none=> .skip
def fnS (P:Program) (f:FuncId):Bool:=match P.funcs[f]? with
 |some fn=>match fn.body with
  |some (.seq c (.scope d))=>(lite c).isSome&&(lite d).isSome&&rfOk c&&rfOk d&& !(fn.name== "runtime.NumGoroutine")
  |_=>false
 |none=>false
theorem FnS.of {f:FuncId} (h:fnS P f=true):FnS P f (ntOf P f) (rsOf P f) (lcS P f):=by
 unfold fnS at h
 split at h
 ·rename_i fn h1
  unfold ntOf rsOf lcS
  rw [h1]
  split at h
  ·rename_i c d h2
   simp only [Bool.and_eq_true,Bool.not_eq_true'] at h
   obtain ⟨⟨⟨⟨p1,p2⟩,p3⟩,p4⟩,p5⟩:=h
   obtain ⟨x,hx⟩:=Option.isSome_iff_exists.1 p1
   obtain ⟨y,hy⟩:=Option.isSome_iff_exists.1 p2
   refine ⟨fn,c,d,x,y,h1,h2,hx,hy,p3,p4,p5,rfl,rfl,?_⟩
   simp only [h2,liteF_eq c x hx,liteF_eq d y hy]
  ·cases h
 ·cases h
end Go.Av
namespace Go.Av
open Go.RowKit
open Go.Proofs.Tryz (prog)
end Go.Av
namespace Go.Av
open Go.RowKit
open Go.Proofs.Tryz (prog)
end Go.Av
namespace Go.Av
open Go.RowKit
variable {P:Program} {H:Hp}
end Go.Av
namespace Go.Av
open Go.RowKit
open Go.Proofs.Tryz (prog)
theorem leastTo_in {L:List Pt} (h:0<L.length):leastTo L L.length<L.length:=leastTo_lt h
end Go.Av
namespace Go.Av
open Go.RowKit
open Go.Proofs.Tryz (prog)
def cmpH (a b:List Pt):Int:=cmpP (a.getD 0 default) (b.getD 0 default)
end Go.Av
open Nat (reduceAdd reduceLT reduceLeDiff reducePow reduceDiv reduceMod reduceEqDiff)
namespace Go.Av
open Go.RowKit
open Go.Proofs.Tryz (prog)
theorem VR_nil {φ:Nat→Option Loc} {I:Nat→Prop} {w:World} {x:Value} (h:VR φ I w (.prim (.slice none 0 0)) x):VR φ I w (.lst 1 []) x:=by cases h;exact .lnil
theorem VR_anil {φ:Nat→Option Loc} {I:Nat→Prop} {w:World} {a:V} {x:Value} (h:VR φ I w (.agg [a,.prim (.slice none 0 0)]) x):VR φ I w (.agg [a,.lst 1 []]) x:=by
 cases h with
 |agg h1 hx=>
  refine .agg h1 fun k v x hv hxk=> ?_
  match k,hv with
  |0,hv=>exact hx 0 v x hv hxk
  |1,hv=>cases hv;exact VR_nil (hx 1 _ x rfl hxk)
  |k+2,hv=>simp at hv
theorem PC_arg {P:Program} {f:FuncId} {v v':V} {vs:List V} {r:V} (hv:∀ I w x,VR (fun _=>none) I w v x→VR (fun _=>none) I w v' x) (h:PC P f (v'::vs) r):PC P f (v::vs) r:=fun I w xs hI hxs=>
 h I w xs hI ⟨hxs.len,fun k u x hu hx=>by
  match k,hu with
  |0,hu=>cases hu;exact hv I w x (hxs.at_ 0 v x rfl hx)
  |k+1,hu=>exact hxs.at_ (k+1) u x hu hx⟩
theorem PC_nilA {P:Program} {f:FuncId} {a:V} {vs:List V} {r:V} (h:PC P f (.agg [a,.lst 1 []]::vs) r):PC P f (.agg [a,.prim (.slice none 0 0)]::vs) r:=PC_arg (fun _ _ _ h=>VR_anil h) h
structure Can (l:List Pt):Prop where
 lo:3≤l.length
 hi:l.length≤64
 ht:hl l (2^16)
 kp:keepAll l
 cx:crossB l=false
theorem startL_length {m:List Pt} (h:0<m.length):(startL m).length=m.length:=rotL_length (Nat.le_of_lt (leastTo_in h))
theorem canonL_length {l:List Pt} (h:0<l.length):(canonL l).length=l.length:=by
 unfold canonL
 split
 ·rw [startL_length (by rw [List.length_reverse];exact h),List.length_reverse]
 ·exact startL_length h
theorem startL_mem {m:List Pt} {p:Pt} (h:p∈startL m):p∈m:=by
 rcases List.mem_append.1 h with h|h
 ·exact List.mem_of_mem_drop h
 ·exact List.mem_of_mem_take h
theorem canonL_mem {l:List Pt} {p:Pt} (h:p∈canonL l):p∈l:=by
 unfold canonL at h
 split at h
 ·exact List.mem_reverse.1 (startL_mem h)
 ·exact startL_mem h
theorem Can.get {L:List Pt} {Hs:List (List Pt)} (h:∀ l∈L::Hs,Can l) {i:Nat} (hi:i≤Hs.length):Can ((L::Hs).getD i []):=by
 rw [List.getD_eq_getElem?_getD,List.getElem?_eq_getElem (by simp only [List.length_cons];omega)]
 exact h _ (List.getElem_mem _)
end Go.Av
namespace Go.Av
open Go.RowKit
open Go.Proofs.Tryz (prog)
end Go.Av
namespace Go.Av
open Go.RowKit
open Go.Proofs.Tryz (prog)
def Asc (Hs:List (List Pt)):Prop:=∀ i,0<i→i<Hs.length→cmpH (Hs.getD (i-1) []) (Hs.getD i [])<0
theorem Fine.asc {O:List Rp} {hs:List (List Rp)} (h:Fine O hs):Asc (hs.map pts):=by
 have get:∀ i,i<hs.length→(hs.map pts).getD i []=pts (hs.getD i []):=fun i hi=>by
  rw [List.getD_eq_getElem?_getD,List.getD_eq_getElem?_getD,List.getElem?_map,List.getElem?_eq_getElem hi];rfl
 intro i h0 hi
 rw [List.length_map] at hi
 rw [get i hi,get (i-1) (by omega)]
 have hz:=h.hz i hi
 unfold chkH at hz
 rw [if_neg (by intro h2;exact h2 (chkH_ring (h.hz i hi)))] at hz
 split at hz
 ·cases hz
 split at hz
 ·cases hz
 split at hz
 ·cases hz
 split at hz
 ·cases hz
 ·rename_i hx
  unfold cmpH
  exact Int.not_le.1 fun hle=>hx ⟨h0,hle⟩
theorem Ring.can {R:List Pt} (h:Ring R):Can R:=⟨h.lo,h.hi,h.ht,h.good.keep,h.good.crossB⟩
end Go.Av
namespace Go.Av
open Go.RowKit
open Go.Proofs.Tryz (prog)
def NoMeet (A B:List Pt):Prop:=∀ s∈edgesL A,∀ t∈edgesL B,¬Common s.a s.b t.a t.b
theorem NoMeet.symm {A B:List Pt} (h:NoMeet A B):NoMeet B A:=fun s hs t ht k=>h t ht s hs k.symm
theorem seg_mem {A:List Pt} {i:Nat} (hi:i<A.length):segOf A i∈edgesL A:=List.mem_map.2 ⟨i,List.mem_range.2 hi,rfl⟩
theorem meetB_noMeet {A B:List Pt} (hA:Ring A) (hB:Ring B):meetB A B=false↔NoMeet A B:=by
 constructor
 ·intro h s hs t ht hc
  obtain ⟨i,hi,rfl⟩:=mem_edgesL hs
  obtain ⟨k,hk,rfl⟩:=mem_edgesL ht
  rw [meetB_true hi hk (meet_some (hA.seg_ok hi) (hB.seg_ok hk) hc)] at h
  cases h
 ·intro h
  refine meetB_false fun i hi k hk=> ?_
  have:¬(meetM (segOf A i) (segOf B k)).isSome=true:=fun hm=>h _ (seg_mem hi) _ (seg_mem hk) (some_common hm)
  rwa [Bool.not_eq_true] at this
theorem NoMeet.free {A B:List Pt} (h:NoMeet A B) {i:Nat} (hi:i<A.length):∀ s∈edgesL B,¬onSeg s.a s.b (A.getD i default):=fun s hs k=>h _ (seg_mem hi) s hs ⟨_,onSeg_l _ _,k⟩
theorem NoMeet.freeP {A B:List Pt} (h:NoMeet A B) {p:Pt} (hp:p∈A):∀ s∈edgesL B,¬onSeg s.a s.b p:=by
 obtain ⟨i,hi,rfl⟩:=mem_getD hp
 exact h.free hi
theorem odd_const {A B:List Pt} (h:NoMeet A B):∀ {i:Nat},i<A.length→oddTo B (A.getD i default) B.length=oddTo B (A.getD 0 default) B.length
 |0,_=>rfl
 |i+1,hi=>by
  rw [←odd_const h (show i<A.length by omega)]
  have e:A.getD (i+1) default=nx A i:=by rw [nx_sc (by omega)];unfold sc;rw [if_neg (by omega)]
  rw [e]
  exact (odd_same fun j hj=>h (segOf A i) (seg_mem (by omega)) (segOf B j) (seg_mem hj)).symm
theorem withinB_odd {A B:List Pt} (h:NoMeet A B) (h0:0<A.length):withinB A B=oddTo B (A.getD 0 default) B.length:=by
 have hb:onB B (A.getD 0 default)=false:=onB_false fun i hi=>by
  have:=h.free h0 (segOf B i) (seg_mem hi)
  cases hx:between (B.getD i default) (nx B i) (A.getD 0 default) with
  |false=>rfl
  |true=>exact absurd (between_onSeg hx) this
 unfold withinB sideS
 rw [hb]
 cases oddTo B (A.getD 0 default) B.length<;>simp
structure Sep (a b:List Pt):Prop where
 nm:NoMeet a b
 ab:∀ p∈b,oddTo a p a.length=false
 ba:∀ p∈a,oddTo b p b.length=false
theorem Sep.symm {a b:List Pt} (h:Sep a b):Sep b a:=⟨h.nm.symm,h.ba,h.ab⟩
structure Valid (L:List Pt) (Hs:List (List Pt)):Prop where
 out:Ring L
 holes:∀ h∈Hs,Ring h
 few:Hs.length≤8
 mo:∀ h∈Hs,NoMeet h L
 wo:∀ h∈Hs,∀ p∈h,oddTo L p L.length=true
 pw:Hs.Pairwise Sep
 asc:Asc Hs
theorem Valid.rgs {L:List Pt} {Hs:List (List Pt)} (h:Valid L Hs):Rgs L Hs:=⟨h.out,h.holes,h.few⟩
theorem Fine.valid {O:List Rp} {hs:List (List Rp)} (h:Fine O hs):Valid (pts O) (hs.map pts):=by
 have hr:=h.rgs
 have get:∀ i,i<hs.length→(hs.map pts).getD i []=pts (hs.getD i []):=fun i hi=>by
  rw [List.getD_eq_getElem?_getD,List.getD_eq_getElem?_getD,List.getElem?_map,List.getElem?_eq_getElem hi];rfl
 have ring:∀ i,i<hs.length→Ring (pts (hs.getD i [])):=fun i hi=>by
  rw [←get i hi];exact hr.hole (by rw [List.length_map];exact hi)
 have key:∀ i,i<hs.length→NoMeet (pts (hs.getD i [])) (pts O)∧(∀ j,j<i→NoMeet (pts (hs.getD i [])) (pts (hs.getD j [])))∧withinB (pts (hs.getD i [])) (pts O)=true∧
  ∀ j,j<i→withinB (pts (hs.getD i [])) (pts (hs.getD j []))=false∧withinB (pts (hs.getD j [])) (pts (hs.getD i []))=false:=by
  intro i hi
  have hz:=h.hz i hi
  unfold chkH at hz
  rw [if_neg (by intro h2;exact h2 (chkH_ring (h.hz i hi)))] at hz
  split at hz
  ·cases hz
  rename_i x1
  split at hz
  ·cases hz
  rename_i x2
  split at hz
  ·cases hz
  rename_i x3
  rw [not_or,Bool.not_eq_true,Bool.not_eq_true] at x1
  rw [Bool.not_eq_false] at x2
  rw [Bool.not_eq_true] at x3
  refine ⟨(meetB_noMeet (ring i hi) hr.out).1 x1.1,fun j hj=>(meetB_noMeet (ring i hi) (ring j (by omega))).1 (anyTo_get x1.2 hj),x2,fun j hj=> ?_⟩
  have:=anyTo_get x3 hj
  rwa [Bool.or_eq_false_iff] at this
 have mem:∀ l∈hs.map pts,∃ i,i<hs.length∧l=pts (hs.getD i []):=by
  intro l hl
  obtain ⟨i,hi,rfl⟩:=List.mem_iff_getElem.1 hl
  rw [List.length_map] at hi
  refine ⟨i,hi,?_⟩
  rw [←get i hi,List.getD_eq_getElem?_getD,List.getElem?_eq_getElem (by rw [List.length_map];exact hi)];rfl
 refine ⟨hr.out,hr.holes,hr.few,fun l hl=> ?_,fun l hl p hp=> ?_,?_,h.asc⟩
 ·obtain ⟨i,hi,rfl⟩:=mem l hl
  exact (key i hi).1
 ·obtain ⟨i,hi,rfl⟩:=mem l hl
  obtain ⟨k1,_,k3,_⟩:=key i hi
  have r:=ring i hi
  rw [withinB_odd k1 (by have:=r.lo;omega)] at k3
  obtain ⟨j,hj,rfl⟩:=mem_getD hp
  rw [odd_const k1 hj];exact k3
 ·rw [List.pairwise_iff_getElem]
  intro j i hj hi hlt
  rw [List.length_map] at hi hj
  obtain ⟨_,k2,_,k4⟩:=key i hi
  have e:∀ k (hk:k<hs.length),(hs.map pts)[k]'(by rw [List.length_map];exact hk)=pts (hs.getD k []):=fun k hk=>by
   rw [List.getElem_map,List.getD_eq_getElem?_getD,List.getElem?_eq_getElem hk];rfl
  rw [e i hi,e j hj]
  have nm:=k2 j hlt
  obtain ⟨w1,w2⟩:=k4 j hlt
  have ri:=ring i hi
  have rj:=ring j hj
  rw [withinB_odd nm (by have:=ri.lo;omega)] at w1
  rw [withinB_odd nm.symm (by have:=rj.lo;omega)] at w2
  refine ⟨nm.symm,fun p hp=> ?_,fun p hp=> ?_⟩
  ·obtain ⟨k,hk,rfl⟩:=mem_getD hp
   rw [odd_const nm hk];exact w1
  ·obtain ⟨k,hk,rfl⟩:=mem_getD hp
   rw [odd_const nm.symm hk];exact w2
theorem getD_mem0 {l:List Pt} (h:0<l.length):l.getD 0 default∈l:=by
 rw [List.getD_eq_getElem?_getD,List.getElem?_eq_getElem h];exact List.getElem_mem h
theorem Valid.fine {L:List Pt} {Hs:List (List Pt)} (h:Valid L Hs):Fine (L.map Pt.rp) (Hs.map fun l=>l.map Pt.rp):=by
 have get:∀ i,i<Hs.length→pts ((Hs.map fun l=>l.map Pt.rp).getD i [])=Hs.getD i []:=fun i hi=>by
  rw [List.getD_eq_getElem?_getD,List.getD_eq_getElem?_getD,List.getElem?_map,List.getElem?_eq_getElem hi];exact pts_rp _
 have get2:∀ i,i<Hs.length→(Hs.map fun l=>l.map Pt.rp).getD i []=(Hs.getD i []).map Pt.rp:=fun i hi=>by
  rw [List.getD_eq_getElem?_getD,List.getD_eq_getElem?_getD,List.getElem?_map,List.getElem?_eq_getElem hi];rfl
 have mem:∀ i,i<Hs.length→Hs.getD i []∈Hs:=fun i hi=>by rw [List.getD_eq_getElem?_getD,List.getElem?_eq_getElem hi];exact List.getElem_mem hi
 refine ⟨?_,rp_le h.out.ht,fun l hl=> ?_⟩
 ·unfold chkP
  rw [chkR_rp h.out.lo h.out.hi,h.out.ok,if_neg (fun k=>k rfl),List.length_map,if_neg (by have:=h.few;omega)]
  refine firstNz_none fun i hi=> ?_
  have r:=h.holes _ (mem i hi)
  have sep:∀ j,j<i→Sep (Hs.getD j []) (Hs.getD i []):=fun j hj=>by
   have:=List.pairwise_iff_getElem.1 h.pw j i (by omega) hi hj
   rw [List.getD_eq_getElem?_getD,List.getD_eq_getElem?_getD,List.getElem?_eq_getElem hi,List.getElem?_eq_getElem (show j<Hs.length by omega)]
   exact this
  unfold chkH
  rw [get2 i hi,chkR_rp r.lo r.hi,r.ok,if_neg (fun k=>k rfl),pts_rp,pts_rp,if_neg,if_neg,if_neg,if_neg]
  ·rintro ⟨h0,hle⟩
   rw [get (i-1) (by omega)] at hle
   have:=h.asc i h0 hi
   unfold cmpH at this
   omega
  ·rw [Bool.not_eq_true]
   refine anyTo_false fun j hj=> ?_
   have s:=sep j hj
   have rj:=h.holes _ (mem j (by omega))
   have l1:=r.lo
   have l2:=rj.lo
   rw [get j (by omega),withinB_odd s.nm.symm (by omega),withinB_odd s.nm (by omega),s.ab _ (getD_mem0 (by omega)),s.ba _ (getD_mem0 (by omega))]
   rfl
  ·have l1:=r.lo
   rw [withinB_odd (h.mo _ (mem i hi)) (by omega),h.wo _ (mem i hi) _ (getD_mem0 (by omega))]
   simp
  ·rw [not_or,Bool.not_eq_true,Bool.not_eq_true]
   refine ⟨(meetB_noMeet r h.out).2 (h.mo _ (mem i hi)),anyTo_false fun j hj=> ?_⟩
   rw [get j (by omega)]
   exact (meetB_noMeet r (h.holes _ (mem j (by omega)))).2 (sep j hj).nm.symm
 ·obtain ⟨l0,hl0,rfl⟩:=List.mem_map.1 hl
  have r:=h.holes l0 hl0
  exact ⟨by rw [List.length_map];have:=r.hi;omega,rp_le r.ht⟩
theorem Valid.check_pc {L:List Pt} {Hs:List (List Pt)} (h:Valid L Hs):PC prog 49 [cgV L Hs] (.prim (.int .i64 (0))):=by
 have:=h.fine.check_pc
 rw [pts_rp,List.map_map] at this
 have e:Hs.map (pts∘fun l=>l.map Pt.rp)=Hs:=by
  conv=>rhs;rw [←List.map_id Hs]
  exact List.map_congr_left fun l _=>pts_rp l
 rwa [e] at this
theorem edges_rotL (l:List Pt) {r:Nat} (h:r≤l.length):(edgesL (rotL l r)).Perm (edgesL l):=rotL_ind (fun m=>(edgesL m).Perm (edgesL l)) (fun m k=>(edges_rot1 m).trans k) (List.Perm.refl _) r h
theorem edges_startL {m:List Pt} (h:0<m.length):(edgesL (startL m)).Perm (edgesL m):=edges_rotL m (Nat.le_of_lt (leastTo_in h))
theorem edges_canonL {l:List Pt} (h:0<l.length):(edgesL (canonL l)).Perm (edgesL l)∨(edgesL (canonL l)).Perm ((edgesL l).map Sg.rev):=by
 unfold canonL
 split
 ·exact .inr ((edges_startL (by rw [List.length_reverse];exact h)).trans (edges_rev l))
 ·exact .inl (edges_startL h)
theorem mem_edges_canonL {l:List Pt} (h:0<l.length) {s:Sg} (hs:s∈edgesL (canonL l)):∃ s'∈edgesL l,s=s'∨s=s'.rev:=by
 rcases edges_canonL h with e|e
 ·exact ⟨s,e.mem_iff.1 hs,.inl rfl⟩
 ·obtain ⟨s',h1,rfl⟩:=List.mem_map.1 (e.mem_iff.1 hs)
  exact ⟨s',h1,.inr rfl⟩
theorem NoMeet.canonL {a b:List Pt} (h:NoMeet a b) (ha:0<a.length):NoMeet (canonL a) b:=by
 intro s hs t ht k
 obtain ⟨s',h1,rfl|rfl⟩:=mem_edges_canonL ha hs
 ·exact h _ h1 t ht k
 ·exact h _ h1 t ht k.rev1
theorem least_rot {m:List Pt} (h:0<m.length):leastTo (startL m) (startL m).length=0:=by
 have hk:=leastTo_in h
 have hn:(startL m).length=m.length:=startL_length h
 have h0:(startL m).getD 0 default=m.getD (leastTo m m.length) default:=by
  show (rotL m _).getD 0 default=_
  rw [rotL_getD (by omega) h,if_pos (by omega),Nat.add_zero]
 have le:∀ j,j<(startL m).length→cmpP ((startL m).getD 0 default) ((startL m).getD j default)≤0:=by
  intro j hj
  rw [hn] at hj
  have hm:(startL m).getD j default∈m:=startL_mem (by rw [List.getD_eq_getElem?_getD,List.getElem?_eq_getElem (by omega)];exact List.getElem_mem _)
  obtain ⟨i,hi,e⟩:=mem_getD hm
  rw [h0,←e]
  exact leastTo_spec _ _ hi
 have:∀ i,i≤(startL m).length→leastTo (startL m) i=0:=by
  intro i
  induction i with
  |zero=>intro _;rfl
  |succ i ih=>
   intro hi
   unfold leastTo
   rw [ih (by omega),if_neg]
   intro hc
   have e:=cmpP_antisymm (le i (by omega)) (Int.le_of_lt hc)
   rw [e,cmpP_self] at hc
   omega
 exact this _ (Nat.le_refl _)
theorem area_startL {m:List Pt} (h:0<m.length):areaL (startL m)=areaL m:=
 (rotL_ind (fun l=>1≤l.length∧areaL l=areaL m) (fun l k=>⟨by rw [rot1_length];exact k.1,by rw [area_rot1 k.1];exact k.2⟩) ⟨h,rfl⟩ _ (Nat.le_of_lt (leastTo_in h))).2
theorem area_canonL {l:List Pt} (h:0<l.length):areaL (canonL l)=if areaL l<0 then-areaL l else areaL l:=by
 unfold canonL
 split
 ·rw [area_startL (by rw [List.length_reverse];exact h),area_rev h]
 ·exact area_startL h
theorem Good.canonL {l:List Pt} (h:Good l):Good (canonL l):=by
 have hlo:=h.lo
 have st:∀ m,Good m→Good (startL m):=fun m hm=>rotL_ind Good (fun _ k=>k.rot1) hm _ (Nat.le_of_lt (leastTo_in (by have:=hm.lo;omega)))
 unfold Av.canonL
 split
 ·exact st _ h.rev
 ·exact st _ h
theorem Good.ring {l:List Pt} (h:Good l) (hi:l.length≤64) (hh:hl l (2^16)) (ha:areaL l≠0):Ring (Av.canonL l):=by
 have hlo:=h.lo
 have g:=h.canonL
 have hn:=canonL_length (l:=l) (by omega)
 refine ⟨g.lo,by omega,?_,fun p hp=>hh p (canonL_mem hp)⟩
 have hf:idxP (Av.canonL l).length (flatAt (Av.canonL l))= -1:=idxP_none fun i hi=>(g.keep i hi).2
 have hpos:0<areaL (Av.canonL l):=by
  rw [area_canonL (by omega)]
  rcases lt_tri (areaL l) 0 with k|k|k
  ·rw [if_pos k];grind
  ·exact absurd k ha
  ·rw [if_neg (by grind)];exact k
 have hz:leastTo (Av.canonL l) (Av.canonL l).length=0:=by
  unfold Av.canonL
  split
  ·exact least_rot (by rw [List.length_reverse];omega)
  ·exact least_rot (by omega)
 unfold chkC
 rw [hf,if_neg (by omega),g.crossB,if_neg (by simp),if_neg]
 rintro (k|k)
 ·exact absurd (cmpQ_le.1 k) (Rat.not_le.2 hpos)
 ·exact k hz
theorem NoMeet.map {a b:List Pt} (h:NoMeet a b) {t:Aff} (ht:t.det≠0):NoMeet (a.map t.ap) (b.map t.ap):=by
 intro s hs r hr k
 rw [edges_map] at hs hr
 obtain ⟨s',h1,rfl⟩:=List.mem_map.1 hs
 obtain ⟨r',h2,rfl⟩:=List.mem_map.1 hr
 exact h _ h1 _ h2 ((Common_ap ht).1 k)
theorem Sep.ne {a b:List Pt} (h:Sep a b) (ha:0<a.length) (hb:0<b.length):cmpH a b≠0:=by
 intro e
 have e:=cmpP_zero.1 e
 exact h.nm _ (seg_mem ha) _ (seg_mem hb) ⟨a.getD 0 default,onSeg_l _ _,by rw [e];exact onSeg_l _ _⟩
end Go.Av
namespace Go.Av
open Go.RowKit
open Go.Proofs.Tryz (prog)
def onE (l:List Pt) (q:Pt):Prop:=∃ s∈edgesL l,onSeg s.a s.b q
theorem onSeg_between {a b p:Pt} (h:onSeg a b p) (hne:a≠b):between a b p=true:=by
 have hx:ar a b p=0:=by
  obtain ⟨m,_,_,rfl⟩:=h
  rw [ar_pt,ar_l,ar_r];grind
 have hc:cmpP a b≠0:=fun e=>hne (cmpP_zero.1 e)
 have ho:orient a b p=0:=orient_ar.2 hx
 unfold between
 rw [decide_eq_true ho,decide_eq_true hc,Bool.true_and,Bool.true_or,Bool.and_true,decide_eq_true_eq]
 rcases cmpP_le_total a b with k|k
 ·obtain ⟨h1,h2⟩:=lex_between h k
  exact Int.mul_nonneg_of_nonpos_of_nonpos h1 h2
 ·obtain ⟨h1,h2⟩:=lex_between (onSeg_rev h) k
  have f:∀ {u v:Pt},cmpP u v≤0→0≤cmpP v u:=by
   intro u v k
   by_cases hz:0≤cmpP v u
   ·exact hz
   ·have e:=cmpP_antisymm k (by omega)
    rw [e,cmpP_self];omega
  exact Int.mul_nonneg (f h2) (f h1)
theorem onB_onE {l:List Pt} (h:Ring l) (q:Pt):onB l q=true↔onE l q:=by
 constructor
 ·intro k
  obtain ⟨i,hi,k⟩:=List.any_eq_true.1 k
  have hi:=List.mem_range.1 hi
  exact ⟨segOf l i,seg_mem hi,between_onSeg k⟩
 ·rintro ⟨s,hs,k⟩
  obtain ⟨i,hi,rfl⟩:=mem_edgesL hs
  exact onB_true hi (onSeg_between k (h.next_ne hi))
theorem Sep.off {a b:List Pt} (h:Sep a b) {q:Pt} (hq:onE a q):¬onE b q∧oddTo b q b.length=false:=by
 obtain ⟨s,hs,k⟩:=hq
 refine ⟨fun ⟨r,hr,k2⟩=>h.nm s hs r hr ⟨q,k,k2⟩,?_⟩
 obtain ⟨i,hi,rfl⟩:=mem_edgesL hs
 have hm:a.getD i default∈a:=by rw [List.getD_eq_getElem?_getD,List.getElem?_eq_getElem hi];exact List.getElem_mem hi
 rw [←h.ba _ hm]
 refine (odd_same fun j hj=> ?_).symm
 rintro ⟨p,⟨m,m0,m1,rfl⟩,k2⟩
 obtain ⟨n,n0,n1,rfl⟩:=k
 refine h.nm _ (seg_mem hi) _ (seg_mem hj) ⟨_,⟨m*n,Rat.mul_nonneg m0 n0,?_,?_⟩,k2⟩
 ·have:=Rat.mul_nonneg (show 0≤1-m by grind) n0
  grind
 ·have e:=pt_pt (a.getD i default) (nx a i) 0 n m
  have e0:pt (a.getD i default) (nx a i) 0=a.getD i default:=Pt.ext (by unfold pt;simp only;grind) (by unfold pt;simp only;grind)
  rw [e0] at e
  show pt (a.getD i default) (pt (a.getD i default) (nx a i) n) m=_
  rw [e,show (0:Rat)+m*(n-0)=m*n by grind];rfl
theorem sideS_one {l:List Pt} {q:Pt}:sideS l q=0∨sideS l q=1∨sideS l q= -1:=by
 unfold sideS
 split
 ·exact .inl rfl
 ·split
  ·exact .inr (.inl rfl)
  ·exact .inr (.inr rfl)
theorem where_eq {L:List Pt} {Hs:List (List Pt)} (h:Valid L Hs) (q:Pt):
 (sideS L q≤0→whereS L Hs q=sideS L q)∧(sideS L q=1→((∃ x∈Hs,sideS x q=0)→whereS L Hs q=0)∧((¬∃ x∈Hs,sideS x q=0)→(∃ x∈Hs,sideS x q=1)→whereS L Hs q= -1)∧((∀ x∈Hs,sideS x q= -1)→whereS L Hs q=1)):=by
 have r0:ringSide (L::Hs) q 0=sideS L q:=rfl
 have rs:∀ i,ringSide (L::Hs) q (i+1)= -sideS (Hs.getD i []) q:=fun i=>by
  unfold ringSide;rw [if_pos (Nat.succ_pos i),List.getD_cons_succ]
 have mem:∀ i,i<Hs.length→Hs.getD i []∈Hs:=fun i hi=>by rw [List.getD_eq_getElem?_getD,List.getElem?_eq_getElem hi];exact List.getElem_mem hi
 unfold whereS
 constructor
 ·intro k
  exact firstLe_found (i:=0) (by omega) (by rw [r0];exact k) (fun j hj=>by omega)
 ·intro k
  refine ⟨?_,?_,?_⟩
  ·rintro ⟨x,hx,h0⟩
   have ex:∃ i,i<Hs.length∧sideS (Hs.getD i []) q=0:=by
    obtain ⟨i,hi,rfl⟩:=List.mem_iff_getElem.1 hx
    exact ⟨i,hi,by rw [List.getD_eq_getElem?_getD,List.getElem?_eq_getElem hi];exact h0⟩
   have ex2:∃ i,i<Hs.length∧sideS (Hs.getD i []) q=0∧∀ j,j<i→sideS (Hs.getD j []) q≠0:=by
    obtain ⟨i,hi⟩:=ex
    induction i using Nat.strongRecOn with
    |_ i ih=>
     by_cases hj:∃ j,j<i∧sideS (Hs.getD j []) q=0
     ·obtain ⟨j,hj,e⟩:=hj;exact ih j hj ⟨by omega,e⟩
     ·exact ⟨i,hi.1,hi.2,fun j hji e=>hj ⟨j,hji,e⟩⟩
   obtain ⟨i,hi,e,hb⟩:=ex2
   rw [firstLe_found (i:=i+1) (by omega) (by rw [rs,e];omega) ?_,rs,e];rfl
   intro j hj
   rcases j with _|j
   ·rw [r0,k];omega
   ·rw [rs]
    have ne:=hb j (by omega)
    have sep:Sep (Hs.getD j []) (Hs.getD i []):=by
     have:=List.pairwise_iff_getElem.1 h.pw j i (by omega) hi (by omega)
     rw [List.getD_eq_getElem?_getD,List.getD_eq_getElem?_getD,List.getElem?_eq_getElem hi,List.getElem?_eq_getElem (show j<Hs.length by omega)]
     exact this
    have hon:onE (Hs.getD i []) q:=by
     refine (onB_onE (h.holes _ (mem i hi)) q).1 ?_
     unfold sideS at e
     split at e
     ·assumption
     ·split at e<;>cases e
    have of:=(sep.symm.off hon).2
    unfold sideS at ne ⊢
    split
    ·rename_i hh;rw [if_pos hh] at ne;exact absurd rfl ne
    ·rw [of];simp
  ·intro n0 hx
   have ex:∃ i,i<Hs.length∧sideS (Hs.getD i []) q=1:=by
    obtain ⟨x,hx,h0⟩:=hx
    obtain ⟨i,hi,rfl⟩:=List.mem_iff_getElem.1 hx
    exact ⟨i,hi,by rw [List.getD_eq_getElem?_getD,List.getElem?_eq_getElem hi];exact h0⟩
   have ex2:∃ i,i<Hs.length∧sideS (Hs.getD i []) q=1∧∀ j,j<i→sideS (Hs.getD j []) q≠1:=by
    obtain ⟨i,hi⟩:=ex
    induction i using Nat.strongRecOn with
    |_ i ih=>
     by_cases hj:∃ j,j<i∧sideS (Hs.getD j []) q=1
     ·obtain ⟨j,hj,e⟩:=hj;exact ih j hj ⟨by omega,e⟩
     ·exact ⟨i,hi.1,hi.2,fun j hji e=>hj ⟨j,hji,e⟩⟩
   obtain ⟨i,hi,e,hb⟩:=ex2
   rw [firstLe_found (i:=i+1) (by omega) (by rw [rs,e];omega) ?_,rs,e]
   intro j hj
   rcases j with _|j
   ·rw [r0,k];omega
   ·rw [rs]
    have ne:=hb j (by omega)
    have ne0:sideS (Hs.getD j []) q≠0:=fun e=>n0 ⟨_,mem j (by omega),e⟩
    rcases sideS_one (l:=Hs.getD j []) (q:=q) with e|e|e
    ·exact absurd e ne0
    ·exact absurd e ne
    ·omega
  ·intro ha
   refine firstLe_none fun j hj=> ?_
   rcases j with _|j
   ·rw [r0,k];omega
   ·rw [rs,ha _ (mem j (by omega))];omega
end Go.Av
