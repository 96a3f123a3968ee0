/- Helping texts: Fa, Fs, Fb, Fc, Ft, Fd, Fe, Fg, Fh, Fi, Mh, Mi. -/
import Derived.Test.YtkmlhdfpcjkekaaGreatKDj
import Derived.Test.YtkmlhdfpcjkekaaGreatKAx
import Derived.Test.YtkmlhdfpcjkekaaGreatKDn
import Derived.Test.YtkmlhdfpcjkekaaGreatKMe
import Derived.Test.YtkmlhdfpcjkekaaGreatKDa
import Derived.Test.YtkmlhdfpcjkekaaGreatKDv
set_option linter.unusedSimpArgs false
set_option linter.unusedVariables false
set_option maxRecDepth 100000
set_option maxHeartbeats 16000000
namespace Go.Av
open Go.RowKit
open Go.Proofs.Tryz (prog)
def NewL (H:Hp) (l:List Pt) (K:V→Hp→Prop):Prop:=∀ b H',Ext H H'→H.length≤b→get H' b=some (.row 6 true (l.map pc))→K (.sref b 0 l.length l.length 6 false) H'
theorem Pu (l:List Pt) (hne:l≠[]) (hn:l.length≤2^30) {H:Hp} {K:V→Hp→Prop} (hK:NewL H l K):SC prog 113 [psV l] H K:=by
 obtain ⟨p,t,rfl⟩:∃ p t,l=p::t:=by
  cases l with
  |nil=>exact absurd rfl hne
  |cons p t=>exact ⟨p,t,rfl⟩
 have e:∀ x,eqA (aD prog) 9 22 (.lst 6 (x::t.map pc)) (.prim (.slice none 0 0))=some false:=by
  intro x;unfold eqA;simp only [RT]
 refine SCi ?_
 conv in bL _ _=>cbv
 simp only [bM,RN,simprocAttr]
 simp (disch:=omega) only [↓RS,RZ,simprocAttr,psV,aY,e,LD]
 refine ⟨fun y hy v hv=>by obtain ⟨s,_,rfl⟩:=av.1 (show y∈(p::t).map pc from hy);simp only [pc,ay,List.not_mem_nil,or_false] at hv;rcases hv with rfl|rfl|rfl|rfl|rfl|rfl<;>rfl,?_⟩
 simp only [bo]
 have hl:((p::t).map pc).length=(p::t).length:=az ..
 refine ⟨trivial,by simp,.inr (.inl ⟨trivial,?_,?_,?_,?_⟩)⟩
 ·show 0<0+((p::t).map pc).length;rw [hl];simp
 ·show (0+((p::t).map pc).length)*80≤_;rw [hl];omega
 ·show 0+((p::t).map pc).length≤_;rw [hl];omega
 have:=hK (H++[some (Blk.row 6 true [])]).length (H++[some (Blk.row 6 true [])]++[some (Blk.row 6 true ((p::t).map pc))]) ((Ext.app _).trans (Ext.app _)) (by rw [aK];omega) bo
 have hl2:(pc p::List.map pc t).length=(p::t).length:=hl
 rw [hl2]
 simp only [aY] at this
 simp (disch:=omega) only [↓RS,RZ,simprocAttr]
 exact this
end Go.Av
namespace Go.Av
open Go.RowKit
variable {P:Program} {H:Hp}
structure FnS (P:Program) (f:FuncId) (k:Nat) (rs:List ResultVar) (lc:LC):Prop where
 ex:∃ fn c d x y,P.funcs[f]? =some fn∧fn.body=some (.seq c (.scope d))∧mf c=some x∧mf d=some y∧r8 c=true∧r8 d=true∧(fn.name== "runtime.NumGoroutine")=false∧fn.ntmps=k∧fn.results.toList=rs∧lc= .seq x y
theorem FnS.call {f:FuncId} {k:Nat} {rs:List ResultVar} {lc:LC} (h:FnS P f k rs lc) (xs:Array Value) (W:World):(callFunc f xs).run P W= .ok (.enter f xs) W:=by
 obtain ⟨fn,c,d,x,y,h1,h2,_,_,_,_,h5,_⟩:=h.ex
 simp [callFunc,Sem.run_bind,h1,h2]
 simpa using h5
def lcS (P:Program) (f:FuncId):LC:=match P.funcs[f]? with
 |some fn=>match fn.body with
  |some (.seq c (.scope d))=> .seq (oX c) (oX d)
  |_=> .skip
 |none=> .skip
def fnS (P:Program) (f:FuncId):Bool:=match P.funcs[f]? with
 |some fn=>match fn.body with
  |some (.seq c (.scope d))=>(mf c).isSome&&(mf d).isSome&&r8 c&&r8 d&& !(fn.name== "runtime.NumGoroutine")
  |_=>false
 |none=>false
theorem FnS.of {f:FuncId} (h:fnS P f=true):FnS P f (Ik P f) (H8 P f) (lcS P f):=by
 unfold fnS at h
 split at h
 ·rename_i fn h1
  unfold Ik H8 lcS
  rw [h1]
  split at h
  ·rename_i c d h2
   simp only [Bool.and_eq_true,Bool.not_eq_true'] at h
   obtain ⟨⟨⟨⟨p1,p2⟩,p3⟩,p4⟩,p5⟩:=h
   obtain ⟨x,hx⟩:=Option.isSome_iff_exists.1 p1
   obtain ⟨y,hy⟩:=Option.isSome_iff_exists.1 p2
   refine ⟨fn,c,d,x,y,h1,h2,hx,hy,p3,p4,p5,rfl,rfl,?_⟩
   simp only [h2,AE c x hx,AE d y hy]
  ·cases h
 ·cases h
end Go.Av
namespace Go.Av
open Go.RowKit
open Go.Proofs.Tryz (prog)
end Go.Av
namespace Go.Av
open Go.RowKit
open Go.Proofs.Tryz (prog)
end Go.Av
namespace Go.Av
open Go.RowKit
variable {P:Program} {H:Hp}
end Go.Av
namespace Go.Av
open Go.RowKit
open Go.Proofs.Tryz (prog)
theorem qh {L:List Pt} (h:0<L.length):gA L L.length<L.length:=vm h
end Go.Av
namespace Go.Av
open Go.RowKit
open Go.Proofs.Tryz (prog)
def QY (a b:List Pt):Int:=bO (a.getD 0 default) (b.getD 0 default)
end Go.Av
open Nat (reduceAdd reduceLT reduceLeDiff reducePow reduceDiv reduceMod reduceEqDiff)
namespace Go.Av
open Go.RowKit
open Go.Proofs.Tryz (prog)
theorem SW {φ:Nat→Option Loc} {I:Nat→Prop} {w:World} {x:Value} (h:VR φ I w (.prim (.slice none 0 0)) x):VR φ I w (.lst 1 []) x:=by cases h;exact .lnil
theorem Rs {φ:Nat→Option Loc} {I:Nat→Prop} {w:World} {a:V} {x:Value} (h:VR φ I w (.agg [a,.prim (.slice none 0 0)]) x):VR φ I w (.agg [a,.lst 1 []]) x:=by
 cases h with
 |agg h1 hx=>
  refine .agg h1 fun k v x hv hxk=> ?_
  match k,hv with
  |0,hv=>exact hx 0 v x hv hxk
  |1,hv=>cases hv;exact SW (hx 1 _ x rfl hxk)
  |k+2,hv=>simp at hv
theorem S0 {P:Program} {f:FuncId} {v v':V} {vs:List V} {r:V} (hv:∀ I w x,VR (fun _=>none) I w v x→VR (fun _=>none) I w v' x) (h:PC P f (v'::vs) r):PC P f (v::vs) r:=fun I w xs hI hxs=>
 h I w xs hI ⟨hxs.len,fun k u x hu hx=>by
  match k,hu with
  |0,hu=>cases hu;exact hv I w x (hxs.at_ 0 v x rfl hx)
  |k+1,hu=>exact hxs.at_ (k+1) u x hu hx⟩
theorem KF {P:Program} {f:FuncId} {a:V} {vs:List V} {r:V} (h:PC P f (.agg [a,.lst 1 []]::vs) r):PC P f (.agg [a,.prim (.slice none 0 0)]::vs) r:=S0 (fun _ _ _ h=>Rs h) h
structure Can (l:List Pt):Prop where
 lo:3≤l.length
 hi:l.length≤64
 ht:hl l (2^16)
 kp:Ka l
 cx:crossB l=false
theorem qR {m:List Pt} (h:0<m.length):(mS m).length=m.length:=Ge (Nat.le_of_lt (qh h))
theorem CA {l:List Pt} (h:0<l.length):(canonL l).length=l.length:=by
 unfold canonL
 split
 ·rw [qR (by rw [List.length_reverse];exact h),List.length_reverse]
 ·exact qR h
theorem vf {m:List Pt} {p:Pt} (h:p∈mS m):p∈m:=by
 rcases aF.1 h with h|h
 ·exact List.mem_of_mem_drop h
 ·exact List.mem_of_mem_take h
theorem I0 {l:List Pt} {p:Pt} (h:p∈canonL l):p∈l:=by
 unfold canonL at h
 split at h
 ·exact List.mem_reverse.1 (vf h)
 ·exact vf h
theorem Can.get {L:List Pt} {Hs:List (List Pt)} (h:∀ l∈L::Hs,Can l) {i:Nat} (hi:i≤Hs.length):Can ((L::Hs).getD i []):=by
 rw [ae,af (by simp only [aC];omega)]
 exact h _ (bx _)
end Go.Av
namespace Go.Av
open Go.RowKit
open Go.Proofs.Tryz (prog)
end Go.Av
namespace Go.Av
open Go.RowKit
open Go.Proofs.Tryz (prog)
def Asc (Hs:List (List Pt)):Prop:=∀ i,0<i→i<Hs.length→QY (Hs.getD (i-1) []) (Hs.getD i [])<0
theorem m5.asc {O:List Rp} {hs:List (List Rp)} (h:m5 O hs):Asc (hs.map pts):=by
 have get:∀ i,i<hs.length→(hs.map pts).getD i []=pts (hs.getD i []):=fun i hi=>by
  rw [ae,ae,aW,af hi];rfl
 intro i h0 hi
 rw [az] at hi
 rw [get i hi,get (i-1) (by omega)]
 have hz:=h.hz i hi
 unfold zm at hz
 rw [if_neg (by intro h2;exact h2 (rL (h.hz i hi)))] at hz
 split at hz
 ·cases hz
 split at hz
 ·cases hz
 split at hz
 ·cases hz
 split at hz
 ·cases hz
 ·rename_i hx
  unfold QY
  exact Int.not_le.1 fun hle=>hx ⟨h0,hle⟩
theorem jo.can {R:List Pt} (h:jo R):Can R:=⟨h.lo,h.hi,h.ht,h.good.keep,h.good.crossB⟩
end Go.Av
namespace Go.Av
open Go.RowKit
open Go.Proofs.Tryz (prog)
def jC (A B:List Pt):Prop:=∀ s∈aU A,∀ t∈aU B,¬ez s.a s.b t.a t.b
theorem jC.symm {A B:List Pt} (h:jC A B):jC B A:=fun s hs t ht k=>h t ht s hs k.symm
theorem kC {A:List Pt} {i:Nat} (hi:i<A.length):b9 A i∈aU A:=av.2 ⟨i,dz.2 hi,rfl⟩
theorem nZ {A B:List Pt} (hA:jo A) (hB:jo B):qg A B=false↔jC A B:=by
 constructor
 ·intro h s hs t ht hc
  obtain ⟨i,hi,rfl⟩:=nq hs
  obtain ⟨k,hk,rfl⟩:=nq ht
  rw [vj hi hk (Dr (hA.seg_ok hi) (hB.seg_ok hk) hc)] at h
  cases h
 ·intro h
  refine yA fun i hi k hk=> ?_
  have:¬(iI (b9 A i) (b9 B k)).isSome=true:=fun hm=>h _ (kC hi) _ (kC hk) (yr hm)
  rwa [Bool.not_eq_true] at this
theorem jC.free {A B:List Pt} (h:jC A B) {i:Nat} (hi:i<A.length):∀ s∈aU B,¬aJ s.a s.b (A.getD i default):=fun s hs k=>h _ (kC hi) s hs ⟨_,j8 _ _,k⟩
theorem jC.freeP {A B:List Pt} (h:jC A B) {p:Pt} (hp:p∈A):∀ s∈aU B,¬aJ s.a s.b p:=by
 obtain ⟨i,hi,rfl⟩:=nY hp
 exact h.free hi
theorem pW {A B:List Pt} (h:jC A B):∀ {i:Nat},i<A.length→bW B (A.getD i default) B.length=bW B (A.getD 0 default) B.length
 |0,_=>rfl
 |i+1,hi=>by
  rw [←pW h (show i<A.length by omega)]
  have e:A.getD (i+1) default=nx A i:=by rw [oC (by omega)];unfold sc;rw [if_neg (by omega)]
  rw [e]
  exact (qf fun j hj=>h (b9 A i) (kC (by omega)) (b9 B j) (kC hj)).symm
theorem nE {A B:List Pt} (h:jC A B) (h0:0<A.length):kL A B=bW B (A.getD 0 default) B.length:=by
 have hb:onB B (A.getD 0 default)=false:=xr fun i hi=>by
  have:=h.free h0 (b9 B i) (kC hi)
  cases hx:gY (B.getD i default) (nx B i) (A.getD 0 default) with
  |false=>rfl
  |true=>exact absurd (k9 hx) this
 unfold kL fI
 rw [hb]
 cases bW B (A.getD 0 default) B.length<;>simp
structure Sep (a b:List Pt):Prop where
 nm:jC a b
 ab:∀ p∈b,bW a p a.length=false
 ba:∀ p∈a,bW b p b.length=false
theorem Sep.symm {a b:List Pt} (h:Sep a b):Sep b a:=⟨h.nm.symm,h.ba,h.ab⟩
structure da (L:List Pt) (Hs:List (List Pt)):Prop where
 out:jo L
 holes:∀ h∈Hs,jo h
 few:Hs.length≤8
 mo:∀ h∈Hs,jC h L
 wo:∀ h∈Hs,∀ p∈h,bW L p L.length=true
 pw:Hs.Pairwise Sep
 asc:Asc Hs
theorem da.rgs {L:List Pt} {Hs:List (List Pt)} (h:da L Hs):Rgs L Hs:=⟨h.out,h.holes,h.few⟩
theorem m5.valid {O:List Rp} {hs:List (List Rp)} (h:m5 O hs):da (pts O) (hs.map pts):=by
 have hr:=h.rgs
 have get:∀ i,i<hs.length→(hs.map pts).getD i []=pts (hs.getD i []):=fun i hi=>by
  rw [ae,ae,aW,af hi];rfl
 have ring:∀ i,i<hs.length→jo (pts (hs.getD i [])):=fun i hi=>by
  rw [←get i hi];exact hr.hole (by rw [az];exact hi)
 have key:∀ i,i<hs.length→jC (pts (hs.getD i [])) (pts O)∧(∀ j,j<i→jC (pts (hs.getD i [])) (pts (hs.getD j [])))∧kL (pts (hs.getD i [])) (pts O)=true∧
  ∀ j,j<i→kL (pts (hs.getD i [])) (pts (hs.getD j []))=false∧kL (pts (hs.getD j [])) (pts (hs.getD i []))=false:=by
  intro i hi
  have hz:=h.hz i hi
  unfold zm at hz
  rw [if_neg (by intro h2;exact h2 (rL (h.hz i hi)))] at hz
  split at hz
  ·cases hz
  rename_i x1
  split at hz
  ·cases hz
  rename_i x2
  split at hz
  ·cases hz
  rename_i x3
  rw [not_or,Bool.not_eq_true,Bool.not_eq_true] at x1
  rw [Bool.not_eq_false] at x2
  rw [Bool.not_eq_true] at x3
  refine ⟨(nZ (ring i hi) hr.out).1 x1.1,fun j hj=>(nZ (ring i hi) (ring j (by omega))).1 (mP x1.2 hj),x2,fun j hj=> ?_⟩
  have:=mP x3 hj
  rwa [Bool.or_eq_false_iff] at this
 have mem:∀ l∈hs.map pts,∃ i,i<hs.length∧l=pts (hs.getD i []):=by
  intro l hl
  obtain ⟨i,hi,rfl⟩:=bK.1 hl
  rw [az] at hi
  refine ⟨i,hi,?_⟩
  rw [←get i hi,ae,af (by rw [az];exact hi)];rfl
 refine ⟨hr.out,hr.holes,hr.few,fun l hl=> ?_,fun l hl p hp=> ?_,?_,h.asc⟩
 ·obtain ⟨i,hi,rfl⟩:=mem l hl
  exact (key i hi).1
 ·obtain ⟨i,hi,rfl⟩:=mem l hl
  obtain ⟨k1,_,k3,_⟩:=key i hi
  have r:=ring i hi
  rw [nE k1 (by have:=r.lo;omega)] at k3
  obtain ⟨j,hj,rfl⟩:=nY hp
  rw [pW k1 hj];exact k3
 ·rw [bN]
  intro j i hj hi hlt
  rw [az] at hi hj
  obtain ⟨_,k2,_,k4⟩:=key i hi
  have e:∀ k (hk:k<hs.length),(hs.map pts)[k]'(by rw [az];exact hk)=pts (hs.getD k []):=fun k hk=>by
   rw [List.getElem_map,ae,af hk];rfl
  rw [e i hi,e j hj]
  have nm:=k2 j hlt
  obtain ⟨w1,w2⟩:=k4 j hlt
  have ri:=ring i hi
  have rj:=ring j hj
  rw [nE nm (by have:=ri.lo;omega)] at w1
  rw [nE nm.symm (by have:=rj.lo;omega)] at w2
  refine ⟨nm.symm,fun p hp=> ?_,fun p hp=> ?_⟩
  ·obtain ⟨k,hk,rfl⟩:=nY hp
   rw [pW nm hk];exact w1
  ·obtain ⟨k,hk,rfl⟩:=nY hp
   rw [pW nm.symm hk];exact w2
theorem xJ {l:List Pt} (h:0<l.length):l.getD 0 default∈l:=by
 rw [ae,af h];exact bx h
theorem da.fine {L:List Pt} {Hs:List (List Pt)} (h:da L Hs):m5 (L.map Pt.rp) (Hs.map fun l=>l.map Pt.rp):=by
 have get:∀ i,i<Hs.length→pts ((Hs.map fun l=>l.map Pt.rp).getD i [])=Hs.getD i []:=fun i hi=>by
  rw [ae,ae,aW,af hi];exact vg _
 have get2:∀ i,i<Hs.length→(Hs.map fun l=>l.map Pt.rp).getD i []=(Hs.getD i []).map Pt.rp:=fun i hi=>by
  rw [ae,ae,aW,af hi];rfl
 have mem:∀ i,i<Hs.length→Hs.getD i []∈Hs:=fun i hi=>by rw [ae,af hi];exact bx hi
 refine ⟨?_,Gd h.out.ht,fun l hl=> ?_⟩
 ·unfold Fr
  rw [zJ h.out.lo h.out.hi,h.out.ok,if_neg (fun k=>k rfl),az,if_neg (by have:=h.few;omega)]
  refine su fun i hi=> ?_
  have r:=h.holes _ (mem i hi)
  have sep:∀ j,j<i→Sep (Hs.getD j []) (Hs.getD i []):=fun j hj=>by
   have:=bN.1 h.pw j i (by omega) hi hj
   rw [ae,ae,af hi,af (show j<Hs.length by omega)]
   exact this
  unfold zm
  rw [get2 i hi,zJ r.lo r.hi,r.ok,if_neg (fun k=>k rfl),vg,vg,if_neg,if_neg,if_neg,if_neg]
  ·rintro ⟨h0,hle⟩
   rw [get (i-1) (by omega)] at hle
   have:=h.asc i h0 hi
   unfold QY at this
   omega
  ·rw [Bool.not_eq_true]
   refine lQ fun j hj=> ?_
   have s:=sep j hj
   have rj:=h.holes _ (mem j (by omega))
   have l1:=r.lo
   have l2:=rj.lo
   rw [get j (by omega),nE s.nm.symm (by omega),nE s.nm (by omega),s.ab _ (xJ (by omega)),s.ba _ (xJ (by omega))]
   rfl
  ·have l1:=r.lo
   rw [nE (h.mo _ (mem i hi)) (by omega),h.wo _ (mem i hi) _ (xJ (by omega))]
   simp
  ·rw [not_or,Bool.not_eq_true,Bool.not_eq_true]
   refine ⟨(nZ r h.out).2 (h.mo _ (mem i hi)),lQ fun j hj=> ?_⟩
   rw [get j (by omega)]
   exact (nZ r (h.holes _ (mem j (by omega)))).2 (sep j hj).nm.symm
 ·obtain ⟨l0,hl0,rfl⟩:=av.1 hl
  have r:=h.holes l0 hl0
  exact ⟨by rw [az];have:=r.hi;omega,Gd r.ht⟩
theorem da.check_pc {L:List Pt} {Hs:List (List Pt)} (h:da L Hs):PC prog 49 [cgV L Hs] (.prim (.int .i64 (0))):=by
 have:=h.fine.check_pc
 rw [vg,List.map_map] at this
 have e:Hs.map (pts∘fun l=>l.map Pt.rp)=Hs:=by
  conv=>rhs;rw [←List.map_id Hs]
  exact List.map_congr_left fun l _=>vg l
 rwa [e] at this
theorem IP (l:List Pt) {r:Nat} (h:r≤l.length):(aU (zh l r)).Perm (aU l):=v6 (fun m=>(aU m).Perm (aU l)) (fun m k=>(IQ m).trans k) (List.Perm.refl _) r h
theorem wK {m:List Pt} (h:0<m.length):(aU (mS m)).Perm (aU m):=IP m (Nat.le_of_lt (qh h))
theorem Ff {l:List Pt} (h:0<l.length):(aU (canonL l)).Perm (aU l)∨(aU (canonL l)).Perm ((aU l).map Sg.rev):=by
 unfold canonL
 split
 ·exact .inr ((wK (by rw [List.length_reverse];exact h)).trans (LZ l))
 ·exact .inl (wK h)
theorem xt {l:List Pt} (h:0<l.length) {s:Sg} (hs:s∈aU (canonL l)):∃ s'∈aU l,s=s'∨s=s'.rev:=by
 rcases Ff h with e|e
 ·exact ⟨s,e.mem_iff.1 hs,.inl rfl⟩
 ·obtain ⟨s',h1,rfl⟩:=av.1 (e.mem_iff.1 hs)
  exact ⟨s',h1,.inr rfl⟩
theorem jC.canonL {a b:List Pt} (h:jC a b) (ha:0<a.length):jC (canonL a) b:=by
 intro s hs t ht k
 obtain ⟨s',h1,rfl|rfl⟩:=xt ha hs
 ·exact h _ h1 t ht k
 ·exact h _ h1 t ht k.rev1
theorem DG {m:List Pt} (h:0<m.length):gA (mS m) (mS m).length=0:=by
 have hk:=qh h
 have hn:(mS m).length=m.length:=qR h
 have h0:(mS m).getD 0 default=m.getD (gA m m.length) default:=by
  show (zh m _).getD 0 default=_
  rw [K8 (by omega) h,if_pos (by omega),Nat.add_zero]
 have le:∀ j,j<(mS m).length→bO ((mS m).getD 0 default) ((mS m).getD j default)≤0:=by
  intro j hj
  rw [hn] at hj
  have hm:(mS m).getD j default∈m:=vf (by rw [ae,af (by omega)];exact bx _)
  obtain ⟨i,hi,e⟩:=nY hm
  rw [h0,←e]
  exact wu _ _ hi
 have:∀ i,i≤(mS m).length→gA (mS m) i=0:=by
  intro i
  induction i with
  |zero=>intro _;rfl
  |succ i ih=>
   intro hi
   unfold gA
   rw [ih (by omega),if_neg]
   intro hc
   have e:=q9 (le i (by omega)) (Int.le_of_lt hc)
   rw [e,iZ] at hc
   omega
 exact this _ (ax _)
theorem y5 {m:List Pt} (h:0<m.length):jB (mS m)=jB m:=
 (v6 (fun l=>1≤l.length∧jB l=jB m) (fun l k=>⟨by rw [lO];exact k.1,by rw [Mr k.1];exact k.2⟩) ⟨h,rfl⟩ _ (Nat.le_of_lt (qh h))).2
theorem Hy {l:List Pt} (h:0<l.length):jB (canonL l)=if jB l<0 then-jB l else jB l:=by
 unfold canonL
 split
 ·rw [y5 (by rw [List.length_reverse];exact h),PB h]
 ·exact y5 h
theorem mj.canonL {l:List Pt} (h:mj l):mj (canonL l):=by
 have hlo:=h.lo
 have st:∀ m,mj m→mj (mS m):=fun m hm=>v6 mj (fun _ k=>k.rot1) hm _ (Nat.le_of_lt (qh (by have:=hm.lo;omega)))
 unfold Av.canonL
 split
 ·exact st _ h.rev
 ·exact st _ h
theorem mj.ring {l:List Pt} (h:mj l) (hi:l.length≤64) (hh:hl l (2^16)) (ha:jB l≠0):jo (Av.canonL l):=by
 have hlo:=h.lo
 have g:=h.canonL
 have hn:=CA (l:=l) (by omega)
 refine ⟨g.lo,by omega,?_,fun p hp=>hh p (I0 hp)⟩
 have hf:oa (Av.canonL l).length (pi (Av.canonL l))= -1:=ki fun i hi=>(g.keep i hi).2
 have hpos:0<jB (Av.canonL l):=by
  rw [Hy (by omega)]
  rcases eH (jB l) 0 with k|k|k
  ·rw [if_pos k];grind
  ·exact absurd k ha
  ·rw [if_neg (by grind)];exact k
 have hz:gA (Av.canonL l) (Av.canonL l).length=0:=by
  unfold Av.canonL
  split
  ·exact DG (by rw [List.length_reverse];omega)
  ·exact DG (by omega)
 unfold Fu
 rw [hf,if_neg (by omega),g.crossB,if_neg (by simp),if_neg]
 rintro (k|k)
 ·exact absurd (sE.1 k) (Rat.not_le.2 hpos)
 ·exact k hz
theorem jC.map {a b:List Pt} (h:jC a b) {t:Aff} (ht:t.det≠0):jC (a.map t.ap) (b.map t.ap):=by
 intro s hs r hr k
 rw [l7] at hs hr
 obtain ⟨s',h1,rfl⟩:=av.1 hs
 obtain ⟨r',h2,rfl⟩:=av.1 hr
 exact h _ h1 _ h2 ((x8 ht).1 k)
theorem Sep.ne {a b:List Pt} (h:Sep a b) (ha:0<a.length) (hb:0<b.length):QY a b≠0:=by
 intro e
 have e:=c7.1 e
 exact h.nm _ (kC ha) _ (kC hb) ⟨a.getD 0 default,j8 _ _,by rw [e];exact j8 _ _⟩
end Go.Av
namespace Go.Av
open Go.RowKit
open Go.Proofs.Tryz (prog)
def EU (g:List Pt→Rat):List (List Pt)→Rat
 |[]=>0
 |p::t=>g p+EU g t
def onE (l:List Pt) (q:Pt):Prop:=∃ s∈aU l,aJ s.a s.b q
theorem oP {a b p:Pt} (h:aJ a b p) (hne:a≠b):gY a b p=true:=by
 have hx:ar a b p=0:=by
  obtain ⟨m,_,_,rfl⟩:=h
  rw [jn,pk,pj];grind
 have hc:bO a b≠0:=fun e=>hne (c7.1 e)
 have ho:fB a b p=0:=xn.2 hx
 unfold gY
 rw [an ho,an hc,Bool.true_and,Bool.true_or,Bool.and_true,aE]
 rcases l8 a b with k|k
 ·obtain ⟨h1,h2⟩:=qC h k
  exact Int.mul_nonneg_of_nonpos_of_nonpos h1 h2
 ·obtain ⟨h1,h2⟩:=qC (cH h) k
  have f:∀ {u v:Pt},bO u v≤0→0≤bO v u:=by
   intro u v k
   by_cases hz:0≤bO v u
   ·exact hz
   ·have e:=q9 k (by omega)
    rw [e,iZ];omega
  exact Int.mul_nonneg (f h2) (f h1)
theorem r9 {l:List Pt} (h:jo l) (q:Pt):onB l q=true↔onE l q:=by
 constructor
 ·intro k
  obtain ⟨i,hi,k⟩:=List.any_eq_true.1 k
  have hi:=dz.1 hi
  exact ⟨b9 l i,kC hi,k9 k⟩
 ·rintro ⟨s,hs,k⟩
  obtain ⟨i,hi,rfl⟩:=nq hs
  exact Gz hi (oP k (h.next_ne hi))
theorem Sep.off {a b:List Pt} (h:Sep a b) {q:Pt} (hq:onE a q):¬onE b q∧bW b q b.length=false:=by
 obtain ⟨s,hs,k⟩:=hq
 refine ⟨fun ⟨r,hr,k2⟩=>h.nm s hs r hr ⟨q,k,k2⟩,?_⟩
 obtain ⟨i,hi,rfl⟩:=nq hs
 have hm:a.getD i default∈a:=by rw [ae,af hi];exact bx hi
 rw [←h.ba _ hm]
 refine (qf fun j hj=> ?_).symm
 rintro ⟨p,⟨m,m0,m1,rfl⟩,k2⟩
 obtain ⟨n,n0,n1,rfl⟩:=k
 refine h.nm _ (kC hi) _ (kC hj) ⟨_,⟨m*n,aj m0 n0,?_,?_⟩,k2⟩
 ·have:=aj (show 0≤1-m by grind) n0
  grind
 ·have e:=pn (a.getD i default) (nx a i) 0 n m
  have e0:pt (a.getD i default) (nx a i) 0=a.getD i default:=Pt.ext (by unfold pt;simp only;grind) (by unfold pt;simp only;grind)
  rw [e0] at e
  show pt (a.getD i default) (pt (a.getD i default) (nx a i) n) m=_
  rw [e,show (0:Rat)+m*(n-0)=m*n by grind];rfl
theorem rm {l:List Pt} {q:Pt}:fI l q=0∨fI l q=1∨fI l q= -1:=by
 unfold fI
 split
 ·exact .inl rfl
 ·split
  ·exact .inr (.inl rfl)
  ·exact .inr (.inr rfl)
theorem FS {L:List Pt} {Hs:List (List Pt)} (h:da L Hs) (q:Pt):
 (fI L q≤0→gE L Hs q=fI L q)∧(fI L q=1→((∃ x∈Hs,fI x q=0)→gE L Hs q=0)∧((¬∃ x∈Hs,fI x q=0)→(∃ x∈Hs,fI x q=1)→gE L Hs q= -1)∧((∀ x∈Hs,fI x q= -1)→gE L Hs q=1)):=by
 have r0:lX (L::Hs) q 0=fI L q:=rfl
 have rs:∀ i,lX (L::Hs) q (i+1)= -fI (Hs.getD i []) q:=fun i=>by
  unfold lX;rw [if_pos (Nat.succ_pos i),aB]
 have mem:∀ i,i<Hs.length→Hs.getD i []∈Hs:=fun i hi=>by rw [ae,af hi];exact bx hi
 unfold gE
 constructor
 ·intro k
  exact oS (i:=0) (by omega) (by rw [r0];exact k) (fun j hj=>by omega)
 ·intro k
  refine ⟨?_,?_,?_⟩
  ·rintro ⟨x,hx,h0⟩
   have ex:∃ i,i<Hs.length∧fI (Hs.getD i []) q=0:=by
    obtain ⟨i,hi,rfl⟩:=bK.1 hx
    exact ⟨i,hi,by rw [ae,af hi];exact h0⟩
   have ex2:∃ i,i<Hs.length∧fI (Hs.getD i []) q=0∧∀ j,j<i→fI (Hs.getD j []) q≠0:=by
    obtain ⟨i,hi⟩:=ex
    induction i using Nat.strongRecOn with
    |_ i ih=>
     by_cases hj:∃ j,j<i∧fI (Hs.getD j []) q=0
     ·obtain ⟨j,hj,e⟩:=hj;exact ih j hj ⟨by omega,e⟩
     ·exact ⟨i,hi.1,hi.2,fun j hji e=>hj ⟨j,hji,e⟩⟩
   obtain ⟨i,hi,e,hb⟩:=ex2
   rw [oS (i:=i+1) (by omega) (by rw [rs,e];omega) ?_,rs,e];rfl
   intro j hj
   rcases j with _|j
   ·rw [r0,k];omega
   ·rw [rs]
    have ne:=hb j (by omega)
    have sep:Sep (Hs.getD j []) (Hs.getD i []):=by
     have:=bN.1 h.pw j i (by omega) hi (by omega)
     rw [ae,ae,af hi,af (show j<Hs.length by omega)]
     exact this
    have hon:onE (Hs.getD i []) q:=by
     refine (r9 (h.holes _ (mem i hi)) q).1 ?_
     unfold fI at e
     split at e
     ·assumption
     ·split at e<;>cases e
    have of:=(sep.symm.off hon).2
    unfold fI at ne ⊢
    split
    ·rename_i hh;rw [if_pos hh] at ne;exact absurd rfl ne
    ·rw [of];simp
  ·intro n0 hx
   have ex:∃ i,i<Hs.length∧fI (Hs.getD i []) q=1:=by
    obtain ⟨x,hx,h0⟩:=hx
    obtain ⟨i,hi,rfl⟩:=bK.1 hx
    exact ⟨i,hi,by rw [ae,af hi];exact h0⟩
   have ex2:∃ i,i<Hs.length∧fI (Hs.getD i []) q=1∧∀ j,j<i→fI (Hs.getD j []) q≠1:=by
    obtain ⟨i,hi⟩:=ex
    induction i using Nat.strongRecOn with
    |_ i ih=>
     by_cases hj:∃ j,j<i∧fI (Hs.getD j []) q=1
     ·obtain ⟨j,hj,e⟩:=hj;exact ih j hj ⟨by omega,e⟩
     ·exact ⟨i,hi.1,hi.2,fun j hji e=>hj ⟨j,hji,e⟩⟩
   obtain ⟨i,hi,e,hb⟩:=ex2
   rw [oS (i:=i+1) (by omega) (by rw [rs,e];omega) ?_,rs,e]
   intro j hj
   rcases j with _|j
   ·rw [r0,k];omega
   ·rw [rs]
    have ne:=hb j (by omega)
    have ne0:fI (Hs.getD j []) q≠0:=fun e=>n0 ⟨_,mem j (by omega),e⟩
    rcases rm (l:=Hs.getD j []) (q:=q) with e|e|e
    ·exact absurd e ne0
    ·exact absurd e ne
    ·omega
  ·intro ha
   refine pM fun j hj=> ?_
   rcases j with _|j
   ·rw [r0,k];omega
   ·rw [rs,ha _ (mem j (by omega))];omega
end Go.Av
