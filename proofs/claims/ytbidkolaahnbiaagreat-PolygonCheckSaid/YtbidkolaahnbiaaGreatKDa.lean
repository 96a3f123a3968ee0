/- Helping texts: Da, Ea, Eg. -/
import Derived.Test.YtbidkolaahnbiaaGreatKCv
import Derived.ProofKit
import Derived.Deep.Slices
import Derived.Deep.Strs
set_option linter.unusedSimpArgs false
set_option linter.unusedVariables false
set_option maxRecDepth 100000
set_option maxHeartbeats 16000000
namespace Go.Av
open Go.RowKit
open Go.Proofs.Tryz (prog)
structure Rp where
 x:Rt
 y:Rt
instance:Inhabited Rt:=⟨⟨false,[],[]⟩⟩
instance:Inhabited Rp:=⟨⟨default,default⟩⟩
def rpc (p:Rp):List V:=[.prim (.bool p.x.neg),.prim (.string (bs (p.x.num))),.prim (.string (bs (p.x.den))),.prim (.bool p.y.neg),.prim (.string (bs (p.y.num))),.prim (.string (bs (p.y.den)))]
def rpV (p:Rp):V:=ptV p.x p.y
def rpsV (l:List Rp):V:= .lst 6 (l.map rpc)
theorem rpc_getD {l:List Rp} {k:Nat} (h:k<l.length):(l.map rpc).getD k []=rpc (l.getD k default):=by
 rw [List.getD_eq_getElem?_getD,List.getD_eq_getElem?_getD,List.getElem?_map,List.getElem?_eq_getElem h];rfl
theorem rpc_length (l:List Rp):(l.map rpc).length=l.length:=List.length_map ..
def idxP (n:Nat) (p:Nat→Bool):Int:=match (List.range n).find? p with
 |some i=>(i:Int)
 |none=> -1
theorem idxP_found {n i:Nat} {p:Nat→Bool} (hi:i<n) (h:p i=true) (hf:∀ j,j<i→p j=false):idxP n p=i:=by
 unfold idxP
 have:(List.range n).find? p=some i:=by
  rw [List.find?_range_eq_some]
  refine ⟨h,by simpa using hi,fun j hj=>by simp [hf j hj]⟩
 rw [this]
theorem idxP_none {n:Nat} {p:Nat→Bool} (hf:∀ j,j<n→p j=false):idxP n p= -1:=by
 unfold idxP
 have:(List.range n).find? p=none:=by
  rw [List.find?_eq_none];intro j hj;simp [hf j (by simpa using hj)]
 rw [this]
theorem idxP_nonneg {n:Nat} {p:Nat→Bool}:decide (0≤idxP n p)=(List.range n).any p:=by
 by_cases h:∃ i,i<n∧p i=true
 ·obtain ⟨i,hi,hp⟩:=h
  have e:(List.range n).any p=true:=List.any_eq_true.2 ⟨i,by simpa using hi,hp⟩
  rw [e]
  unfold idxP
  cases hf:(List.range n).find? p with
  |none=>rw [List.find?_eq_none] at hf;exact absurd hp (by simpa using hf i (by simpa using hi))
  |some k=>simp
 ·have hf:∀ j,j<n→p j=false:=fun j hj=>by
   cases hp:p j with
   |false=>rfl
   |true=>exact absurd ⟨j,hj,hp⟩ h
  rw [idxP_none hf]
  symm
  rw [show decide ((0:Int)≤ -1)=false from rfl,List.any_eq_false]
  intro j hj;simp [hf j (by simpa using hj)]
theorem indexP_pc (l:List Rp) (f:FuncId) (p:Nat→Bool) (hl:l.length<2^40) (hf:∀ i,i<l.length→PC prog f [rpV (l.getD i default)] (.prim (.bool (p i)))):
 PC prog 270 [rpsV l,.clo f [] []] (.prim (.int .i64 (idxP l.length p))):=by
 refine PCi ?_
 conv in trip _ _=>cbv
 simp only [runT,RN,simprocAttr]
 simp (disch:=omega) only [↓RS,RZ,simprocAttr,rpsV,rpc_length]
 refine wp_lp (fun (i:Nat) J=>ov [(0,rpsV l),(1,.clo f [] []),(4,.prim (.int .i64 (0))),(6,rpsV l),(7,.prim (.int .i64 ((l.length:Nat):Int))),(8,.prim (.int .i64 ((i:Nat):Int)))] J 0 19) (fun i H=>(i≤l.length∧∀ j,j<i→p j=false)∧H=[]) (fun i=>l.length-i) 0 rfl ⟨⟨Nat.zero_le _,fun j hj=>absurd hj (Nat.not_lt_zero j)⟩,rfl⟩ ?_
 rintro i J _ ⟨⟨hi,hp⟩,rfl⟩
 try conv in ov _ _ _ _=>simp only [ov,List.lookup,RO,simprocAttr]
 rcases Nat.lt_or_ge i l.length with hlt|hge
 ·have g:=rpc_getD hlt
  have h:=hf i hlt
  simp (disch:=omega) only [↓RS,RZ,simprocAttr,rpsV,rpc_length,g,rpc]
  refine cX h ?_
  cases hpi:p i with
  |true=>
   rw [idxP_found hlt hpi hp]
   simp (disch:=omega) only [↓RS,RZ,simprocAttr]
  |false=>
   simp (disch:=omega) only [↓RS,RZ,simprocAttr]
   exact lp_next (i+1) rfl ⟨⟨hlt,fun j hj=>by
    rcases Nat.lt_or_ge j i with h|h
    ·exact hp j h
    ·rw [show j=i by omega];exact hpi⟩,rfl⟩ (by omega)
 ·have hia:i=l.length:=by omega
  subst hia
  rw [idxP_none hp]
  simp (disch:=omega) only [↓RS,RZ,simprocAttr,rpsV,rpc_length]
theorem containsP_pc (l:List Rp) (f:FuncId) (p:Nat→Bool) (hl:l.length<2^40) (hf:∀ i,i<l.length→PC prog f [rpV (l.getD i default)] (.prim (.bool (p i)))):
 PC prog 208 [rpsV l,.clo f [] []] (.prim (.bool ((List.range l.length).any p))):=by
 refine PCi ?_
 conv in trip _ _=>cbv
 simp only [runT,RN,simprocAttr]
 have h:=indexP_pc l f p hl hf
 rw [←idxP_nonneg]
 simp (disch:=omega) only [↓RS,RZ,simprocAttr,rpsV]
 refine cX h ?_
 simp (disch:=omega) only [↓RS,RZ,simprocAttr]
end Go.Av
namespace Go.Av
open Go.RowKit
open Go.Proofs.Tryz (prog)
variable {H:Type} {enc:TypeId×Value→H} {W:World} {base:Nat} {spare:Nat→Bool} {held:Bool}
theorem bs_self (s:ByteArray):bs s.data.toList=s:=by
 cases s;rfl
def ratCells (r:Rt):List Value:=[.bool r.neg,.string (bs r.num),.string (bs r.den)]
def ptCells (p:Rp):List Value:=ratCells p.x++ratCells p.y
def Rt.fit (r:Rt):Prop:=r.num.length≤maxLen∧r.den.length≤maxLen
def Rp.fit (p:Rp):Prop:=p.x.fit∧p.y.fit
theorem trod_rat {fuel:Nat} {cs:List Value} {x:DataW H×List MemPlace} (h:DataW.trod enc prog W base spare held fuel 27 cs=some x):∃ r:Rt,cs=ratCells r∧r.fit:=by
 obtain ⟨y0,y1,y2,n,_,hl,h0,h1,h2⟩:=Go.Deep.trod_struct3 (P:=prog) Go.Proofs.Tryz.underlying27 h
 have c3:prog.cellsOf 27 =3:=by kernel_rfl
 rw [c3] at hl
 have c4:prog.cellsOf 4 =1:=by kernel_rfl
 have c9:prog.cellsOf 9 =1:=by kernel_rfl
 match cs,hl with
 |[a,b,c],_=>
  simp only [c4,c9,List.drop_zero,List.drop_succ_cons,List.take_succ_cons,List.take_zero] at h0 h1 h2
  obtain ⟨b0,e0,_⟩:=DataW.trod_bool Go.Proofs.Tryz.underlying4 h0
  obtain ⟨s1,e1,_,k1⟩:=DataW.trod_string Go.Proofs.Tryz.underlying9 h1
  obtain ⟨s2,e2,_,k2⟩:=DataW.trod_string Go.Proofs.Tryz.underlying9 h2
  cases e0;cases e1;cases e2
  refine ⟨⟨b0,s1.data.toList,s2.data.toList⟩,?_,?_,?_⟩
  ·simp only [ratCells,bs_self]
  ·simpa using k1
  ·simpa using k2
theorem trod_pt {fuel:Nat} {cs:List Value} {x:DataW H×List MemPlace} (h:DataW.trod enc prog W base spare held fuel 31 cs=some x):∃ p:Rp,cs=ptCells p∧p.fit:=by
 obtain ⟨y0,y1,n,_,hl,h0,h1⟩:=Go.ChangeShapes.trod_struct2 (P:=prog) Go.Proofs.Tryz.underlying31 h
 have c6:prog.cellsOf 31 =6:=by kernel_rfl
 have c3:prog.cellsOf 27 =3:=by kernel_rfl
 rw [c6] at hl
 match cs,hl with
 |[a,b,c,d,e,f],_=>
  simp only [c3,List.drop_zero,List.drop_succ_cons,List.take_succ_cons,List.take_zero] at h0 h1
  obtain ⟨r0,e0,k0⟩:=trod_rat h0
  obtain ⟨r1,e1,k1⟩:=trod_rat h1
  cases e0;cases e1
  exact ⟨⟨r0,r1⟩,rfl,k0,k1⟩
theorem cells_get {a:Addr} {n:Nat} {cs:List Value} (h:W.cells? base a n=some cs):cs.length=n∧∀ i,i<n→W.cell? (a.add i)=cs[i]? :=by
 obtain ⟨_,h1,h2⟩:=World.cells?_some h
 exact ⟨h1,h2⟩
theorem spot_none {a:Addr} {i:Nat} {v:Value} (h:W.cell? (a.add i)=some v):W.cell? ⟨a.block,a.off+i,none⟩=some v∧a.block<W.heap.size:=by
 have hb:(a.add i).block=a.block:=by unfold Addr.add;split<;>rfl
 have ho:(a.add i).off=a.off+i:=by
  unfold Addr.add;split
  ·rename_i h;rw [h];rfl
  ·rfl
 unfold World.cell? at h ⊢
 rw [hb,ho] at h
 try simp only
 cases hg:W.heap[a.block]? with
 |none=>rw [hg] at h;cases h
 |some o=>
  rw [hg] at h
  refine ⟨?_,(Array.getElem?_eq_some_iff.1 hg).1⟩
  cases o<;>simp only at h ⊢<;>first|exact (by cases h)|skip
  split at h
  ·cases h
  ·simpa using h
theorem spot_of {ab ao:Nat} {asp:Option Nat} {v:Option Value} (h:W.cell? (Addr.add ⟨ab,ao,asp⟩ 0)=v) (hv:v.isSome=true:=by rfl):asp=none:=by
 unfold World.cell? at h
 simp only [Addr.add,if_true] at h
 cases hg:W.heap[ab]? with
 |none=>rw [hg] at h;subst h;cases hv
 |some o=>
  rw [hg] at h
  cases o<;>simp only at h<;>first|exact (by subst h;cases hv)|skip
  cases asp with
  |none=>rfl
  |some s=>simp at h;subst h;cases hv
theorem VR_rpc {p:Rp} {k:Nat} {v:V} (h:(rpc p)[k]? =some v):∃ x,v= .prim x∧(ptCells p)[k]? =some x∧scal x=true:=by
 match k with
 |0|1|2|3|4|5=>simp only [rpc,List.getElem?_cons_zero,List.getElem?_cons_succ,Option.some.injEq] at h;subst h;exact ⟨_,rfl,rfl,rfl⟩
 |k+6=>simp [rpc] at h
theorem trod_pts {fuel:Nat} {cs:List Value} {x:DataW H×List MemPlace} (h:DataW.trod enc prog W base spare held fuel 22 cs=some x):
 ∃ (l:List Rp) (v:Value),cs=[v]∧VR (fun _=>none) (fun B=>B<W.heap.size) W (rpsV l) v∧l.length≤maxLen∧∀ p∈l,p.fit:=by
 rcases Go.Deep.open_slice (P:=prog) Go.Proofs.Tryz.underlying22 h with ⟨rfl,_⟩|⟨a,len,cap,m,n,D,Pl,rfl,hb,hl,hm,hmm,_,hx⟩
 ·exact ⟨[],_,rfl,.lnil,Nat.zero_le _,by simp⟩
 have c6:prog.cellsOf 31 =6:=by kernel_rfl
 rw [c6] at hx
 have hlm:len≤m:=by rw [hmm];split<;>omega
 obtain ⟨F,hF⟩:=Go.Deep.choose_lt (α:=Rp) (p:=fun i (p:Rp)=>W.cells? base (a.add (i*6)) 6=some (ptCells p)∧p.fit) (n:=len) (fun i hi=>by
  obtain ⟨cs',h1,h2⟩:=hx i (by omega)
  obtain ⟨p,rfl,hp⟩:=trod_pt h2
  exact ⟨p,h1,hp⟩)
 have hlen:((List.range len).map F).length=len:=by simp
 refine ⟨(List.range len).map F,_,rfl,?_,by rw [hlen];omega,?_⟩
 ·rcases Nat.eq_zero_or_pos len with rfl|hpos
  ·exact .lnil
  ·have hcell:∀ i k x,i<len→(ptCells (F i))[k]? =some x→W.cell? ⟨a.block,a.off+i*6+k,none⟩=some x∧a.block<W.heap.size:=by
    intro i k x hi hk
    obtain ⟨h1,h2⟩:=cells_get (hF i hi).1
    have hk6:k<6:=by rw [←h1];exact (List.getElem?_eq_some_iff.1 hk).1
    have h3:=h2 k hk6
    rw [hk,Go.Deep.add_add] at h3
    have:=spot_none h3
    rw [←Nat.add_assoc] at this
    exact this
   obtain ⟨_,hsz⟩:=hcell 0 0 _ hpos rfl
   obtain ⟨ab,ao,asp⟩:=a
   have hsp:asp=none:=by
    obtain ⟨h1,h2⟩:=cells_get (hF 0 hpos).1
    have h3:=h2 0 (by omega)
    rw [Go.Deep.add_add] at h3
    simp only [Nat.zero_mul,Nat.add_zero] at h3
    exact spot_of h3
   subst hsp
   have hget:∀ {i:Nat} {e:List V},(((List.range len).map F).map rpc)[i]? =some e→i<len∧e=rpc (F i):=by
    intro i e he
    rw [List.map_map,List.getElem?_map] at he
    cases hr:(List.range len)[i]? with
    |none=>rw [hr] at he;cases he
    |some j=>
     rw [hr] at he
     obtain ⟨hi,rfl⟩:=List.getElem?_eq_some_iff.1 hr
     simp only [List.length_range] at hi
     simp only [Option.map_some,List.getElem_range,Function.comp,Option.some.injEq] at he
     exact ⟨hi,he.symm⟩
   have:=VR.lst (φ:=fun _=>none) (I:=fun B=>B<W.heap.size) (w:=W) (sz:=6) (es:=((List.range len).map F).map rpc) (B:=ab) (o:=ao) (cap:=cap)
    (fun i k=>((ptCells (F i))[k]?).getD (.bool true)) hsz (by simp;omega)
    (fun i e he=>by obtain ⟨_,rfl⟩:=hget he;rfl)
    (fun i e k v he hk=>by
     obtain ⟨hi,rfl⟩:=hget he
     obtain ⟨x,rfl,hx,_⟩:=VR_rpc hk
     rw [hx];exact (hcell i k x hi hx).1)
    (fun i e k v he hk=>by
     obtain ⟨hi,rfl⟩:=hget he
     obtain ⟨x,rfl,hx,hs⟩:=VR_rpc hk
     rw [hx];exact .prim hs)
   rw [List.length_map,hlen] at this
   exact this
 ·intro p hp
  obtain ⟨i,hi,rfl⟩:=List.mem_map.1 hp
  exact (hF i (by simpa using hi)).2
def hsV (ls:List (List Rp)):V:= .lst 1 ((ls.map rpsV).map fun v=>[v])
def pgV (O:List Rp) (hs:List (List Rp)):V:= .agg [rpsV O,hsV hs]
theorem trod_ptss {fuel:Nat} {cs:List Value} {x:DataW H×List MemPlace} (h:DataW.trod enc prog W base spare held fuel 23 cs=some x):
 ∃ (ls:List (List Rp)) (v:Value),cs=[v]∧VR (fun _=>none) (fun B=>B<W.heap.size) W (hsV ls) v∧ls.length≤maxLen∧∀ l∈ls,l.length≤maxLen∧∀ p∈l,p.fit:=by
 have c1:prog.cellsOf 22 =1:=by kernel_rfl
 rcases Go.Deep.open_slice1 (P:=prog) Go.Proofs.Tryz.underlying23 c1 h with ⟨rfl,_⟩|⟨a,len,cap,m,n,U,D,Pl,rfl,hb,hl,hm,hmm,_,hx⟩
 ·exact ⟨[],_,rfl,.lnil,Nat.zero_le _,by simp⟩
 have hlm:len≤m:=by rw [hmm];split<;>omega
 obtain ⟨F,hF⟩:=Go.Deep.choose_lt (α:=List Rp) (p:=fun i (l:List Rp)=>VR (fun _=>none) (fun B=>B<W.heap.size) W (rpsV l) (U i)∧l.length≤maxLen∧∀ p∈l,p.fit) (n:=len) (fun i hi=>by
  obtain ⟨l,v,e,h1,h2⟩:=trod_pts (hx i (by omega)).2
  cases e
  exact ⟨l,h1,h2⟩)
 have hlen:((List.range len).map F).length=len:=by simp
 refine ⟨(List.range len).map F,_,rfl,?_,by rw [hlen];omega,?_⟩
 ·rcases Nat.eq_zero_or_pos len with rfl|hpos
  ·exact .lnil
  ·obtain ⟨_,hsz⟩:=spot_none (hx 0 (by omega)).1
   obtain ⟨ab,ao,asp⟩:=a
   have hsp:asp=none:=spot_of (hx 0 (by omega)).1
   subst hsp
   have hget:∀ {i:Nat} {e:List V},(((List.range len).map F).map fun l=>[rpsV l])[i]? =some e→i<len∧e=[rpsV (F i)]:=by
    intro i e he
    rw [List.map_map,List.getElem?_map] at he
    cases hr:(List.range len)[i]? with
    |none=>rw [hr] at he;cases he
    |some j=>
     rw [hr] at he
     obtain ⟨hi,rfl⟩:=List.getElem?_eq_some_iff.1 hr
     simp only [List.length_range] at hi
     simp only [Option.map_some,List.getElem_range,Function.comp,Option.some.injEq] at he
     exact ⟨hi,he.symm⟩
   have hk0:∀ {i k:Nat} {v:V},[rpsV (F i)][k]? =some v→k=0∧v=rpsV (F i):=by
    intro i k v hk
    match k with
    |0=>simp at hk;exact ⟨rfl,hk.symm⟩
    |k+1=>simp at hk
   have:=VR.lst (φ:=fun _=>none) (I:=fun B=>B<W.heap.size) (w:=W) (sz:=1) (es:=((List.range len).map F).map fun l=>[rpsV l]) (B:=ab) (o:=ao) (cap:=cap)
    (fun i _=>U i) hsz (by simp;omega)
    (fun i e he=>by obtain ⟨_,rfl⟩:=hget he;rfl)
    (fun i e k v he hk=>by
     obtain ⟨hi,rfl⟩:=hget he
     obtain ⟨rfl,rfl⟩:=hk0 hk
     have:=(spot_none (hx i (by omega)).1).1
     simpa using this)
    (fun i e k v he hk=>by
     obtain ⟨hi,rfl⟩:=hget he
     obtain ⟨rfl,rfl⟩:=hk0 hk
     exact (hF i hi).1)
   rw [List.length_map,hlen] at this
   unfold hsV
   rw [List.map_map]
   exact this
 ·intro l hl
  obtain ⟨i,hi,rfl⟩:=List.mem_map.1 hl
  exact (hF i (by simpa using hi)).2
theorem trod_pg {fuel:Nat} {v:Value} {x:DataW H×List MemPlace} (h:DataW.trod enc prog W base spare held fuel 25 v.cells.toList=some x):
 ∃ (O:List Rp) (hs:List (List Rp)),VR (fun _=>none) (fun B=>B<W.heap.size) W (pgV O hs) v∧(O.length≤maxLen∧∀ p∈O,p.fit)∧hs.length≤maxLen∧∀ l∈hs,l.length≤maxLen∧∀ p∈l,p.fit:=by
 obtain ⟨y0,y1,n,_,hl,h0,h1⟩:=Go.ChangeShapes.trod_struct2 (P:=prog) Go.Proofs.Tryz.underlying25 h
 have c2:prog.cellsOf 25 =2:=by kernel_rfl
 have c1:prog.cellsOf 22 =1:=by kernel_rfl
 have c1':prog.cellsOf 23 =1:=by kernel_rfl
 rw [c2] at hl
 have hv:∃ a b,v= .agg #[a,b]:=by
  cases v<;>simp [Value.cells] at hl
  rename_i xs
  obtain ⟨l⟩:=xs
  match l,hl with
  |[a,b],_=>exact ⟨a,b,rfl⟩
 obtain ⟨a,b,rfl⟩:=hv
 simp only [Value.cells,c1,c1',List.drop_zero,List.drop_succ_cons,List.take_succ_cons,List.take_zero] at h0 h1
 obtain ⟨O,v0,e0,k0,k1⟩:=trod_pts h0
 obtain ⟨hs,v1,e1,k2,k3⟩:=trod_ptss h1
 cases e0;cases e1
 refine ⟨O,hs,.agg rfl ?_,k1,k3⟩
 intro k u x hk hx
 match k with
 |0=>simp at hk hx;subst hk;subst hx;exact k0
 |1=>simp at hk hx;subst hk;subst hx;exact k2
 |k+2=>simp at hk
end Go.Av
namespace Go.Av
open Go.RowKit
open Go.Proofs.Tryz (prog)
variable {H:Type} {enc:TypeId×Value→H} {W:World} {base:Nat} {spare:Nat→Bool} {held:Bool}
section
variable {P:Program} {w:World}
end
end Go.Av
