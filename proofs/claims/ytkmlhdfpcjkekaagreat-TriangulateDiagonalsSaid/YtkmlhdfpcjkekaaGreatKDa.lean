/- Helping texts: Da, Ea, Eg, Db, Dc, Dd, Ma. -/
import Derived.Test.YtkmlhdfpcjkekaaGreatKCs
import Derived.ProofKit
import Derived.Deep.Slices
import Derived.Deep.Strs
set_option linter.unusedSimpArgs false
set_option linter.unusedVariables false
set_option maxRecDepth 100000
set_option maxHeartbeats 16000000
namespace Go.Av
open Go.RowKit
open Go.Proofs.Tryz (prog)
structure Rp where
 x:Rt
 y:Rt
instance:Inhabited Rt:=⟨⟨false,[],[]⟩⟩
instance:Inhabited Rp:=⟨⟨default,default⟩⟩
def rpc (p:Rp):List V:=[.prim (.bool p.x.neg),.prim (.string (bs (p.x.num))),.prim (.string (bs (p.x.den))),.prim (.bool p.y.neg),.prim (.string (bs (p.y.num))),.prim (.string (bs (p.y.den)))]
def rpV (p:Rp):V:=ptV p.x p.y
def dH (l:List Rp):V:= .lst 6 (l.map rpc)
theorem Gc {l:List Rp} {k:Nat} (h:k<l.length):(l.map rpc).getD k []=rpc (l.getD k default):=by
 rw [ae,ae,aW,af h];rfl
theorem bX (l:List Rp):(l.map rpc).length=l.length:=az ..
def oa (n:Nat) (p:Nat→Bool):Int:=match (List.range n).find? p with
 |some i=>(i:Int)
 |none=> -1
theorem lT {n i:Nat} {p:Nat→Bool} (hi:i<n) (h:p i=true) (hf:∀ j,j<i→p j=false):oa n p=i:=by
 unfold oa
 have:(List.range n).find? p=some i:=by
  rw [List.find?_range_eq_some]
  refine ⟨h,by simpa using hi,fun j hj=>by simp [hf j hj]⟩
 rw [this]
theorem ki {n:Nat} {p:Nat→Bool} (hf:∀ j,j<n→p j=false):oa n p= -1:=by
 unfold oa
 have:(List.range n).find? p=none:=by
  rw [List.find?_eq_none];intro j hj;simp [hf j (by simpa using hj)]
 rw [this]
theorem kX {n:Nat} {p:Nat→Bool}:decide (0≤oa n p)=(List.range n).any p:=by
 by_cases h:∃ i,i<n∧p i=true
 ·obtain ⟨i,hi,hp⟩:=h
  have e:(List.range n).any p=true:=List.any_eq_true.2 ⟨i,by simpa using hi,hp⟩
  rw [e]
  unfold oa
  cases hf:(List.range n).find? p with
  |none=>rw [List.find?_eq_none] at hf;exact absurd hp (by simpa using hf i (by simpa using hi))
  |some k=>simp
 ·have hf:∀ j,j<n→p j=false:=fun j hj=>by
   cases hp:p j with
   |false=>rfl
   |true=>exact absurd ⟨j,hj,hp⟩ h
  rw [ki hf]
  symm
  rw [show decide ((0:Int)≤ -1)=false from rfl,List.any_eq_false]
  intro j hj;simp [hf j (by simpa using hj)]
theorem LO (l:List Rp) (f:FuncId) (p:Nat→Bool) (hl:l.length<2^40) (hf:∀ i,i<l.length→PC prog f [rpV (l.getD i default)] (.prim (.bool (p i)))):
 PC prog 128 [dH l,.clo f [] []] (.prim (.int .i64 (oa l.length p))):=by
 refine PCi ?_
 conv in bL _ _=>cbv
 simp only [bM,RN,simprocAttr]
 simp (disch:=omega) only [↓RS,RZ,simprocAttr,dH,bX]
 refine eG (fun (i:Nat) J=>ov [(0,dH l),(1,.clo f [] []),(4,.prim (.int .i64 (0))),(6,dH l),(7,.prim (.int .i64 ((l.length:Nat):Int))),(8,.prim (.int .i64 ((i:Nat):Int)))] J 0 19) (fun i H=>(i≤l.length∧∀ j,j<i→p j=false)∧H=[]) (fun i=>l.length-i) 0 rfl ⟨⟨bh _,fun j hj=>absurd hj (Nat.not_lt_zero j)⟩,rfl⟩ ?_
 rintro i J _ ⟨⟨hi,hp⟩,rfl⟩
 try conv in ov _ _ _ _=>simp only [ov,List.lookup,RO,simprocAttr]
 rcases am i l.length with hlt|hge
 ·have g:=Gc hlt
  have h:=hf i hlt
  simp (disch:=omega) only [↓RS,RZ,simprocAttr,dH,bX,g,rpc]
  refine cX h ?_
  cases hpi:p i with
  |true=>
   rw [lT hlt hpi hp]
   simp (disch:=omega) only [↓RS,RZ,simprocAttr]
  |false=>
   simp (disch:=omega) only [↓RS,RZ,simprocAttr]
   exact bl (i+1) rfl ⟨⟨hlt,fun j hj=>by
    rcases am j i with h|h
    ·exact hp j h
    ·rw [show j=i by omega];exact hpi⟩,rfl⟩ (by omega)
 ·have hia:i=l.length:=by omega
  subst hia
  rw [ki hp]
  simp (disch:=omega) only [↓RS,RZ,simprocAttr,dH,bX]
theorem Fo (l:List Rp) (f:FuncId) (p:Nat→Bool) (hl:l.length<2^40) (hf:∀ i,i<l.length→PC prog f [rpV (l.getD i default)] (.prim (.bool (p i)))):
 PC prog 60 [dH l,.clo f [] []] (.prim (.bool ((List.range l.length).any p))):=by
 refine PCi ?_
 conv in bL _ _=>cbv
 simp only [bM,RN,simprocAttr]
 have h:=LO l f p hl hf
 rw [←kX]
 simp (disch:=omega) only [↓RS,RZ,simprocAttr,dH]
 refine cX h ?_
 simp (disch:=omega) only [↓RS,RZ,simprocAttr]
end Go.Av
namespace Go.Av
open Go.RowKit
open Go.Proofs.Tryz (prog)
variable {H:Type} {enc:TypeId×Value→H} {W:World} {base:Nat} {spare:Nat→Bool} {held:Bool}
theorem Q2 (s:ByteArray):bs s.data.toList=s:=by
 cases s;rfl
def v9 (r:Rt):List Value:=[.bool r.neg,.string (bs r.num),.string (bs r.den)]
def we (p:Rp):List Value:=v9 p.x++v9 p.y
def Rt.fit (r:Rt):Prop:=r.num.length≤maxLen∧r.den.length≤maxLen
def Rp.fit (p:Rp):Prop:=p.x.fit∧p.y.fit
theorem FU {fuel:Nat} {cs:List Value} {x:DataW H×List MemPlace} (h:DataW.trod enc prog W base spare held fuel 35 cs=some x):∃ r:Rt,cs=v9 r∧r.fit:=by
 obtain ⟨y0,y1,y2,n,_,hl,h0,h1,h2⟩:=Go.Deep.trod_struct3 (P:=prog) Go.Proofs.Tryz.underlying35 h
 have c3:prog.cellsOf 35 =3:=by kernel_rfl
 rw [c3] at hl
 have c4:prog.cellsOf 4 =1:=by kernel_rfl
 have c9:prog.cellsOf 9 =1:=by kernel_rfl
 match cs,hl with
 |[a,b,c],_=>
  simp only [c4,c9,List.drop_zero,List.drop_succ_cons,List.take_succ_cons,List.take_zero] at h0 h1 h2
  obtain ⟨b0,e0,_⟩:=DataW.trod_bool Go.Proofs.Tryz.underlying4 h0
  obtain ⟨s1,e1,_,k1⟩:=DataW.trod_string Go.Proofs.Tryz.underlying9 h1
  obtain ⟨s2,e2,_,k2⟩:=DataW.trod_string Go.Proofs.Tryz.underlying9 h2
  cases e0;cases e1;cases e2
  refine ⟨⟨b0,s1.data.toList,s2.data.toList⟩,?_,?_,?_⟩
  ·simp only [v9,Q2]
  ·simpa using k1
  ·simpa using k2
theorem P0 {fuel:Nat} {cs:List Value} {x:DataW H×List MemPlace} (h:DataW.trod enc prog W base spare held fuel 37 cs=some x):∃ p:Rp,cs=we p∧p.fit:=by
 obtain ⟨y0,y1,n,_,hl,h0,h1⟩:=Go.ChangeShapes.trod_struct2 (P:=prog) Go.Proofs.Tryz.underlying37 h
 have c6:prog.cellsOf 37 =6:=by kernel_rfl
 have c3:prog.cellsOf 35 =3:=by kernel_rfl
 rw [c6] at hl
 match cs,hl with
 |[a,b,c,d,e,f],_=>
  simp only [c3,List.drop_zero,List.drop_succ_cons,List.take_succ_cons,List.take_zero] at h0 h1
  obtain ⟨r0,e0,k0⟩:=FU h0
  obtain ⟨r1,e1,k1⟩:=FU h1
  cases e0;cases e1
  exact ⟨⟨r0,r1⟩,rfl,k0,k1⟩
theorem D5 {a:Addr} {n:Nat} {cs:List Value} (h:W.cells? base a n=some cs):cs.length=n∧∀ i,i<n→W.cell? (a.add i)=cs[i]? :=by
 obtain ⟨_,h1,h2⟩:=World.cells?_some h
 exact ⟨h1,h2⟩
theorem w9 {a:Addr} {i:Nat} {v:Value} (h:W.cell? (a.add i)=some v):W.cell? ⟨a.block,a.off+i,none⟩=some v∧a.block<W.heap.size:=by
 have hb:(a.add i).block=a.block:=by unfold Addr.add;split<;>rfl
 have ho:(a.add i).off=a.off+i:=by
  unfold Addr.add;split
  ·rename_i h;rw [h];rfl
  ·rfl
 unfold World.cell? at h ⊢
 rw [hb,ho] at h
 try simp only
 cases hg:W.heap[a.block]? with
 |none=>rw [hg] at h;cases h
 |some o=>
  rw [hg] at h
  refine ⟨?_,(Array.getElem?_eq_some_iff.1 hg).1⟩
  cases o<;>simp only at h ⊢<;>first|exact (by cases h)|skip
  split at h
  ·cases h
  ·simpa using h
theorem Jz {ab ao:Nat} {asp:Option Nat} {v:Option Value} (h:W.cell? (Addr.add ⟨ab,ao,asp⟩ 0)=v) (hv:v.isSome=true:=by rfl):asp=none:=by
 unfold World.cell? at h
 simp only [Addr.add,if_true] at h
 cases hg:W.heap[ab]? with
 |none=>rw [hg] at h;subst h;cases hv
 |some o=>
  rw [hg] at h
  cases o<;>simp only at h<;>first|exact (by subst h;cases hv)|skip
  cases asp with
  |none=>rfl
  |some s=>simp at h;subst h;cases hv
theorem PM {p:Rp} {k:Nat} {v:V} (h:(rpc p)[k]? =some v):∃ x,v= .prim x∧(we p)[k]? =some x∧uQ x=true:=by
 match k with
 |0|1|2|3|4|5=>simp only [rpc,aN,aV,bu] at h;subst h;exact ⟨_,rfl,rfl,rfl⟩
 |k+6=>simp [rpc] at h
theorem FV {fuel:Nat} {cs:List Value} {x:DataW H×List MemPlace} (h:DataW.trod enc prog W base spare held fuel 22 cs=some x):
 ∃ (l:List Rp) (v:Value),cs=[v]∧VR (fun _=>none) (fun B=>B<W.heap.size) W (dH l) v∧l.length≤maxLen∧∀ p∈l,p.fit:=by
 rcases Go.Deep.open_slice (P:=prog) Go.Proofs.Tryz.underlying22 h with ⟨rfl,_⟩|⟨a,len,cap,m,n,D,Pl,rfl,hb,hl,hm,hmm,_,hx⟩
 ·exact ⟨[],_,rfl,.lnil,bh _,by simp⟩
 have c6:prog.cellsOf 37 =6:=by kernel_rfl
 rw [c6] at hx
 have hlm:len≤m:=by rw [hmm];split<;>omega
 obtain ⟨F,hF⟩:=Go.Deep.choose_lt (α:=Rp) (p:=fun i (p:Rp)=>W.cells? base (a.add (i*6)) 6=some (we p)∧p.fit) (n:=len) (fun i hi=>by
  obtain ⟨cs',h1,h2⟩:=hx i (by omega)
  obtain ⟨p,rfl,hp⟩:=P0 h2
  exact ⟨p,h1,hp⟩)
 have hlen:((List.range len).map F).length=len:=by simp
 refine ⟨(List.range len).map F,_,rfl,?_,by rw [hlen];omega,?_⟩
 ·rcases Nat.eq_zero_or_pos len with rfl|hpos
  ·exact .lnil
  ·have hcell:∀ i k x,i<len→(we (F i))[k]? =some x→W.cell? ⟨a.block,a.off+i*6+k,none⟩=some x∧a.block<W.heap.size:=by
    intro i k x hi hk
    obtain ⟨h1,h2⟩:=D5 (hF i hi).1
    have hk6:k<6:=by rw [←h1];exact (aH.1 hk).1
    have h3:=h2 k hk6
    rw [hk,Go.Deep.add_add] at h3
    have:=w9 h3
    rw [←Nat.add_assoc] at this
    exact this
   obtain ⟨_,hsz⟩:=hcell 0 0 _ hpos rfl
   obtain ⟨ab,ao,asp⟩:=a
   have hsp:asp=none:=by
    obtain ⟨h1,h2⟩:=D5 (hF 0 hpos).1
    have h3:=h2 0 (by omega)
    rw [Go.Deep.add_add] at h3
    simp only [Nat.zero_mul,Nat.add_zero] at h3
    exact Jz h3
   subst hsp
   have hget:∀ {i:Nat} {e:List V},(((List.range len).map F).map rpc)[i]? =some e→i<len∧e=rpc (F i):=by
    intro i e he
    rw [List.map_map,aW] at he
    cases hr:(List.range len)[i]? with
    |none=>rw [hr] at he;cases he
    |some j=>
     rw [hr] at he
     obtain ⟨hi,rfl⟩:=aH.1 hr
     simp only [zd] at hi
     simp only [bj,List.getElem_range,Function.comp,bu] at he
     exact ⟨hi,he.symm⟩
   have:=VR.lst (φ:=fun _=>none) (I:=fun B=>B<W.heap.size) (w:=W) (sz:=6) (es:=((List.range len).map F).map rpc) (B:=ab) (o:=ao) (cap:=cap)
    (fun i k=>((we (F i))[k]?).getD (.bool true)) hsz (by simp;omega)
    (fun i e he=>by obtain ⟨_,rfl⟩:=hget he;rfl)
    (fun i e k v he hk=>by
     obtain ⟨hi,rfl⟩:=hget he
     obtain ⟨x,rfl,hx,_⟩:=PM hk
     rw [hx];exact (hcell i k x hi hx).1)
    (fun i e k v he hk=>by
     obtain ⟨hi,rfl⟩:=hget he
     obtain ⟨x,rfl,hx,hs⟩:=PM hk
     rw [hx];exact .prim hs)
   rw [az,hlen] at this
   exact this
 ·intro p hp
  obtain ⟨i,hi,rfl⟩:=av.1 hp
  exact (hF i (by simpa using hi)).2
def hsV (ls:List (List Rp)):V:= .lst 1 ((ls.map dH).map fun v=>[v])
def pgV (O:List Rp) (hs:List (List Rp)):V:= .agg [dH O,hsV hs]
theorem KN {fuel:Nat} {cs:List Value} {x:DataW H×List MemPlace} (h:DataW.trod enc prog W base spare held fuel 23 cs=some x):
 ∃ (ls:List (List Rp)) (v:Value),cs=[v]∧VR (fun _=>none) (fun B=>B<W.heap.size) W (hsV ls) v∧ls.length≤maxLen∧∀ l∈ls,l.length≤maxLen∧∀ p∈l,p.fit:=by
 have c1:prog.cellsOf 22 =1:=by kernel_rfl
 rcases Go.Deep.open_slice1 (P:=prog) Go.Proofs.Tryz.underlying23 c1 h with ⟨rfl,_⟩|⟨a,len,cap,m,n,U,D,Pl,rfl,hb,hl,hm,hmm,_,hx⟩
 ·exact ⟨[],_,rfl,.lnil,bh _,by simp⟩
 have hlm:len≤m:=by rw [hmm];split<;>omega
 obtain ⟨F,hF⟩:=Go.Deep.choose_lt (α:=List Rp) (p:=fun i (l:List Rp)=>VR (fun _=>none) (fun B=>B<W.heap.size) W (dH l) (U i)∧l.length≤maxLen∧∀ p∈l,p.fit) (n:=len) (fun i hi=>by
  obtain ⟨l,v,e,h1,h2⟩:=FV (hx i (by omega)).2
  cases e
  exact ⟨l,h1,h2⟩)
 have hlen:((List.range len).map F).length=len:=by simp
 refine ⟨(List.range len).map F,_,rfl,?_,by rw [hlen];omega,?_⟩
 ·rcases Nat.eq_zero_or_pos len with rfl|hpos
  ·exact .lnil
  ·obtain ⟨_,hsz⟩:=w9 (hx 0 (by omega)).1
   obtain ⟨ab,ao,asp⟩:=a
   have hsp:asp=none:=Jz (hx 0 (by omega)).1
   subst hsp
   have hget:∀ {i:Nat} {e:List V},(((List.range len).map F).map fun l=>[dH l])[i]? =some e→i<len∧e=[dH (F i)]:=by
    intro i e he
    rw [List.map_map,aW] at he
    cases hr:(List.range len)[i]? with
    |none=>rw [hr] at he;cases he
    |some j=>
     rw [hr] at he
     obtain ⟨hi,rfl⟩:=aH.1 hr
     simp only [zd] at hi
     simp only [bj,List.getElem_range,Function.comp,bu] at he
     exact ⟨hi,he.symm⟩
   have hk0:∀ {i k:Nat} {v:V},[dH (F i)][k]? =some v→k=0∧v=dH (F i):=by
    intro i k v hk
    match k with
    |0=>simp at hk;exact ⟨rfl,hk.symm⟩
    |k+1=>simp at hk
   have:=VR.lst (φ:=fun _=>none) (I:=fun B=>B<W.heap.size) (w:=W) (sz:=1) (es:=((List.range len).map F).map fun l=>[dH l]) (B:=ab) (o:=ao) (cap:=cap)
    (fun i _=>U i) hsz (by simp;omega)
    (fun i e he=>by obtain ⟨_,rfl⟩:=hget he;rfl)
    (fun i e k v he hk=>by
     obtain ⟨hi,rfl⟩:=hget he
     obtain ⟨rfl,rfl⟩:=hk0 hk
     have:=(w9 (hx i (by omega)).1).1
     simpa using this)
    (fun i e k v he hk=>by
     obtain ⟨hi,rfl⟩:=hget he
     obtain ⟨rfl,rfl⟩:=hk0 hk
     exact (hF i hi).1)
   rw [az,hlen] at this
   unfold hsV
   rw [List.map_map]
   exact this
 ·intro l hl
  obtain ⟨i,hi,rfl⟩:=av.1 hl
  exact (hF i (by simpa using hi)).2
theorem trod_pg {fuel:Nat} {v:Value} {x:DataW H×List MemPlace} (h:DataW.trod enc prog W base spare held fuel 25 v.cells.toList=some x):
 ∃ (O:List Rp) (hs:List (List Rp)),VR (fun _=>none) (fun B=>B<W.heap.size) W (pgV O hs) v∧(O.length≤maxLen∧∀ p∈O,p.fit)∧hs.length≤maxLen∧∀ l∈hs,l.length≤maxLen∧∀ p∈l,p.fit:=by
 obtain ⟨y0,y1,n,_,hl,h0,h1⟩:=Go.ChangeShapes.trod_struct2 (P:=prog) Go.Proofs.Tryz.underlying25 h
 have c2:prog.cellsOf 25 =2:=by kernel_rfl
 have c1:prog.cellsOf 22 =1:=by kernel_rfl
 have c1':prog.cellsOf 23 =1:=by kernel_rfl
 rw [c2] at hl
 have hv:∃ a b,v= .agg #[a,b]:=by
  cases v<;>simp [Value.cells] at hl
  rename_i xs
  obtain ⟨l⟩:=xs
  match l,hl with
  |[a,b],_=>exact ⟨a,b,rfl⟩
 obtain ⟨a,b,rfl⟩:=hv
 simp only [Value.cells,c1,c1',List.drop_zero,List.drop_succ_cons,List.take_succ_cons,List.take_zero] at h0 h1
 obtain ⟨O,v0,e0,k0,k1⟩:=FV h0
 obtain ⟨hs,v1,e1,k2,k3⟩:=KN h1
 cases e0;cases e1
 refine ⟨O,hs,.agg rfl ?_,k1,k3⟩
 intro k u x hk hx
 match k with
 |0=>simp at hk hx;subst hk;subst hx;exact k0
 |1=>simp at hk hx;subst hk;subst hx;exact k2
 |k+2=>simp at hk
end Go.Av
namespace Go.Av
open Go.RowKit
open Go.Proofs.Tryz (prog)
variable {H:Type} {enc:TypeId×Value→H} {W:World} {base:Nat} {spare:Nat→Bool} {held:Bool}
section
variable {P:Program} {w:World}
end
end Go.Av
namespace Go.Av
open Go.RowKit
open Go.Proofs.Tryz (prog)
def Rp.ok (p:Rp):Bool:=decide (p.x=can p.x.val∧p.y=can p.y.val)
def Rp.le (p:Rp) (k:Nat):Prop:=p.x.le k∧p.y.le k
theorem Mn (p:Rp) (h:p.le (2^32)):PC prog 232 [rpV p] (.prim (.bool (!p.ok))):=by
 refine PCi ?_
 conv in bL _ _=>cbv
 simp only [bM,RN,simprocAttr]
 have c:=CN p.x p.y h.1 h.2
 by_cases ho:p.x=can p.x.val∧p.y=can p.y.val
 ·have e:p.ok=true:=an ho
  rw [if_pos ho] at c
  rw [e]
  simp (disch:=omega) only [↓RS,RZ,simprocAttr,rpV,ptV]
  refine cX c ?_
  simp (disch:=omega) only [↓RS,RZ,simprocAttr]
 ·have e:p.ok=false:=ak ho
  rw [if_neg ho] at c
  rw [e]
  simp (disch:=omega) only [↓RS,RZ,simprocAttr,rpV,ptV]
  refine cX c ?_
  simp (disch:=omega) only [↓RS,RZ,simprocAttr]
def ub (l:List Rp):Bool:=(List.range l.length).all fun i=>(l.getD i default).ok
theorem wS (l:List Rp) (hl:l.length<2^40) (h:∀ p∈l,p.le (2^32)):PC prog 176 [dH l] (.prim (.bool (ub l))):=by
 refine PCi ?_
 conv in bL _ _=>cbv
 simp only [bM,RN,simprocAttr]
 have c:=Fo l 232 (fun i=> !(l.getD i default).ok) hl (fun i hi=>Mn _ (h _ (by
  rw [ae,af hi];exact bx hi)))
 have e:(!(List.range l.length).any fun i=> !(l.getD i default).ok)=ub l:=by
  unfold ub;rw [List.all_eq_not_any_not]
 simp (disch:=omega) only [↓RS,RZ,simprocAttr,dH]
 refine cX c ?_
 simp (disch:=omega) only [↓RS,RZ,simprocAttr,e]
instance:Inhabited Pt:=⟨pt0⟩
def pc (p:Pt):List V:=[.prim (.bool (can p.x).neg),.prim (.string (bs ((can p.x).num))),.prim (.string (bs ((can p.x).den))),.prim (.bool (can p.y).neg),.prim (.string (bs ((can p.y).num))),.prim (.string (bs ((can p.y).den)))]
def psV (L:List Pt):V:= .lst 6 (L.map pc)
theorem lj {l:List Pt} {k:Nat} (h:k<l.length):(l.map pc).getD k []=pc (l.getD k default):=by
 rw [ae,ae,aW,af h];rfl
theorem cU (l:List Pt):(l.map pc).length=l.length:=az ..
def Pt.rp (p:Pt):Rp:=⟨can p.x,can p.y⟩
theorem JM (L:List Pt):psV L=dH (L.map Pt.rp):=by unfold psV dH;rw [List.map_map];rfl
def hl (L:List Pt) (k:Nat):Prop:=∀ p∈L,hp p≤k
theorem od {L:List Pt} {k i:Nat} (h:hl L k) (hi:i<L.length):hp (L.getD i default)≤k:=by
 refine h _ ?_
 rw [ae,af hi];exact bx hi
def pi (L:List Pt) (i:Nat):Bool:=decide (fB (L.getD ((i+L.length-1)%L.length) default) (L.getD i default) (L.getD ((i+1)%L.length) default)=0)
theorem QL (L:List Pt) (hn:L.length<2^40) (hL:hl L (2^26)):PC prog 177 [psV L] (.prim (.int .i64 (oa L.length (pi L)))):=by
 refine PCi ?_
 conv in bL _ _=>cbv
 simp only [bM,RN,simprocAttr]
 simp (disch:=omega) only [↓RS,RZ,simprocAttr,psV,cU]
 refine eG (fun (i:Nat) J=>ov [(0,psV L),(2,.prim (.int .i64 (0))),(3,.prim (.int .i64 ((L.length:Nat):Int))),(8,psV L),(9,.prim (.int .i64 ((L.length:Nat):Int))),(10,.prim (.int .i64 ((i:Nat):Int)))] J 0 36) (fun i _=>i≤L.length∧∀ j,j<i→pi L j=false) (fun i=>L.length-i) 0 rfl ⟨bh _,fun j hj=>absurd hj (Nat.not_lt_zero j)⟩ ?_
 rintro i J H ⟨hi,hp⟩
 try conv in ov _ _ _ _=>simp only [ov,List.lookup,RO,simprocAttr]
 rcases am i L.length with hlt|hge
 ·have m1:=Nat.mod_lt (i+L.length-1) (show 0<L.length by omega)
  have m2:=Nat.mod_lt (i+1) (show 0<L.length by omega)
  have g1:=lj hlt
  have g2:=lj m1
  have g3:=lj m2
  have o:=l6 _ _ _ (od hL m1) (od hL hlt) (od hL m2)
  simp (disch:=omega) only [↓RS,RZ,simprocAttr,psV,cU,g1,g2,g3,pc,Jq,aZ]
  refine cX o ?_
  by_cases hz:fB (L.getD ((i+L.length-1)%L.length) default) (L.getD i default) (L.getD ((i+1)%L.length) default)=0
  ·rw [lT hlt (an hz) hp]
   simp (disch:=omega) only [↓RS,RZ,simprocAttr,hz]
  ·simp (disch:=omega) only [↓RS,RZ,simprocAttr]
   exact bl (i+1) rfl ⟨hlt,fun j hj=>by
    rcases am j i with h|h
    ·exact hp j h
    ·rw [show j=i by omega];exact ak hz⟩ (by omega)
 ·have hia:i=L.length:=by omega
  subst hia
  rw [ki hp]
  simp (disch:=omega) only [↓RS,RZ,simprocAttr,psV,cU]
end Go.Av
namespace Go.Av
open Go.RowKit
open Go.Proofs.Tryz (prog)
def gA (L:List Pt):Nat→Nat
 |0=>0
 |i+1=>if bO (L.getD i default) (L.getD (gA L i) default)<0 then i else gA L i
theorem vm {L:List Pt}:∀ {i:Nat},0<i→gA L i<i
 |i+1,_=>by
  unfold gA
  split
  ·omega
  ·rcases Nat.eq_zero_or_pos i with h|h
   ·subst h;simp [gA]
   ·have:=vm (L:=L) h;omega
theorem Is {L:List Pt} (i:Nat):gA L i≤i:=by
 rcases Nat.eq_zero_or_pos i with h|h
 ·subst h;simp [gA]
 ·exact Nat.le_of_lt (vm h)
theorem O4 (L:List Pt) (hn:L.length<2^40) (hL:hl L (2^26)):PC prog 179 [psV L] (.prim (.int .i64 ((gA L L.length:Nat):Int))):=by
 refine PCi ?_
 conv in bL _ _=>cbv
 simp only [bM,RN,simprocAttr]
 simp (disch:=omega) only [↓RS,RZ,simprocAttr,psV,cU]
 refine eG (fun (i:Nat) J=>ov [(0,psV L),(2,.prim (.int .i64 (0))),(3,.prim (.int .i64 ((gA L i:Nat):Int))),(6,psV L),(7,.prim (.int .i64 ((L.length:Nat):Int))),(8,.prim (.int .i64 ((i:Nat):Int)))] J 0 23) (fun i _=>i≤L.length) (fun i=>L.length-i) 0 rfl (bh _) ?_
 rintro i J H hi
 try conv in ov _ _ _ _=>simp only [ov,List.lookup,RO,simprocAttr]
 rcases am i L.length with hlt|hge
 ·have hk:gA L i<L.length:=Nat.lt_of_le_of_lt (Is i) hlt
  have e:gA L (i+1)=if bO (L.getD i default) (L.getD (gA L i) default)<0 then i else gA L i:=rfl
  generalize gA L i=k at*
  have g1:=lj hlt
  have g2:=lj hk
  have o:=kT (L.getD i default) (L.getD k default) (bi (od hL hlt) (by omega)) (bi (od hL hk) (by omega))
  simp (disch:=omega) only [↓RS,RZ,simprocAttr,psV,cU,g1,g2,pc,aZ]
  refine cX o ?_
  by_cases hz:bO (L.getD i default) (L.getD k default)<0
  ·rw [if_pos hz] at e
   simp (disch:=omega) only [↓RS,RZ,simprocAttr]
   exact bl (i+1) (by rw [e];rfl) hlt (by omega)
  ·rw [if_neg hz] at e
   simp (disch:=omega) only [↓RS,RZ,simprocAttr]
   exact bl (i+1) (by rw [e];rfl) hlt (by omega)
 ·have hia:i=L.length:=by omega
  subst hia
  simp (disch:=omega) only [↓RS,RZ,simprocAttr,psV,cU]
end Go.Av
namespace Go.Av
open Go.RowKit
open Go.Proofs.Tryz (prog)
theorem IO {X Y Z W:Rt}:eqA (aD prog) 9 37 (.agg [.prim (.bool X.neg),.prim (.string (bs (X.num))),.prim (.string (bs (X.den))),.prim (.bool Y.neg),.prim (.string (bs (Y.num))),.prim (.string (bs (Y.den)))]) (.agg [.prim (.bool Z.neg),.prim (.string (bs (Z.num))),.prim (.string (bs (Z.den))),.prim (.bool W.neg),.prim (.string (bs (W.num))),.prim (.string (bs (W.den)))])=some (decide (X=Z∧Y=W)):=by
 have h1:= @uE 6 X.neg Z.neg X.num X.den Z.num Z.den
 have h2:= @uE 6 Y.neg W.neg Y.num Y.den W.num W.den
 unfold eqA
 simp only [RT,eqA.eqFs,Bool.false_eq_true,if_false,String.reduceEq,eS,TK.isAgg,if_true,aC,aI,Nat.reduceAdd,Nat.reduceLeDiff,List.drop_zero,List.drop_succ_cons,List.take_succ_cons,List.take_zero,h1,h2]
 have e1:decide (Rt.mk X.neg X.num X.den=Rt.mk Z.neg Z.num Z.den)=decide (X=Z):=rfl
 have e2:decide (Rt.mk Y.neg Y.num Y.den=Rt.mk W.neg W.num W.den)=decide (Y=W):=rfl
 rw [e1,e2]
 by_cases a:X=Z<;>by_cases b:Y=W<;>simp [a,b]
theorem I2 (p q:Pt):decide (can p.x=can q.x∧can p.y=can q.y)=decide (p=q):=by
 rw [decide_eq_decide]
 exact ⟨fun h=>Pt.ext (Kt h.1) (Kt h.2),fun h=>by subst h;exact ⟨rfl,rfl⟩⟩
theorem LN (L:List Pt) (q:Pt) (hn:L.length<2^40):PC prog 56 [psV L,pV q] (.prim (.int .i64 (oa L.length fun i=>decide (q=L.getD i default)))):=by
 refine PCi ?_
 conv in bL _ _=>cbv
 simp only [bM,RN,simprocAttr]
 simp (disch:=omega) only [↓RS,RZ,simprocAttr,psV,cU,pV,ptV]
 refine eG (fun (i:Nat) J=>ov [(0,psV L),(3,.ptr 0 0 0),(4,.prim (.int .i64 (0))),(6,psV L),(7,.prim (.int .i64 ((L.length:Nat):Int))),(8,.prim (.int .i64 ((i:Nat):Int)))] J 0 19) (fun i H=>(i≤L.length∧∀ j,j<i→decide (q=L.getD j default)=false)∧H=[some (.row 6 true [pc q])]) (fun i=>L.length-i) 0 rfl ⟨⟨bh _,fun j hj=>absurd hj (Nat.not_lt_zero j)⟩,rfl⟩ ?_
 rintro i J _ ⟨⟨hi,hp⟩,rfl⟩
 try conv in ov _ _ _ _=>simp only [ov,List.lookup,RO,simprocAttr]
 rcases am i L.length with hlt|hge
 ·have g:=lj hlt
  have e:=I2 q (L.getD i default)
  by_cases hz:q=L.getD i default
  ·rw [lT hlt (an hz) hp]
   rw [an hz] at e
   simp (disch:=omega) only [↓RS,RZ,simprocAttr,psV,cU,g,pc,IO,e]
  ·rw [ak hz] at e
   simp (disch:=omega) only [↓RS,RZ,simprocAttr,psV,cU,g,pc,IO,e]
   exact bl (i+1) rfl ⟨⟨hlt,fun j hj=>by
    rcases am j i with h|h
    ·simpa using hp j h
    ·rw [show j=i by omega];simpa using hz⟩,rfl⟩ (by omega)
 ·have hia:i=L.length:=by omega
  subst hia
  rw [ki hp]
  simp (disch:=omega) only [↓RS,RZ,simprocAttr,psV,cU,pc]
theorem mem_range (L:List Pt) (q:Pt):((List.range L.length).any fun i=>decide (q=L.getD i default))=decide (q∈L):=by
 rw [Bool.eq_iff_iff,List.any_eq_true,aE]
 constructor
 ·rintro ⟨i,hi,h⟩
  have hi:i<L.length:=by simpa using hi
  rw [of_decide_eq_true h,ae,af hi];exact bx hi
 ·intro h
  obtain ⟨i,hi,rfl⟩:=bK.1 h
  exact ⟨i,by simpa using hi,an (by rw [ae,af hi];rfl)⟩
theorem pO (L:List Pt) (q:Pt) (hn:L.length<2^40):PC prog 14 [psV L,pV q] (.prim (.bool (decide (q∈L)))):=by
 refine PCi ?_
 conv in bL _ _=>cbv
 simp only [bM,RN,simprocAttr]
 have h:=LN L q hn
 rw [←mem_range,←kX]
 simp (disch:=omega) only [↓RS,RZ,simprocAttr,psV,pV,ptV]
 refine cX h ?_
 simp (disch:=omega) only [↓RS,RZ,simprocAttr]
end Go.Av
namespace Go.Av
theorem sE {p q:Rat}:jV p q≤0↔p≤q:=by
 unfold jV
 by_cases h:p<q
 ·rw [if_pos h];exact ⟨fun _=>ai h,fun _=>by omega⟩
 ·rw [if_neg h]
  by_cases h2:q<p
  ·rw [if_pos h2];exact ⟨fun h=>by omega,fun h=>absurd h2 (Rat.not_lt.2 h)⟩
  ·rw [if_neg h2];exact ⟨fun _=>Rat.not_lt.1 h2,fun _=>by omega⟩
theorem yV {p q:Rat}:0≤jV p q↔q≤p:=by
 unfold jV
 by_cases h:p<q
 ·rw [if_pos h];exact ⟨fun h=>by omega,fun h2=>absurd h (Rat.not_lt.2 h2)⟩
 ·rw [if_neg h]
  by_cases h2:q<p
  ·rw [if_pos h2];exact ⟨fun _=>ai h2,fun _=>by omega⟩
  ·rw [if_neg h2];exact ⟨fun _=>Rat.not_lt.1 h,fun _=>by omega⟩
theorem cf {p q:Rat} (h:p≤q):p<q∨p=q:=by
 by_cases e:p=q
 ·exact .inr e
 ·left
  rcases Rat.le_total (a:=q) (b:=p) with h2|h2
  ·exact absurd (Rat.le_antisymm h h2) e
  ·exact Rat.not_le.1 fun h3=>e (Rat.le_antisymm h h3)
theorem xz {p q r:Rat} (h:p<q) (k:q<r):p<r:=Rat.not_le.1 fun h2=>Rat.not_le.2 h (iy (ai k) h2)
theorem eH (p q:Rat):p<q∨p=q∨q<p:=by
 rcases Rat.le_total (a:=p) (b:=q) with h|h
 ·rcases cf h with h|h
  ·exact .inl h
  ·exact .inr (.inl h)
 ·rcases cf h with h|h
  ·exact .inr (.inr h)
  ·exact .inr (.inl h.symm)
theorem ni {p q:Pt}:bO p q≤0↔p.x<q.x∨(p.x=q.x∧p.y≤q.y):=by
 unfold bO
 by_cases h:jV p.x q.x=0
 ·rw [if_pos h]
  have e:=lL.1 h
  rw [sE,e]
  exact ⟨fun h=> .inr ⟨rfl,h⟩,fun h=>h.elim (fun h=>absurd h aL) (·.2)⟩
 ·rw [if_neg h,sE]
  have hne:p.x≠q.x:=fun e=>h (lL.2 e)
  exact ⟨fun h=> .inl ((cf h).resolve_right hne),fun h=>h.elim ai (fun h=>absurd h.1 hne)⟩
theorem je {p q r:Pt} (h1:bO p q≤0) (h2:bO q r≤0):bO p r≤0:=by
 rw [ni] at*
 rcases h1 with h1|⟨h1,h1'⟩<;>rcases h2 with h2|⟨h2,h2'⟩
 ·exact .inl (xz h1 h2)
 ·exact .inl (h2▸h1)
 ·exact .inl (h1▸h2)
 ·exact .inr ⟨h1.trans h2,iy h1' h2'⟩
theorem l8 (p q:Pt):bO p q≤0∨bO q p≤0:=by
 rw [ni,ni]
 rcases eH p.x q.x with h|h|h
 ·exact .inl (.inl h)
 ·rcases Rat.le_total (a:=p.y) (b:=q.y) with h2|h2
  ·exact .inl (.inr ⟨h,h2⟩)
  ·exact .inr (.inr ⟨h.symm,h2⟩)
 ·exact .inr (.inl h)
theorem iZ (p:Pt):bO p p=0:=by unfold bO;rw [if_pos (lL.2 rfl)];exact lL.2 rfl
theorem c7 {p q:Pt}:bO p q=0↔p=q:=by
 constructor
 ·intro h
  unfold bO at h
  split at h
  ·rename_i h1;exact Pt.ext (lL.1 h1) (lL.1 h)
  ·contradiction
 ·rintro rfl;exact iZ _
theorem qK {p q:Pt} (h:0<bO p q):bO q p≤0:=by
 rcases l8 p q with h1|h1
 ·omega
 ·exact h1
theorem Gt (s:Sg):bO s.order.a s.order.b≤0:=by
 unfold Sg.order
 split
 ·rename_i h;exact qK h
 ·omega
theorem Ap (s:Sg) {P:Pt} (h:P=s.a∨P=s.b):bO s.order.a P≤0∧bO P s.order.b≤0:=by
 have h0:=Gt s
 have hr:=fun p:Pt=>Int.le_of_eq (iZ p)
 unfold Sg.order at*
 split at h0<;>rename_i h1<;>rcases h with rfl|rfl
 ·rw [if_pos h1];exact ⟨h0,hr _⟩
 ·rw [if_pos h1];exact ⟨hr _,h0⟩
 ·rw [if_neg h1];exact ⟨hr _,h0⟩
 ·rw [if_neg h1];exact ⟨h0,hr _⟩
theorem KM:unit 0=true:=by decide+kernel
theorem MI:unit 1=true:=by decide+kernel
theorem L4 {x:Rat} (h:x≠0):x/x=1:=by grind
theorem KH {x:Rat}:0/x=0:=by grind
theorem yz {s t:Sg} (hs:s.ok) (ht:t.ok) {P:Pt} (h1:P=s.a∨P=s.b) (h2:P=t.a∨P=t.b):(iI s t).isSome=true:=by
 rw [iI,if_pos ⟨hs,ht⟩]
 unfold qB
 by_cases hd:cross s.dir t.dir=0
 ·rw [if_neg (fun h=>h hd)]
  have hw:cross s.dir (t.a.sub s.a)=0:=by
   rcases h1 with h1|h1<;>rcases h2 with h2|h2<;>(have hx:=h1.symm.trans h2;revert hd;simp only [Sg.dir,cross,Pt.sub])<;>(have ex:=congrArg Pt.x hx;have ey:=congrArg Pt.y hx;grind)
  rw [if_neg (fun h=>h hw),if_neg]
  ·rfl
  ·have:=Ap s h1
   have:=Ap t h2
   have e1:bO (greater s.order.a t.order.a) P≤0:=by unfold greater;split<;>simp_all
   have e2:bO P (lesser s.order.b t.order.b)≤0:=by unfold lesser;split<;>simp_all
   have:=je e1 e2
   omega
 ·rw [if_pos hd]
  have key:∀ u v:Rat,(u=0∨u=cross s.dir t.dir)→(v=0∨v=cross s.dir t.dir)→(unit (u/cross s.dir t.dir)&&unit (v/cross s.dir t.dir))=true:=by
   have hz:∀ u:Rat,(u=0∨u=cross s.dir t.dir)→unit (u/cross s.dir t.dir)=true:=by
    rintro u (rfl|rfl)
    ·rw [KH,KM]
    ·rw [L4 hd,MI]
   intro u v hu hv
   rw [hz u hu,hz v hv];rfl
  rw [if_pos (key _ _ ?_ ?_)]
  ·rfl
  ·rcases h1 with h1|h1<;>rcases h2 with h2|h2<;>(have hx:=h1.symm.trans h2;have ex:=congrArg Pt.x hx;have ey:=congrArg Pt.y hx;simp only [Sg.dir,cross,Pt.sub];grind)
  ·rcases h1 with h1|h1<;>rcases h2 with h2|h2<;>(have hx:=h1.symm.trans h2;have ex:=congrArg Pt.x hx;have ey:=congrArg Pt.y hx;simp only [Sg.dir,cross,Pt.sub];grind)
end Go.Av
