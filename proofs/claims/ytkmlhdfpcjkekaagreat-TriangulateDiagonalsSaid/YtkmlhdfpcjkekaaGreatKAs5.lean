/- Helping texts: As5, As6. -/
import Derived.Test.YtkmlhdfpcjkekaaGreatKAs4
import Derived.Laws.BytesString
import Derived.Laws.Append
import Derived.Laws.NewFold
set_option linter.unusedSimpArgs false
set_option linter.unusedVariables false
set_option maxRecDepth 100000
set_option maxHeartbeats 16000000
namespace Go.Av
open Go.RowKit
variable {P:Program} {φ φ' φ'':Nat→Option Loc} {I I' I'':Nat→Prop} {H H' H'':Hp} {w w' w'':World}
theorem K4 {e:List V} {B o:Nat} (hc:∀ (k:Nat) (v:V),e[k]? =some v→∃ x,w.cell? ⟨B,o+k,none⟩=some x∧VR φ I w v x) (j n:Nat) (h:j+n≤e.length):
 ∃ xs:List Value,xs.length=n∧VRs φ I w ((e.drop j).take n) xs.toArray∧∀ W:World,W.heap=w.heap→(loadCells ⟨B,o+j,none⟩ n).run P W= .ok xs.toArray W:=by
 refine ⟨(List.range n).map fun m=>(w.cell? ⟨B,o+j+m,none⟩).getD undef,by simp,⟨by simp;omega,?_⟩,fun W hW=> ?_⟩
 ·intro k v x h1 h2
  rw [fE] at h1
  split at h1
  ·rename_i hk
   rw [List.getElem?_drop] at h1
   obtain ⟨y,hy,hvy⟩:=hc _ v h1
   simp only [List.getElem?_toArray,aW,List.getElem?_range hk,bj,bu] at h2
   rw [Nat.add_assoc,hy] at h2
   simp at h2;subst h2;exact hvy
  ·cases h1
 ·refine run_loadCells W _ n _ fun m hm=> ?_
  rw [mQ]
  have hlt:j+m<e.length:=by omega
  obtain ⟨y,hy,_⟩:=hc (j+m) _ (af hlt)
  have:W.cell? ⟨B,o+j+m,none⟩=w.cell? ⟨B,o+j+m,none⟩:=World.cell?_of_block (by rw [hW])
  rw [this,Nat.add_assoc,hy];rfl
theorem vZ {t:TypeId} {i:TyI} (ht:aD P t=some i) {e:List V} {B o:Nat} (hc:∀ (k:Nat) (v:V),e[k]? =some v→∃ x,w.cell? ⟨B,o+k,none⟩=some x∧VR φ I w v x) {j:Nat} {v:V} (hr:eS i e j=some v):
 ∃ x,(loadVar t ⟨B,o+j,none⟩).run P w= .ok x w∧VR φ I w v x:=by
 unfold eS at hr
 by_cases hg:i.k.isAgg=true
 ·simp only [hg,if_true] at hr
  split at hr
  ·rename_i hle
   simp only [bu] at hr
   subst hr
   obtain ⟨xs,_,hxs,hrun⟩:=K4 (P:=P) hc j i.sz hle
   exact ⟨.agg xs.toArray,by simp [loadVar,zw ht,hg,gV ht,hrun w rfl],VRs.agg hxs⟩
  ·cases hr
 ·simp only [hg,Bool.false_eq_true,if_false] at hr
  obtain ⟨x,hx,hv⟩:=hc j v hr
  exact ⟨x,by simp [loadVar,zw ht,hg,hx],hv⟩
theorem SR.row {b:Nat} {L:Loc} {sz:Nat} {m:Bool} {es:List (List V)} (hS:SR φ I H w) (hb:φ b=some L) (hk:get H b=some (.row sz m es)):
 L.sz=sz∧(∃ c t,w.heap[L.B]? =some (.cells c t (0,0))∧L.off+es.length*sz≤c.size)∧
 (∀ (i:Nat) (e:List V),es[i]? =some e→e.length=sz)∧
 (∀ (i:Nat) (e:List V) (k:Nat) (v:V),es[i]? =some e→e[k]? =some v→∃ x,w.cell? ⟨L.B,L.off+i*sz+k,none⟩=some x∧VR φ I w v x)∧(m=true↔¬I L.B):=hS.blk b L _ hb hk
theorem rK {sz:Nat} {v:V} {es:List (List V)} (h:jz H sz v=some es) {x:Value} (hv:VR φ I w v x) (hS:SR φ I H w):
 ∃ xs:List Value,xs.length=es.length*sz∧(∀ (W:World) (q:Nat),W.heap=w.heap→q≤es.length→(Builtin.firstCells sz q x).run P W= .ok (xs.take (q*sz)).toArray W)∧(∀ W,(Builtin.lenOf x).run P W= .ok es.length W)∧
  (∀ (i:Nat) (e:List V),es[i]? =some e→e.length=sz)∧
  (∀ (i:Nat) (e:List V) (k:Nat) (v:V),es[i]? =some e→e[k]? =some v→∃ y,xs[i*sz+k]? =some y∧VR φ I w v y)∧
  ((∃ a c,x= .slice a es.length c)∨∃ s,x= .string s):=by
 have base:∀ (es:List (List V)) (B A:Nat),(∀ (i:Nat) (e:List V),es[i]? =some e→e.length=sz)→(∀ (i:Nat) (e:List V) (k:Nat) (v:V),es[i]? =some e→e[k]? =some v→∃ x,w.cell? ⟨B,A+i*sz+k,none⟩=some x∧VR φ I w v x)→
  ∃ xs:List Value,xs.length=es.length*sz∧(∀ (W:World) (q:Nat),W.heap=w.heap→q≤es.length→(loadCells ⟨B,A,none⟩ (q*sz)).run P W= .ok (xs.take (q*sz)).toArray W)∧
   (∀ (i:Nat) (e:List V) (k:Nat) (v:V),es[i]? =some e→e[k]? =some v→∃ y,xs[i*sz+k]? =some y∧VR φ I w v y):=by
  intro es B A hsz hc
  refine ⟨(List.range (es.length*sz)).map fun m=>(w.cell? ⟨B,A+m,none⟩).getD undef,by simp,fun W q hW hq=> ?_,?_⟩
  ·have hqs:q*sz≤es.length*sz:=aS _ hq
   rw [←List.map_take,List.take_range,Nat.min_eq_left hqs]
   refine run_loadCells W _ _ _ fun m hm0=> ?_
   have hm:m<es.length*sz:=by omega
   rw [mQ]
   have hs0:0<sz:=Nat.pos_of_ne_zero (by rintro rfl;simp at hm)
   have hi:m/sz<es.length:=Nat.div_lt_of_lt_mul (by rw [Nat.mul_comm];exact hm)
   have he:=af hi
   have hl:=hsz _ _ he
   have hk:m%sz<es[m/sz].length:=by rw [hl];exact Nat.mod_lt _ hs0
   obtain ⟨y,hy,_⟩:=hc _ _ _ _ he (af hk)
   have e1:A+m/sz*sz+m%sz=A+m:=by rw [Nat.add_assoc,Nat.div_add_mod' m sz]
   rw [e1] at hy
   have:W.cell? ⟨B,A+m,none⟩=w.cell? ⟨B,A+m,none⟩:=World.cell?_of_block (by rw [hW])
   rw [this,hy];rfl
  ·intro i e k v he hk
   obtain ⟨y,hy,hvy⟩:=hc i e k v he hk
   refine ⟨y,?_,hvy⟩
   have h1:=hsz i e he
   have hi:=(aH.1 he).1
   have hk':=(aH.1 hk).1
   have:i*sz+k<es.length*sz:=by
    have:(i+1)*sz≤es.length*sz:=aS _ hi
    rw [Nat.add_mul] at this;omega
   rw [aW,List.getElem?_range this]
   simp only [bj]
   rw [←Nat.add_assoc,hy];rfl
 unfold jz at h
 split at h
 ·cases h
  have:=hv.prim_inv.1;subst this
  exact ⟨[],by simp,fun W q _ _=>by simp [Builtin.firstCells],fun W=>by simp [Builtin.lenOf],by simp,by simp,.inl ⟨_,_,rfl⟩⟩
 ·rename_i s
  split at h
  ·rename_i h1
   subst h1
   cases h
   have:=hv.prim_inv.1;subst this
   refine ⟨s.data.toList.map fun b=> .int .u8 b.toNat,by simp,fun W q _ hq=> ?_,fun W=>by simp [Builtin.lenOf],?_,?_,.inr ⟨_,rfl⟩⟩
   ·simp only [Builtin.firstCells,Sem.run_pure,Nat.mul_one]
    congr 1
    apply Array.ext'
    simp [ByteArray.extract,ByteArray.copySlice,←List.map_take]
   ·intro i e he
    simp only [aW,Option.map_eq_some_iff] at he
    obtain ⟨b,_,rfl⟩:=he;rfl
   ·intro i e k v he hk
    simp only [aW,Option.map_eq_some_iff] at he
    obtain ⟨b,hb,rfl⟩:=he
    cases k with
    |zero=>simp at hk;subst hk;exact ⟨_,by simp only [Nat.mul_one,Nat.add_zero,aW,hb,bj],.prim rfl⟩
    |succ k=>simp at hk
  ·cases h
 ·rename_i k es'
  split at h
  ·rename_i h1
   subst h1
   cases h
   obtain ⟨a,cap,rfl,hcap,hes⟩:=hv.lst_inv
   rcases hes with rfl|⟨B,o,rfl,val,hI,hsz1,hc1,hv1⟩
   ·refine ⟨[],by simp,fun W q _ hq=> ?_,fun W=>by simp [Builtin.lenOf],by simp,by simp,.inl ⟨_,_,rfl⟩⟩
    have:q=0:=by simpa using hq
    subst this
    cases a<;>simp [Builtin.firstCells,loadCells,loadCellsFrom]
   ·obtain ⟨xs,q1,q2,q3⟩:=base es B o hsz1 (fun i e k v he hk=>⟨_,hc1 i e k v he hk,(hv1 i e k v he hk).any⟩)
    exact ⟨xs,q1,fun W q hW hq=>by simp [Builtin.firstCells,q2 W q hW hq],fun W=>by simp [Builtin.lenOf],hsz1,q3,.inl ⟨_,_,rfl⟩⟩
  ·cases h
 ·rename_i b o n _ _ _
  split at h
  ·rename_i k m0 es0 hget
   split at h
   ·rename_i hh
    obtain ⟨rfl,hle⟩:=hh
    cases h
    obtain ⟨L,A,cap,t,m,hL,rfl,hLs,g1,g2,g3,g4,g5,g6⟩:=hv.sref_inv
    obtain ⟨r1,⟨c,tt,r2,r3⟩,r4,r5,r6⟩:=hS.row hL hget
    have hlen:((es0.drop o).take n).length=n:=by simp;omega
    have hgt:∀ (i:Nat) (e:List V),((es0.drop o).take n)[i]? =some e→es0[o+i]? =some e:=by
     intro i e he
     rw [fE] at he
     split at he
     ·rw [List.getElem?_drop] at he;exact he
     ·cases he
    have hA:∀ (i:Nat) (e:List V),((es0.drop o).take n)[i]? =some e→A=L.off+o*k:=by
     intro i e he
     have:=(aH.1 he).1
     rw [hlen] at this
     rw [←r1];exact g5.resolve_right (by omega)
    obtain ⟨xs,q1,q2,q3⟩:=base ((es0.drop o).take n) L.B A (fun i e he=>r4 _ _ (hgt i e he)) (fun i e k' v he hk=>by
     have:=r5 _ _ _ _ (hgt i e he) hk
     rw [hA i e he]
     rw [Nat.add_mul,←Nat.add_assoc] at this;exact this)
    rw [hlen] at q1 q2
    refine ⟨xs,by rw [hlen];exact q1,fun W q hW hq=> ?_,fun W=>by simp [Builtin.lenOf,hlen],fun i e he=>r4 _ _ (hgt i e he),q3,.inl ⟨_,_,by rw [hlen]⟩⟩
    rw [hlen] at hq;simp [Builtin.firstCells,q2 W q hW hq]
   ·cases h
  ·cases h
 ·cases h
theorem vb:∀ (es:List (List V)) (l:List UInt8),qL es=some l→l.length=es.length∧∀ (i:Nat) (b:UInt8),l[i]? =some b→∃ n:Int,es[i]? =some [V.prim (.int .u8 n)]∧b=UInt8.ofNat n.toNat
 |[],l,h=>by simp [qL] at h;subst h;simp
 |e::es,l,h=>by
  unfold qL at h
  split at h
  ·rename_i h0;cases h0
  ·rename_i n es' heq
   cases heq
   split at h
   ·rename_i l' hl'
    cases h
    obtain ⟨h1,h2⟩:=vb es l' hl'
    refine ⟨by simp [h1],fun i b hb=> ?_⟩
    cases i with
    |zero=>simp at hb;exact ⟨n,rfl,hb.symm⟩
    |succ i=>simp at hb;simpa using h2 i b hb
   ·cases h
  ·cases h
theorem Ah:∀ (ns:List Int) (s:ByteArray),ns.foldl (fun r n=>r.push (UInt8.ofNat n.toNat)) s=⟨s.data++(ns.map fun n=>UInt8.ofNat n.toNat).toArray⟩
 |[],s=>by simp
 |n::ns,s=>by
  rw [List.foldl_cons,Ah ns]
  congr 1
  simp [ByteArray.push]
theorem Kf:∀ (xs:List Value) (l:List UInt8),(∀ (i:Nat) (b:UInt8),l[i]? =some b→∃ n:Int,xs[i]? =some (Value.int .u8 n)∧b=UInt8.ofNat n.toNat)→xs.length=l.length→
 ∃ ns:List Int,xs=ns.map (Value.int .u8)∧l=ns.map fun n=>UInt8.ofNat n.toNat
 |[],[],_,_=>⟨[],rfl,rfl⟩
 |[],b::l,_,h=>by simp at h
 |x::xs,[],_,h=>by simp at h
 |x::xs,b::l,hc,h=>by
  obtain ⟨n,h1,h2⟩:=hc 0 b rfl
  obtain ⟨ns,h3,h4⟩:=Kf xs l (fun i b hb=>hc (i+1) b hb) (by simpa using h)
  simp at h1
  exact ⟨n::ns,by rw [h1,h3];rfl,by rw [h2,h4];rfl⟩
theorem QO {o:Oper} {T:List V} {a:Act} {v:V} (h:evL (aD P) T H o.op=some v) (hok:uS o.op=true) (hT:VRs φ I w T a.tmps) (hS:SR φ I H w):
 ∃ x,(execOp a.eval o).run P w= .ok (.value x) w∧VR φ I w v x:=by
 have hgood:=kE hok
 obtain ⟨dst,op,ty,pos,aft,gd⟩:=o
 simp only at h hgood
 unfold evL at h
 split at h
 ·rename_i t ad
  have hv:=ia hT ad (hgood ad (by simp [Op.operands]))
  split at h
  ·rename_i i b k j ht hx
   rw [hx] at hv
   obtain ⟨L,hL,hy⟩:=hv.ptr_inv
   split at h
   ·rename_i sz m es hg
    split at h
    ·rename_i e he
     obtain ⟨r1,_,_,r5,_⟩:=hS.row hL hg
     obtain ⟨x,hx1,hx2⟩:=vZ ht (e:=e) (B:=L.B) (o:=L.off+k*sz) (fun q v hq=>r5 k e q v he hq) h
     exact ⟨x,by simp [execOp,Instr.loadAt,hy,Instr.sureAddr,r1,hx1],hx2⟩
    ·cases h
   ·cases h
  ·rename_i i e j ht hx
   rw [hx] at hv
   obtain ⟨B,o,hy,val,hI,hc1,hv1⟩:=hv.ivp_inv
   obtain ⟨x,hx1,hx2⟩:=vZ ht (e:=e) (B:=B) (o:=o) (fun q v hq=>⟨_,hc1 q v hq,(hv1 q v hq).any⟩) h
   exact ⟨x,by simp [execOp,Instr.loadAt,hy,Instr.sureAddr,hx1],hx2⟩
  ·cases h
 ·rename_i s d x
  have hv:=ia hT x (hgood x (by simp [Op.operands]))
  split at h
  ·rename_i si di hs hd
   split at h
   ·rename_i e hk1 hk2
    split at h
    ·rename_i ei hei
     split at h
     ·rename_i nl es hk3 hlen hel
      split at h
      ·rename_i hsz
       simp only [Option.map_eq_some_iff] at h
       obtain ⟨l,hl,rfl⟩:=h
       obtain ⟨xs,q1,q2,q3,q4,q5,q6⟩:=rK (P:=P) hel hv hS
       obtain ⟨b1,b2⟩:=vb es l hl
       refine ⟨_,?_,.prim rfl⟩
       have hs1:=gD hs hk1
       have hd1:=qt hd hk2
       have he1:=uk hei hk3
       obtain ⟨aa,c,hy⟩:=GL hlen hv
       have hn:nl=es.length:=by
        have:=q3 w
        rw [hy] at this
        simpa [Builtin.lenOf] using this
       have hcell:∀ (i:Nat) (b:UInt8),l[i]? =some b→∃ n:Int,xs[i]? =some (Value.int .u8 n)∧b=UInt8.ofNat n.toNat:=by
        intro i b hb
        obtain ⟨n,hn1,hn2⟩:=b2 i b hb
        obtain ⟨y,hy1,hy2⟩:=q5 i _ 0 _ hn1 rfl
        rw [hsz] at hy1
        simp only [Nat.mul_one,Nat.add_zero] at hy1
        exact ⟨n,by rw [hy1,hy2.prim_inv.1],hn2⟩
       have hxl:xs.length=l.length:=by rw [q1,hsz,b1];omega
       have hxs:∃ ns:List Int,xs=ns.map (Value.int .u8)∧l=ns.map fun n=>UInt8.ofNat n.toNat:=Kf xs l hcell hxl
       obtain ⟨ns,rfl,rfl⟩:=hxs
       have hrun:(Conv.bytesToString (.slice aa nl c)).run P w= .ok (.string ⟨(ns.map fun n=>UInt8.ofNat n.toNat).toArray⟩) w:=by
        cases aa with
        |none=>
         have:ns=[]:=by
          have:=q2 w es.length rfl (ax _)
          rw [hy,List.take_of_length_le (by rw [q1];omega)] at this
          simp [Builtin.firstCells] at this
          exact this
         subst this
         simp [Conv.bytesToString];rfl
        |some aa=>
         have:=q2 w es.length rfl (ax _)
         rw [hy,List.take_of_length_le (by rw [q1];omega)] at this
         simp only [Builtin.firstCells,hsz,Nat.mul_one] at this
         rw [hn,run_bytesToString w aa es.length c ns this,Ah]
         simp
       simp only [execOp,convert,hy,Sem.run_bind,run_underlying hs1,run_underlying hd1,run_underlying he1,aQ,hrun,Sem.run_pure]
      ·cases h
     ·cases h
    ·cases h
   ·cases h
  ·cases h
 ·
  rename_i t m k ok
  have hm:=ia hT m (hgood m (by simp [Op.operands]))
  have hk:=ia hT k (hgood k (by simp [Op.operands]))
  split at h
  ·rename_i i ht
   split at h
   ·rename_i kt et b hkk hb
    split at h
    ·rename_i es hg
     rw [hb] at hm
     obtain ⟨L,hL,hy⟩:=J6 hm
     obtain ⟨_,ents,clock,hh,hmp⟩:=hS.blk b L _ hL hg
     obtain ⟨y,hy1,hy2⟩:=Ir ht hkk h hk hh hmp
     exact ⟨y,by simp [execOp,hy,hy1],hy2⟩
    ·cases h
   ·cases h
  ·cases h
 ·cases h
theorem pf (W:World) (c:Array Value) (t:TypeId):(newRow t c).run P W= .ok ⟨W.heap.size,0,none⟩ (W.alloc (.cells c t)):=by
 simp [newRow]
theorem rn (W:World) (c:Array Value) (t:TypeId):(W.alloc (.cells c t)).shape? W.heap.size=some (t,c.size):=by
 have:=World.alloc_heap_new W (.cells c t)
 simp only [World.shape?,this]
theorem l5 {α:Type} {n:Nat} {x e:α} {i:Nat} (h:(List.replicate n x)[i]? =some e):e=x∧i<n:=by
 rw [List.getElem?_replicate] at h;split at h
 ·cases h;exact ⟨rfl,by assumption⟩
 ·cases h
theorem o7 {sz:Nat}:∀ {es:List (List V)},(∀ e∈es,e.length=sz)→es.flatten.length=es.length*sz
 |[],_=>by simp
 |e::es,h=>by
  rw [List.flatten_cons,aK,o7 (fun x hx=>h x (by simp [hx])),h e (by simp),aC,Nat.add_mul];omega
theorem tP {sz:Nat}:∀ {es:List (List V)} {i:Nat} {e:List V} {k:Nat},(∀ e∈es,e.length=sz)→es[i]? =some e→k<sz→es.flatten[i*sz+k]? =e[k]?
 |[],i,e,k,_,h,_=>by simp at h
 |e0::es,0,e,k,hs,h,hk=>by
  simp at h;subst h
  rw [List.flatten_cons,bB (by rw [hs e0 (by simp)];omega)];simp
 |e0::es,i+1,e,k,hs,h,hk=>by
  simp at h
  have h0:=hs e0 (by simp)
  rw [List.flatten_cons,bv (by rw [h0,Nat.add_mul];omega),h0,←tP (fun x hx=>hs x (by simp [hx])) h hk]
  congr 1;rw [Nat.add_mul];omega
theorem yN {sz:Nat}:∀ {es:List (List V)} {p:Nat} {y:List V},(∀ e∈es,e.length=sz)→y.length=sz→p<es.length→(es.set p y).flatten=jf es.flatten (p*sz) y
 |[],p,y,_,_,h=>by simp at h
 |e0::es,0,y,hs,hy,h=>by
  have h0:=hs e0 (by simp)
  simp only [List.set_cons_zero,List.flatten_cons,jf,Nat.zero_mul,List.take_zero,List.nil_append,aX]
  congr 1
  rw [hy,←h0,List.drop_left]
 |e0::es,p+1,y,hs,hy,h=>by
  have h0:=hs e0 (by simp)
  simp only [List.set_cons_succ,List.flatten_cons]
  rw [yN (fun x hx=>hs x (by simp [hx])) hy (by simp at h;omega)]
  have e1:(p+1)*sz=e0.length+p*sz:=by rw [h0,Nat.add_mul];omega
  unfold jf
  rw [e1,show e0.length+p*sz+y.length=e0.length+(p*sz+y.length) by omega,List.take_length_add_append,List.drop_length_add_append]
  simp only [bE]
theorem LW {α β:Type} (F:Option α→β→Option α) (hF:∀ p,F none p=none) (l:List β):l.foldl F none=none:=by induction l<;>simp_all
theorem DQ {sz:Nat} (g:Operand→List V):∀ (ps:List (Nat×Operand)) (es es':List (List V)),(∀ e∈es,e.length=sz)→
 ps.foldl (fun (acc:Option (List (List V))) (p:Nat×Operand)=>match acc with
  |some es=>if (g p.2).length=sz∧p.1<es.length then some (es.set p.1 (g p.2)) else none
  |none=>none) (some es)=some es'→
 (∀ e∈es',e.length=sz)∧es'.length=es.length∧
 ps.foldl (fun (acc:Option (List V)) (p:Nat×Operand)=>match acc with
  |some cs=>if (g p.2).length=sz∧p.1*sz+sz≤cs.length then some (jf cs (p.1*sz) (g p.2)) else none
  |none=>none) (some es.flatten)=some es'.flatten
 |[],es,es',hs,h=>by simp at h;subst h;exact ⟨hs,rfl,rfl⟩
 |p::ps,es,es',hs,h=>by
  simp only [List.foldl_cons] at h ⊢
  by_cases hc:(g p.2).length=sz∧p.1<es.length
  ·rw [if_pos hc] at h
   have hs':∀ e∈es.set p.1 (g p.2),e.length=sz:=fun e he=>by
    rcases List.mem_or_eq_of_mem_set he with h1|h1
    ·exact hs e h1
    ·rw [h1];exact hc.1
   obtain ⟨q1,q2,q3⟩:=DQ g ps _ _ hs' h
   refine ⟨q1,by rw [q2];simp,?_⟩
   have hle:p.1*sz+sz≤es.flatten.length:=by
    rw [o7 hs]
    have:(p.1+1)*sz≤es.length*sz:=aS _ hc.2
    rw [Nat.add_mul] at this;omega
   rw [if_pos ⟨hc.1,hle⟩,←yN hs hc.1 hc.2]
   exact q3
  ·rw [if_neg hc,LW _ (fun _=>rfl)] at h;cases h
theorem uD {c sz:Nat} {zs:Array Value} (hz:zs.size=sz) {i k:Nat} (hi:i<c) (hk:k<sz):
 ((Array.range (c*sz)).map (zs[·%zs.size]!))[i*sz+k]? =some (zs.getD k default):=by
 have h1:i*sz+k<c*sz:=by
  have:(i+1)*sz≤c*sz:=aS _ hi
  rw [Nat.add_mul] at this;omega
 rw [Array.getElem?_map,Array.getElem?_range]
 simp only [h1,if_true,bj]
 congr 1
 rw [hz,Nat.mul_comm i sz,Nat.mul_add_mod,bA hk,Array.getD_eq_getD_getElem?,getElem!_def]
 cases zs[k]? <;>rfl
theorem Ib:Array.range 0=#[]:=rfl
theorem QP {o:Oper} {T:List V} {a:Act} {c:Prop} {k:Blk} {mk:Nat→V} (h:evA (aD P) T o.op=some (c,k,mk)) (hc:c) (hok:uS o.op=true) (hT:VRs φ I w T a.tmps) (hS:SR φ I H w)
 {nid:Nat} (hn:φ nid=none) (hd:get H nid=none) (hnl:nid≤H.length):
 ∃ x w' φ',(execOp a.eval o).run P w= .ok (.value x) w'∧VR φ' I w' (mk nid) x∧SR φ' I (j4 H nid (some k)) w'∧iC φ I H w φ' I (j4 H nid (some k)) w'∧(∀ b,b≠nid→φ' b=φ b):=by
 have hgood:=kE hok
 obtain ⟨dst,op,ty,pos,aft,gd⟩:=o
 simp only at h hgood
 unfold evA at h
 split at h
 ·
  rename_i t
  split at h
  ·rename_i i ht
   cases h
   obtain ⟨z,hz1,hz2⟩:=oU ht
   have hl:=lr ht
   have hzl:z.cells.size=i.sz:=by rw [←hl,←hz1];simp
   obtain ⟨g1,g2⟩:=SR.alloc hS (W:=w) (t:=t) (c:=z.cells) (sz:=i.sz) (es:=[i.zero.map .prim]) hn hd hnl rfl ⟨rfl,rfl,rfl⟩ (by simp [hzl])
    (by intro j e he;cases j with|zero=>simp at he;subst he;simp [hl]|succ j=>simp at he)
    (by
     intro j e q v he hq
     cases j with
     |zero=>
      simp at he;subst he
      rw [aW] at hq
      cases hzq:i.zero[q]? with
      |none=>rw [hzq] at hq;cases hq
      |some y=>
       rw [hzq] at hq;cases hq
       exact ⟨y,by rw [←hz1,Array.getElem?_toList] at hzq;simpa using hzq,.prim (oD ht y (List.mem_of_getElem? hzq))⟩
     |succ j=>simp at he)
   refine ⟨_,_,_,?_,VR.ptr (cd φ nid _),g1,g2,fun b hb=>cz φ _ hb⟩
   simp [execOp,Instr.alloc,hz2,newVar,pf]
  ·cases h
 ·
  cases h
  obtain ⟨g1,g2⟩:=hS.allocMap hn hd hnl
  refine ⟨_,_,_,?_,VR.mpr (cd φ nid _),g1,g2,fun b hb=>cz φ _ hb⟩
  simp [execOp,Instr.makeMap]
 ·
  rename_i t x
  cases h
  have hv:=VRs.cells (ia hT x (hgood x (by simp [Op.operands])))
  obtain ⟨g1,g2⟩:=SR.alloc hS (W:=w) (t:=t) (c:=(a.eval x).cells) (sz:=(ev T x).cells.length) (es:=[(ev T x).cells]) hn hd hnl rfl ⟨rfl,rfl,rfl⟩ (by simp [hv.len])
   (by intro j e he;cases j with|zero=>simp at he;subst he;rfl|succ j=>simp at he)
   (by
    intro j e q v he hq
    cases j with
    |zero=>
     simp at he;subst he
     obtain ⟨y,hy,hvy⟩:=hv.get hq
     exact ⟨y,by simpa using hy,hvy⟩
    |succ j=>simp at he)
  refine ⟨_,_,_,?_,VR.ptr (cd φ nid _),g1,g2,fun b hb=>cz φ _ hb⟩
  simp [execOp,Instr.box,newVar,pf]
 ·
  rename_i t l cp
  have hl:=ia hT l (hgood l (by simp [Op.operands]))
  have hcp:=ia hT cp (hgood cp (by simp [Op.operands]))
  split at h
  ·rename_i i ht
   split at h
   ·rename_i e l0 c0 hk hl0 hc0
    split at h
    ·rename_i ei hei
     cases h
     obtain ⟨p1,p2,p3⟩:=hc
     obtain ⟨kl,hyl⟩:=k8 hl0 hl
     obtain ⟨kc,hyc⟩:=k8 hc0 hcp
     obtain ⟨j,hj1,hj2,⟨z,hz0,hz1⟩,hj3,hj4⟩:=v5 hei
     obtain ⟨z',hz1',hz2⟩:=oU hei
     have hzl:z'.cells.size=ei.sz:=by rw [←lr hei,←hz1'];simp
     have hcc:c0≤140737488355328:=by
      have:c0*1≤c0*((ei.bytes:Int)+1):=Int.mul_le_mul_of_nonneg_left (by omega) (by omega)
      omega
     have hcb:(ei.bytes:Int)*c0≤140737488355328:=by
      have:c0*((ei.bytes:Int)+1)=(ei.bytes:Int)*c0+c0:=by rw [Int.mul_add,Int.mul_comm];omega
      omega
     have hw1:IntKind.i64.wrap l0=l0:=by simp [IntKind.wrap,IntKind.bits,IntKind.signed];omega
     have hw2:IntKind.i64.wrap c0=c0:=by simp [IntKind.wrap,IntKind.bits,IntKind.signed];omega
     obtain ⟨g1,g2⟩:=SR.alloc hS (W:=w) (t:=e) (c:=(Array.range (c0.toNat*ei.sz)).map (z'.cells[·%z'.cells.size]!)) (sz:=ei.sz) (es:=List.replicate c0.toNat (ei.zero.map .prim)) hn hd hnl rfl ⟨rfl,rfl,rfl⟩
      (by simp) (by intro i e he;obtain ⟨rfl,_⟩:=l5 he;simp [lr hei])
      (by
       intro i e q v he hq
       obtain ⟨rfl,hi⟩:=l5 he
       have hql:q<ei.sz:=by have:=(aH.1 hq).1;simpa [lr hei] using this
       rw [uD hzl hi hql]
       rw [aW] at hq
       cases hzq:ei.zero[q]? with
       |none=>rw [hzq] at hq;cases hq
       |some y=>
        rw [hzq] at hq;cases hq
        refine ⟨_,rfl,?_⟩
        have:z'.cells[q]? =some y:=by rw [←hz1',Array.getElem?_toList] at hzq;exact hzq
        rw [Array.getD_eq_getD_getElem?,this]
        exact .prim (oD hei y (List.mem_of_getElem? hzq)))
     refine ⟨_,_,_,?_,VR.sref (A:=0) (cap:=c0.toNat) (cd φ nid _) rfl (by omega) (ax _) (fun _=>rfl) (rn w _ e) (.inl (by simp)) (by simp),g1,g2,fun b hb=>cz φ _ hb⟩
     have hl1:(l0<0)=False:=by simp;omega
     have hl2:(l0>c0)=False:=by simp;omega
     have hc1:(c0<0)=False:=by simp;omega
     have hc2:((ei.bytes:Int)*c0>281474976710656)=False:=by simp;omega
     simp only [execOp,Instr.makeSlice,hyl,hyc,run_underlying (gD ht hk),asInt,asIntOf,Sem.run_bind,Sem.run_pure,aQ,hj4,hj1,hw1,hw2,Int.reducePow]
     simp only [hl1,hl2,hc1,hc2,decide_false,Bool.or_false,Bool.false_eq_true,if_false,Sem.run_bind,run_askRoom,aQ,gV hei]
     by_cases h0:c0.toNat*ei.sz=0
     ·simp [h0,pf,Ib]
     ·simp [h0,hz2,pf]
    ·cases h
   ·cases h
  ·cases h
 ·
  rename_i t len ps
  have hg:∀ p∈ps.toList,oK p.2=true:=fun p hp=>hgood p.2 (by simp [Op.operands];exact ⟨p.1,by simpa using hp⟩)
  split at h
  ·rename_i i ht
   split at h
   ·rename_i e hk
    split at h
    ·rename_i ei hei
     simp only [Option.map_eq_some_iff] at h
     obtain ⟨es,hes,h2⟩:=h
     simp only [Prod.mk.injEq] at h2
     obtain ⟨rfl,rfl,rfl⟩:=h2
     obtain ⟨z',hz1',hz2⟩:=oU hei
     have hzl:z'.cells.size=ei.sz:=by rw [←lr hei,←hz1'];simp
     have hrep:∀ e∈List.replicate len (ei.zero.map V.prim),e.length=ei.sz:=fun e he=>by rw [(List.mem_replicate.1 he).2];simp [lr hei]
     obtain ⟨q1,q2,q3⟩:=DQ (fun x=>(ev T x).cells) ps.toList _ es hrep hes
     simp only [List.length_replicate] at q2
     have hvz:VRs φ I w (List.replicate len (ei.zero.map V.prim)).flatten ((Array.range (len*ei.sz)).map (z'.cells[·%z'.cells.size]!)):=by
      refine ⟨by rw [o7 hrep];simp,fun k v x h1 h2=> ?_⟩
      have hk:=(aH.1 h1).1
      rw [o7 hrep,List.length_replicate] at hk
      have hs0:0<ei.sz:=Nat.pos_of_ne_zero (by intro h0;rw [h0] at hk;simp at hk)
      have hi:k/ei.sz<len:=Nat.div_lt_of_lt_mul (by rw [Nat.mul_comm];exact hk)
      have hm:k%ei.sz<ei.sz:=Nat.mod_lt _ hs0
      have e1:k/ei.sz*ei.sz+k%ei.sz=k:=Nat.div_add_mod' k ei.sz
      rw [←e1,tP hrep (List.getElem?_replicate_of_lt hi) hm] at h1
      rw [←e1,uD hzl hi hm] at h2
      cases h2
      rw [aW] at h1
      cases hzq:ei.zero[k%ei.sz]? with
      |none=>rw [hzq] at h1;cases h1
      |some y=>
       rw [hzq] at h1;cases h1
       have:z'.cells[k%ei.sz]? =some y:=by rw [←hz1',Array.getElem?_toList] at hzq;exact hzq
       rw [Array.getD_eq_getD_getElem?,this]
       exact .prim (oD hei y (List.mem_of_getElem? hzq))
     obtain ⟨ys,hy,hvy⟩:=wI hT (fun k=>some (k*ei.sz,ei.sz)) _ (fun p=>rfl) (fun cs p r hr=>by
      simp only at hr
      split at hr
      ·rename_i hc
       cases hr
       exact ⟨_,_,rfl,hc.1,hc.2,rfl⟩
      ·cases hr) ps.toList _ _ es.flatten hg hvz q3
     have hys:ys.size=len*ei.sz:=by rw [←hvy.len,o7 q1,q2]
     obtain ⟨g1,g2⟩:=SR.alloc hS (W:=w) (t:=e) (c:=ys) (sz:=ei.sz) (es:=es) hn hd hnl rfl ⟨rfl,rfl,rfl⟩ (by rw [q2,hys];omega) (fun i e he=>q1 e (List.mem_of_getElem? he))
      (by
       intro i e q v he hq
       have hql:q<ei.sz:=by rw [←q1 e (List.mem_of_getElem? he)];exact (aH.1 hq).1
       have:=tP q1 he hql
       rw [hq] at this
       exact hvy.get this)
     refine ⟨_,_,_,?_,VR.sref (A:=0) (cap:=len) (cd φ nid _) rfl (ax _) (ax _) (fun _=>rfl) (rn w _ e) (.inl (by simp)) (by simp [hys]),g1,g2,fun b hb=>cz φ _ hb⟩
     have hlt:¬(len*ei.sz>16777216):=by have:=hc;omega
     simp only [execOp,Instr.buildSlice,run_underlying (gD ht hk),Sem.run_bind,aQ,gV hei,Nat.reducePow,if_neg hlt]
     by_cases h0:len*ei.sz=0
     ·rw [h0,Ib] at hy
      simp only [h0,if_true,Sem.run_bind,Sem.run_pure,aQ,Array.toList_map,Ib]
      simp only [List.map_toArray,List.map_nil] at hy ⊢
      rw [hy]
      simp [pf]
     ·simp only [h0,if_false,Sem.run_bind,hz2,Sem.run_pure,aQ,Array.toList_map,hy]
      simp [pf]
    ·cases h
   ·cases h
  ·cases h
 ·cases h
end Go.Av
namespace Go.Av
open Go.RowKit
variable {P:Program} {φ φ' φ'':Nat→Option Loc} {I I' I'':Nat→Prop} {H H' H'':Hp} {w w' w'':World}
theorem Au {v:V} {x:Value} (hv:VR φ I w v x) (h:ku v=true):x.oneCell'=true:=by
 cases hv with
 |prim hs=>cases x<;>first|rfl|(simp [uQ] at hs)
 |agg=>simp [ku] at h
 |tup=>simp [ku] at h
 |_=>rfl
def tj (c:Array Value) (p:Nat) (vs:List Value):Array Value:=(c.toList.take p++vs++c.toList.drop (p+vs.length)).toArray
theorem xk {c:Array Value} {p:Nat} {vs:List Value} (h:p+vs.length≤c.size):(tj c p vs).size=c.size:=by
 unfold tj;simp;omega
theorem An {c:Array Value} {p:Nat} {vs:List Value} (h:p+vs.length≤c.size) (i:Nat):(tj c p vs)[i]? =if i<p then c[i]? else if i<p+vs.length then vs[i-p]? else c[i]? :=by
 unfold tj
 simp only [List.getElem?_toArray]
 by_cases h1:i<p
 ·simp only [h1,if_true]
  rw [bE,bB (by simp;omega),fE,if_pos h1,Array.getElem?_toList]
 ·simp only [h1,if_false]
  by_cases h2:i<p+vs.length
  ·simp only [h2,if_true]
   rw [bE,bv (by simp;omega),bB (by simp;omega)]
   congr 1;simp;omega
  ·simp only [h2,if_false]
   rw [bv (by simp;omega),List.getElem?_drop,Array.getElem?_toList]
   congr 1;simp;omega
theorem v4 {g p:Nat} {t:TypeId} {c:Array Value} {vs:List Value} {W:World} (hg:W.heap[g]? =some (.cells c t (0,0))) (hl:p+vs.length≤c.size) (h1:∀ v∈vs,v.oneCell'=true):
 (storeCells ⟨g,p,none⟩ vs).run P W= .ok () (W.setRow g (tj c p vs)):=by
 have:=run_storeCells_at (P:=P) g p t vs 0 c W hg (by simpa using hl) h1
 simpa [tj] using this
theorem BD {g p:Nat} {t:TypeId} {c:Array Value} {x:Value} (hg:w.heap[g]? =some (.cells c t (0,0))) (h:w.cell? ⟨g,p,none⟩=some x):c[p]? =some x:=by
 simpa [World.cell?,hg] using h
theorem KU {o:Oper} {T:List V} {a:Act} {t:TypeId} {ad xo:Operand} (ho:o.op= .store t ad xo) {i:TyI} {b k j sz:Nat} {es:List (List V)} {e:List V} (ht:aD P t=some i) (hev:ev T ad= .ptr b k j)
 (hg:get H b=some (.row sz true es)) (he:es[k]? =some e) (h1:(ev T xo).cells.length=i.sz) (h2:j+i.sz≤e.length) (h3:(ev T xo).cells.all ku=true)
 (hok:uS o.op=true) (hT:VRs φ I w T a.tmps) (hS:SR φ I H w):
 ∃ w',(execOp a.eval o).run P w= .ok .skip w'∧SR φ I (j4 H b (some (.row sz true (es.set k (jf e j (ev T xo).cells))))) w'∧
  iC φ I H w φ I (j4 H b (some (.row sz true (es.set k (jf e j (ev T xo).cells))))) w':=by
 have hgood:=kE hok
 obtain ⟨dst,op,ty,pos,aft,gd⟩:=o
 simp only at ho;subst ho
 have hv:=ia hT ad (hgood ad (by simp [Op.operands]))
 rw [hev] at hv
 obtain ⟨L,hL,hy⟩:=hv.ptr_inv
 have hc:=VRs.cells (ia hT xo (hgood xo (by simp [Op.operands])))
 obtain ⟨r1,⟨c,tt,r2,r3⟩,r4,r5,r6⟩:=hS.row hL hg
 have hk:=(aH.1 he).1
 have hel:=r4 k e he
 have hkk:(k+1)*sz≤es.length*sz:=aS _ hk
 rw [Nat.add_mul] at hkk
 have hvl:(a.eval xo).cells.toList.length=i.sz:=by rw [←h1,hc.len];simp
 have hp:L.off+k*sz+j+(a.eval xo).cells.toList.length≤c.size:=by rw [hvl];omega
 have hcells:∀ v∈(a.eval xo).cells.toList,v.oneCell'=true:=fun v hv=>by
  obtain ⟨q,hq⟩:=List.mem_iff_getElem?.1 hv
  rw [Array.getElem?_toList] at hq
  have hql:q<(ev T xo).cells.length:=by rw [hc.len];exact (Array.getElem?_eq_some_iff.1 hq).1
  have hq2:=af hql
  exact Au (hc.at_ q _ _ hq2 hq) (List.all_eq_true.1 h3 _ (List.mem_of_getElem? hq2))
 obtain ⟨g1,g2⟩:=SR.put hS (es':=es.set k (jf e j (ev T xo).cells)) (c':=tj c (L.off+k*sz+j) (a.eval xo).cells.toList) hL hg r2 (xk hp) (by simp)
  (by
   intro m e' he'
   rw [fS] at he'
   split at he'
   ·cases he';rw [sU _ _ _ (by omega)];exact hel
   ·exact r4 m e' he')
  (by
   intro m e' q v he' hq
   rw [An hp,hvl]
   have same:∀ {e'':List V},es[m]? =some e''→e''[q]? =some v→∃ x,c[L.off+m*sz+q]? =some x∧VR φ I w v x:=fun he'' hq''=>by
    obtain ⟨x,hx,hvx⟩:=r5 m _ q v he'' hq''
    exact ⟨x,BD r2 hx,hvx⟩
   rw [fS] at he'
   split at he'
   ·rename_i hkm
    subst hkm
    cases he'
    rw [yg _ _ _ _ (by omega)] at hq
    split at hq
    ·rename_i hlt
     rw [if_pos (by omega)];exact same he hq
    ·rename_i hlt
     split at hq
     ·rename_i hlt2
      rw [if_neg (by omega),if_pos (by omega)]
      obtain ⟨x,hx,hvx⟩:=hc.get hq
      refine ⟨x,?_,hvx⟩
      rw [Array.getElem?_toList,←hx];congr 1;omega
     ·rename_i hlt2
      rw [if_neg (by omega),if_neg (by omega)];exact same he hq
   ·rename_i hkm
    have hql:q<sz:=by rw [←r4 m e' he'];exact (aH.1 hq).1
    have hne:L.off+m*sz+q<L.off+k*sz+j∨L.off+k*sz+j+i.sz≤L.off+m*sz+q:=by
     rcases Nat.lt_or_gt_of_ne hkm with hlt|hlt
     ·right
      have:(k+1)*sz≤m*sz:=aS _ hlt
      rw [Nat.add_mul] at this;omega
     ·left
      have:(m+1)*sz≤k*sz:=aS _ hlt
      rw [Nat.add_mul] at this;omega
    rcases hne with hne|hne
    ·rw [if_pos hne];exact same he' hq
    ·rw [if_neg (by omega),if_neg (by omega)];exact same he' hq)
 refine ⟨_,?_,g1,g2⟩
 have hsz:¬((a.eval xo).cells.size≠i.sz):=by rw [←h1,hc.len];simp
 have hrun:=v4 (P:=P) r2 hp hcells
 simp only [execOp,Instr.storeAt,hy,Instr.sureAddr,storeVar,Sem.run_bind,Sem.run_pure,aQ,gV ht,if_neg hsz]
 rw [r1,hrun];rfl
theorem Aa {es ys:List (List V)} {o:Nat} (h:o+ys.length≤es.length) (i:Nat):(kG es o ys)[i]? =if i<o then es[i]? else if i<o+ys.length then ys[i-o]? else es[i]? :=by
 unfold kG
 by_cases h1:i<o
 ·simp only [h1,if_true]
  rw [bE,bB (by simp;omega),fE,if_pos h1]
 ·simp only [h1,if_false]
  by_cases h2:i<o+ys.length
  ·simp only [h2,if_true]
   rw [bE,bv (by simp;omega),bB (by simp;omega)]
   congr 1;simp;omega
  ·simp only [h2,if_false]
   rw [bv (by simp;omega),List.getElem?_drop]
   congr 1;simp;omega
theorem BV {es ys:List (List V)} {o:Nat} (h:o+ys.length≤es.length):(kG es o ys).length=es.length:=by unfold kG;simp;omega
theorem xj (hS:SR φ I H w) {b o sz:Nat} {L:Loc} {es ys:List (List V)} (hL:φ b=some L) (hg:get H b=some (.row sz true es)) (hle:o+ys.length≤es.length) {xs:List Value}
 (hx:xs.length=ys.length*sz) (hys:∀ (i:Nat) (e:List V),ys[i]? =some e→e.length=sz)
 (hv:∀ (i:Nat) (e:List V) (k:Nat) (v:V),ys[i]? =some e→e[k]? =some v→∃ y,xs[i*sz+k]? =some y∧VR φ I w v y) {c:Array Value} {t:TypeId} (hc:w.heap[L.B]? =some (.cells c t (0,0))):
 L.off+o*sz+xs.length≤c.size∧SR φ I (j4 H b (some (.row sz true (kG es o ys)))) (w.setRow L.B (tj c (L.off+o*sz) xs))∧
  iC φ I H w φ I (j4 H b (some (.row sz true (kG es o ys)))) (w.setRow L.B (tj c (L.off+o*sz) xs)):=by
 obtain ⟨r1,⟨c',tt,r2,r3⟩,r4,r5,r6⟩:=hS.row hL hg
 rw [hc] at r2;cases r2
 have h1:(o+ys.length)*sz≤es.length*sz:=aS _ hle
 rw [Nat.add_mul] at h1
 have hp:L.off+o*sz+xs.length≤c.size:=by rw [hx];omega
 refine ⟨hp,SR.put hS hL hg hc (xk hp) (BV hle) ?_ ?_⟩
 ·intro i e he
  rw [Aa hle] at he
  split at he
  ·exact r4 i e he
  ·split at he
   ·exact hys _ e he
   ·exact r4 i e he
 ·intro i e k v he hk
  rw [An hp,hx]
  rw [Aa hle] at he
  have hks:∀ {e':List V},e'.length=sz→e'[k]? =some v→k<sz:=fun h h'=>by rw [←h];exact (aH.1 h').1
  have same:es[i]? =some e→∃ x,c[L.off+i*sz+k]? =some x∧VR φ I w v x:=fun he'=>by
   obtain ⟨x,hx,hvx⟩:=r5 i _ k v he' hk
   exact ⟨x,BD hc hx,hvx⟩
  split at he
  ·rename_i hlt
   have hkk:=hks (r4 i e he) hk
   have:(i+1)*sz≤o*sz:=aS _ hlt
   rw [Nat.add_mul] at this
   rw [if_pos (by omega)];exact same he
  ·rename_i hlt
   split at he
   ·rename_i hlt2
    have hkk:=hks (hys _ e he) hk
    obtain ⟨y,hy,hvy⟩:=hv _ e k v he hk
    have h2:o*sz≤i*sz:=aS _ (by omega)
    have h3:(i+1)*sz≤(o+ys.length)*sz:=aS _ hlt2
    rw [Nat.add_mul,Nat.add_mul] at h3
    rw [if_neg (by omega),if_pos (by omega)]
    refine ⟨y,?_,hvy⟩
    rw [←hy];congr 1
    rw [Nat.sub_mul];omega
   ·rename_i hlt2
    have h3:(o+ys.length)*sz≤i*sz:=aS _ (by omega)
    rw [Nat.add_mul] at h3
    rw [if_neg (by omega),if_neg (by omega)];exact same he
structure HK (P:Program) (φ:Nat→Option Loc) (I:Nat→Prop) (w:World) (e:TypeId) (ei:TyI) (t2:TypeId) (x:Value) (ys:List (List V)) (zeros:Bool) (xs:List Value):Prop where
 kind:(zeros=true∧∃ k,P.underlying t2=some (.int k))∨(zeros=false∧∃ d,P.underlying t2=some d∧∀ k,d≠ .int k)
 len:xs.length=ys.length*ei.sz
 lens:∀ (i:Nat) (y:List V),ys[i]? =some y→y.length=ei.sz
 cells:∀ (i:Nat) (y:List V) (k:Nat) (v:V),ys[i]? =some y→y[k]? =some v→∃ z,xs[i*ei.sz+k]? =some z∧VR φ I w v z
 plain:zeros=false→(∀ W:World,W.heap=w.heap→(Builtin.firstCells ei.sz ys.length x).run P W= .ok xs.toArray W)∧(∀ W,(Builtin.lenOf x).run P W= .ok ys.length W)
 made:zeros=true→(∃ k,x= .int k ys.length)∧ys.length*ei.bytes≤2^47∧ys.length≤2^47∧
  ∃ z:Value,z.cells.toList=ei.zero∧(∀ W,(zeroValue e).run P W= .ok z W)∧xs.toArray=Builtin.zeroCells z.cells ys.length
theorem Mt {ei:TyI} {e:TypeId} {t2:Option TypeId} {xv:V} {c:Prop} {ys:List (List V)} (h:rR P H ei t2 xv=some (c,ys)) (hc:c) (he:aD P e=some ei) {x:Value} (hv:VR φ I w xv x) (hS:SR φ I H w):
 ∃ t zeros xs,t2=some t∧HK P φ I w e ei t x ys zeros xs:=by
 unfold rR at h
 cases t2 with
 |none=>simp at h
 |some t=>
  cases ht:aD P t with
  |none=>simp [ht] at h
  |some i=>
   simp only [ht] at h
   split at h
   ·rename_i kk hk
    split at h
    ·rename_i k2 n
     simp only [bu,Prod.mk.injEq] at h
     obtain ⟨rfl,rfl⟩:=h
     obtain ⟨z,hz1,hz2⟩:=oU he
     have hzl:z.cells.size=ei.sz:=by rw [←lr he,←hz1];simp
     have hx:=hv.prim_inv.1
     refine ⟨t,true,(Builtin.zeroCells z.cells n.toNat).toList,rfl,⟨.inl ⟨rfl,_,uk ht hk⟩,?_,?_,?_,fun h=>(by cases h),fun _=>⟨⟨k2,?_⟩,?_,?_,z,hz1,hz2,by simp⟩⟩⟩
     ·simp [Builtin.zeroCells,hzl]
     ·intro j y hy;obtain ⟨rfl,_⟩:=l5 hy;simp [lr he]
     ·intro j y q v hy hq
      obtain ⟨rfl,hj⟩:=l5 hy
      have hql:q<ei.sz:=by have:=(aH.1 hq).1;simpa [lr he] using this
      rw [Array.getElem?_toList]
      unfold Builtin.zeroCells
      have:=uD hzl hj hql
      rw [hzl] at this ⊢
      rw [this]
      refine ⟨_,rfl,?_⟩
      rw [aW] at hq
      cases hzq:ei.zero[q]? with
      |none=>rw [hzq] at hq;cases hq
      |some y=>
       rw [hzq] at hq;cases hq
       have:z.cells[q]? =some y:=by rw [←hz1,Array.getElem?_toList] at hzq;exact hzq
       rw [Array.getD_eq_getD_getElem?,this]
       exact .prim (oD he y (List.mem_of_getElem? hzq))
     ·rw [hx];simp;omega
     ·have h1:n*((ei.bytes:Int)+1)=n*ei.bytes+n:=by rw [Int.mul_add];omega
      have h2:((n.toNat*ei.bytes:Nat):Int)=n*ei.bytes:=by push_cast;rw [Int.toNat_of_nonneg hc.1]
      have:=hc.2
      simp only [List.length_replicate]
      omega
     ·have h1:n*((ei.bytes:Int)+1)=n*ei.bytes+n:=by rw [Int.mul_add];omega
      have h3:0≤n*(ei.bytes:Int):=Int.mul_nonneg hc.1 (by omega)
      have:=hc.2
      simp only [List.length_replicate]
      omega
    ·cases h
   ·rename_i hnk
    simp only [Option.map_eq_some_iff,Prod.mk.injEq] at h
    obtain ⟨es,hes,rfl,rfl⟩:=h
    obtain ⟨xs,q1,q2,q3,q4,q5,q6⟩:=rK (P:=P) hes hv hS
    obtain ⟨j,d,z,h1,h2,h3,h4,h5,h6,h7,h8,_⟩:=g9 ht
    refine ⟨t,false,xs,rfl,⟨.inr ⟨rfl,d,h2,?_⟩,q1,q4,q5,fun _=>⟨fun W hW=>by rw [q2 W _ hW (ax _),List.take_of_length_le (by rw [q1];omega)],q3⟩,fun h=>(by cases h)⟩⟩
    rw [h8] at hnk
    rintro k rfl
    exact hnk k rfl
section
variable {e t t2:TypeId} {ei:TyI} {x:Value} {ys:List (List V)} {zeros:Bool} {xs:List Value} {argTypes:Array TypeId} {vals:Array Value} {ty:TypeId}
theorem HK.notInt (hA:HK P φ I w e ei t2 x ys false xs):∃ d,P.underlying t2=some d∧∀ k,d≠ .int k:=by
 rcases hA.kind with ⟨h,_⟩|⟨_,h⟩
 ·cases h
 ·exact h
theorem HK.isInt (hA:HK P φ I w e ei t2 x ys true xs):∃ k,P.underlying t2=some (.int k):=by
 rcases hA.kind with ⟨_,h⟩|⟨h,_⟩
 ·exact h
 ·cases h
theorem y7 (hA:HK P φ I w e ei t2 x ys zeros xs) (ht:P.underlying t=some (.slice e)) (he:aD P e=some ei) (a0:argTypes[0]? =some t) (a1:argTypes[1]? =some t2) {B A n cap:Nat}
 (v0:vals[0]? =some (.slice (some ⟨B,A,none⟩) n cap)) (v1:vals[1]? =some x) (hroom:n+ys.length≤cap) {c:Array Value} {tt:TypeId} (hg:w.heap[B]? =some (.cells c tt (0,0)))
 (hp:A+n*ei.sz+xs.length≤c.size) (h1:∀ v∈xs,v.oneCell'=true):
 (Builtin.append_ argTypes ty vals).run P w= .ok (.slice (some ⟨B,A,none⟩) (n+ys.length) cap) (w.setRow B (tj c (A+n*ei.sz) xs)):=by
 have hrun:=v4 (P:=P) hg hp h1
 cases zeros with
 |false=>
  obtain ⟨q1,q2⟩:=hA.plain rfl
  obtain ⟨d,hd,hne⟩:∃ d,P.underlying t2=some d∧∀ k,d≠ .int k:=hA.notInt
  unfold Builtin.append_
  simp only [a0,a1,v0,v1,Sem.run_bind,run_underlying ht,run_underlying hd,aQ,gV he]
  cases d<;>first
   |exact absurd rfl (hne _)
   |simp only [Sem.run_bind,Sem.run_pure,aQ,Bool.false_eq_true,if_false,q2,hroom,if_true,Bool.not_false,q1 w rfl,mQ,List.toList_toArray,hrun]
 |true=>
  obtain ⟨⟨k,rfl⟩,q2,q3,z,z1,z2,z3⟩:=hA.made rfl
  obtain ⟨j,hj1,hj2,_,hj3,hj4⟩:=v5 he
  have hw:IntKind.i64.wrap ((ys.length:Nat):Int)=ys.length:=by simp [IntKind.wrap,IntKind.bits,IntKind.signed];omega
  have hl1:¬(((ys.length:Nat):Int)<0):=by omega
  have hl2:¬(((ys.length:Nat):Int)*(j.bytes:Int)>2^48):=by
   rw [hj1]
   have h2:((ys.length*ei.bytes:Nat):Int)=(ys.length:Int)*ei.bytes:=by push_cast;rfl
   omega
  have happ:(if ys.length*ei.sz=0 then pure #[] else (do pure (Builtin.zeroCells (←zeroValue e).cells ys.length):Sem (Array Value)):Sem (Array Value)).run P w= .ok xs.toArray w:=by
   split
   ·rename_i h0
    have:xs=[]:=by apply List.eq_nil_of_length_eq_zero;rw [hA.len,h0]
    rw [this];rfl
   ·simp [z2,z3]
  obtain ⟨kd,hkd⟩:∃ k,P.underlying t2=some (.int k):=hA.isInt
  unfold Builtin.append_
  simp only [a0,a1,v0,v1,Sem.run_bind,run_underlying ht,run_underlying hkd,aQ,gV he,if_true,asInt,asIntOf,Sem.run_pure,hw,hj4,if_neg hl1,if_neg hl2,Int.toNat_natCast,hroom,Bool.not_true,Bool.false_eq_true,if_false]
  rw [happ]
  simp only [aQ,mQ,List.toList_toArray,hrun,Sem.run_bind,Sem.run_pure]
theorem ua (hA:HK P φ I w e ei t2 x ys zeros xs) (ht:P.underlying t=some (.slice e)) (he:aD P e=some ei) (a0:argTypes[0]? =some t) (a1:argTypes[1]? =some t2) {base:Option Addr} {n cap:Nat}
 (v0:vals[0]? =some (.slice base n cap)) (v1:vals[1]? =some x) (hgrow:cap<n+ys.length) {olds:List Value} (ho:∀ W:World,W.heap=w.heap→(Builtin.firstCells ei.sz n (.slice base n cap)).run P W= .ok olds.toArray W)
 (hb:(n+ys.length)*ei.bytes≤2^47) (hm:n+ys.length≤2^60):∃ nc z,n+ys.length≤nc∧z=z∧
 (Builtin.append_ argTypes ty vals).run P w= .ok (.slice (some ⟨w.heap.size,0,none⟩) (n+ys.length) nc) (w.drew.alloc (.cells (olds.toArray++xs.toArray++Builtin.zeroCells (Value.cells z) (nc-(n+ys.length))) e))∧
  (Value.cells z).size=ei.sz:=by
 obtain ⟨z,hz1,hz2⟩:=oU he
 obtain ⟨j,hj1,hj2,_,hj3,hj4⟩:=v5 he
 have hzl:z.cells.size=ei.sz:=by rw [←lr he,←hz1];simp
 refine ⟨grownCap w (n+ys.length) cap e,z,grownCap_ge _ _ _ _,rfl,?_,hzl⟩
 have hn:¬(n+ys.length≤cap):=by omega
 have h63:¬(((n+ys.length:Nat):Int)>IntKind.i64.max∧(zeros=true∨j.bytes=0)):=by
  rintro ⟨h,_⟩
  rw [show IntKind.i64.max=9223372036854775807 from rfl] at h
  omega
 have h48:¬(Builtin.nextslicecap (n+ys.length) cap*j.bytes>2^48):=by
  rw [hj1];have:=growslice_fits (need:=n+ys.length) (old:=cap) (bytes:=ei.bytes) (by omega) hb;omega
 have hq:(Question.appendCap (n+ys.length) cap e).forced=false:=rfl
 have hdw:w.drew.heap=w.heap:=rfl
 have hcut:(Question.appendCap (n+ys.length) cap e).cut (w.tape w.drawn (.appendCap (n+ys.length) cap e))=grownCap w (n+ys.length) cap e:=rfl
 cases zeros with
 |false=>
  obtain ⟨q1,q2⟩:=hA.plain rfl
  obtain ⟨d,hd,hne⟩:∃ d,P.underlying t2=some d∧∀ k,d≠ .int k:=hA.notInt
  unfold Builtin.append_
  simp only [a0,a1,v0,v1,Sem.run_bind,run_underlying ht,run_underlying hd,aQ,gV he]
  cases d<;>first
   |exact absurd rfl (hne _)
   |(simp only [Sem.run_bind,Sem.run_pure,aQ,Bool.false_eq_true,if_false,q2,if_neg hn,Bool.not_false,if_true,hj4]
     rw [if_neg (by simpa using h63)]
     simp only [Sem.run_bind,aQ,Sem.run_pure,hj4]
     rw [if_neg h48]
     simp only [Sem.run_bind,aQ,Sem.run_pure,hj4,run_choose_drew,hq,Bool.false_eq_true,if_false,hcut,run_askRoom,ho w.drew hdw,q1 w.drew hdw,hz2,pf]
     rfl)
 |true=>
  obtain ⟨⟨k,rfl⟩,q2,q3,z',z1,z2,z3⟩:=hA.made rfl
  have hw:IntKind.i64.wrap ((ys.length:Nat):Int)=ys.length:=by simp [IntKind.wrap,IntKind.bits,IntKind.signed];omega
  have hl1:¬(((ys.length:Nat):Int)<0):=by omega
  have hl2:¬(((ys.length:Nat):Int)*(j.bytes:Int)>2^48):=by
   rw [hj1]
   have h2:((ys.length*ei.bytes:Nat):Int)=(ys.length:Int)*ei.bytes:=by push_cast;rfl
   omega
  have happ:(if ys.length*ei.sz=0 then pure #[] else (do pure (Builtin.zeroCells (←zeroValue e).cells ys.length):Sem (Array Value)):Sem (Array Value)).run P w.drew= .ok xs.toArray w.drew:=by
   split
   ·rename_i h0
    have:xs=[]:=by apply List.eq_nil_of_length_eq_zero;rw [hA.len,h0]
    rw [this];rfl
   ·simp [z2,z3]
  obtain ⟨kd,hkd⟩:∃ k,P.underlying t2=some (.int k):=hA.isInt
  unfold Builtin.append_
  simp only [a0,a1,v0,v1,Sem.run_bind,run_underlying ht,run_underlying hkd,aQ,gV he,if_true,asInt,asIntOf,Sem.run_pure,hw,hj4,if_neg hl1,if_neg hl2,Int.toNat_natCast,if_neg hn,Bool.not_true,Bool.false_eq_true,if_false]
  rw [if_neg (by simpa using h63)]
  simp only [Sem.run_bind,aQ,Sem.run_pure,hj4]
  rw [if_neg h48]
  simp only [Sem.run_bind,aQ,Sem.run_pure,hj4,run_choose_drew,hq,Bool.false_eq_true,if_false,hcut,run_askRoom,ho w.drew hdw]
  rw [happ]
  simp only [Sem.run_bind,aQ,Sem.run_pure,hz2,pf]
  rfl
end
end Go.Av
