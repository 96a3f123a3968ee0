/- Helping texts: As4. -/
import Derived.Test.YtkmlhdfpcjkekaaGreatKAm
set_option linter.unusedSimpArgs false
set_option linter.unusedVariables false
set_option maxRecDepth 100000
set_option maxHeartbeats 16000000
namespace Go.Av
open Go.RowKit
variable {P:Program} {φ φ' φ'':Nat→Option Loc} {I I' I'':Nat→Prop} {H H' H'':Hp} {w w' w'':World}
theorem yg (cs ds:List V) (off k:Nat) (h:off+ds.length≤cs.length):
 (jf cs off ds)[k]? =if k<off then cs[k]? else if k<off+ds.length then ds[k-off]? else cs[k]? :=by
 unfold jf
 by_cases h1:k<off
 ·simp only [h1,if_true]
  rw [bE,bB (by simp;omega),fE,if_pos h1]
 ·simp only [h1,if_false]
  by_cases h2:k<off+ds.length
  ·simp only [h2,if_true]
   rw [bE,bv (by simp;omega),bB (by simp;omega)]
   congr 1;simp;omega
  ·simp only [h2,if_false]
   rw [bv (by simp;omega),List.getElem?_drop]
   congr 1;simp;omega
theorem sU (cs ds:List V) (off:Nat) (h:off+ds.length≤cs.length):(jf cs off ds).length=cs.length:=by
 unfold jf;simp;omega
theorem Ag (off:Nat):∀ (ds:List Value) (j:Nat) (xs:Array Value) (k:Nat),
 (((ds.zipIdx j).foldl (fun cs (c:Value×Nat)=>cs.setIfInBounds (off+c.2) c.1) xs)).size=xs.size∧
 (off+j+ds.length≤xs.size→((ds.zipIdx j).foldl (fun cs (c:Value×Nat)=>cs.setIfInBounds (off+c.2) c.1) xs)[k]? =if k<off+j then xs[k]? else if k<off+j+ds.length then ds[k-(off+j)]? else xs[k]?)
 |[],j,xs,k=>by simp;omega
 |d::ds,j,xs,k=>by
  obtain ⟨h1,h2⟩:=Ag off ds (j+1) (xs.setIfInBounds (off+j) d) k
  simp only [List.zipIdx_cons,List.foldl_cons]
  refine ⟨by rw [h1];simp,fun hle=> ?_⟩
  simp only [aC] at hle ⊢
  rw [h2 (by simp;omega)]
  by_cases e:k=off+j
  ·subst e
   simp only [show off+j<off+(j+1) by omega,if_true,Nat.lt_irrefl,if_false,show off+j<off+j+(ds.length+1) by omega]
   rw [Array.getElem?_setIfInBounds];simp;omega
  ·rw [Array.getElem?_setIfInBounds]
   by_cases h3:k<off+j
   ·simp [h3,show k<off+(j+1) by omega,show ¬off+j=k by omega]
   ·simp only [h3,show ¬k<off+(j+1) by omega,if_false,show ¬off+j=k by omega]
    by_cases h4:k<off+(j+1)+ds.length
    ·simp only [h4,show k<off+j+(ds.length+1) by omega,if_true]
     rw [show k-(off+j)=(k-(off+(j+1)))+1 by omega,aV]
    ·simp only [h4,show ¬k<off+j+(ds.length+1) by omega,if_false]
theorem VRs.write {cs ds:List V} {xs ys:Array Value} (h:VRs φ I w cs xs) (k:VRs φ I w ds ys) {off:Nat} (hle:off+ds.length≤cs.length):
 VRs φ I w (jf cs off ds) ((ys.zipIdx).foldl (fun cs (c:Value×Nat)=>cs.setIfInBounds (off+c.2) c.1) xs):=by
 have hz:(ys.zipIdx).foldl (fun cs (c:Value×Nat)=>cs.setIfInBounds (off+c.2) c.1) xs=(ys.toList.zipIdx 0).foldl (fun cs (c:Value×Nat)=>cs.setIfInBounds (off+c.2) c.1) xs:=by
  rw [←Array.foldl_toList];simp
 rw [hz]
 have hl:ys.toList.length=ds.length:=by simpa using k.len.symm
 refine ⟨by rw [sU _ _ _ hle,h.len,(Ag off ys.toList 0 xs 0).1],fun j v x h1 h2=> ?_⟩
 rw [yg _ _ _ _ hle] at h1
 rw [(Ag off ys.toList 0 xs j).2 (by rw [hl,←h.len];omega),hl,Nat.add_zero] at h2
 split at h1
 ·rename_i hj;simp only [hj,if_true] at h2;exact h.at_ j v x h1 h2
 ·rename_i hj
  simp only [hj,if_false] at h2
  split at h1
  ·rename_i hj2;simp only [hj2,if_true] at h2;exact k.at_ _ v x h1 (by simpa using h2)
  ·rename_i hj2;simp only [hj2,if_false] at h2;exact h.at_ j v x h1 h2
theorem wI {T:List V} {a:Act} (hT:VRs φ I w T a.tmps) (place:Nat→Option (Nat×Nat)) (F:Option (List V)→Nat×Operand→Option (List V)) (hF0:∀ p,F none p=none)
 (hF:∀ cs p r,F (some cs) p=some r→∃ off sz,place p.1=some (off,sz)∧(ev T p.2).cells.length=sz∧off+sz≤cs.length∧r=jf cs off (ev T p.2).cells):
 ∀ (ps:List (Nat×Operand)) (cs:List V) (xs:Array Value) (r:List V),(∀ p∈ps,oK p.2=true)→VRs φ I w cs xs→ps.foldl F (some cs)=some r→
  ∃ ys,Instr.fill place xs (ps.map fun p=>(p.1,a.eval p.2))=some ys∧VRs φ I w r ys
 |[],cs,xs,r,_,h,hr=>by simp at hr;subst hr;exact ⟨xs,rfl,h⟩
 |p::ps,cs,xs,r,hg,h,hr=>by
  simp only [List.foldl_cons] at hr
  cases hf:F (some cs) p with
  |none=>
   rw [hf] at hr
   have:∀ l:List (Nat×Operand),l.foldl F none=none:=fun l=>by induction l<;>simp_all
   rw [this] at hr;cases hr
  |some c1=>
   rw [hf] at hr
   obtain ⟨off,sz,hp,hl,hle,rfl⟩:=hF cs p c1 hf
   have hv:=ia hT p.2 (hg p (by simp))
   have hc:=VRs.cells hv
   have hw:=VRs.write h hc (off:=off) (by omega)
   obtain ⟨ys,hy,hvy⟩:=wI hT place F hF0 hF ps _ _ r (fun q hq=>hg q (by simp [hq])) hw hr
   refine ⟨ys,?_,hvy⟩
   have hsz:(a.eval p.2).cells.size=sz:=by rw [←hc.len,hl]
   simp only [aY,Instr.fill,hp]
   rw [if_neg (by rw [hsz,←h.len];simp;omega)]
   exact hy
theorem kE {op:Op} (h:uS op=true) (x:Operand) (hx:x∈op.operands):oK x=true:=by
 unfold uS at h
 simp only [Bool.and_eq_true] at h
 have:=Array.all_eq_true_iff_forall_mem.1 h.1 x hx
 cases x<;>simp_all [oK]
theorem BX {α β:Type} (f:α→Sem β) (g:α→β) (l:List α) (h:∀ x∈l,∀ w,(f x).run P w= .ok (g x) w) (w:World):(l.mapM f).run P w= .ok (l.map g) w:=by
 induction l with
 |nil=>simp
 |cons x l ih=>
  rw [List.mapM_cons]
  simp [h x (by simp),ih (fun y hy=>h y (by simp [hy]))]
def tR (P:Program) (gs:List Field):List (Nat×Nat):=gs.map fun f=>(f.offset,((P.info? f.type).map (·.size)).getD 0)
theorem H7 {gs:Array Field} (h:∀ f∈gs.toList,∃ j,P.info? f.type=some j) (w:World):
 (gs.mapM (fun f=>do pure (f.offset,←sizeOf f.type):Field→Sem (Nat×Nat))).run P w= .ok (tR P gs.toList).toArray w:=by
 rw [Array.mapM_eq_mapM_toList]
 have:=BX (P:=P) (fun f=>do pure (f.offset,←sizeOf f.type):Field→Sem (Nat×Nat)) (fun f=>(f.offset,((P.info? f.type).map (·.size)).getD 0)) gs.toList
  (fun f hf w=>by obtain ⟨j,hj⟩:=h f hf;simp [sizeOf,typeInfo,hj]) w
 simp only [map_eq_pure_bind,Sem.run_bind,this,aQ,Sem.run_pure]
 rfl
theorem xf {t:TypeId} {i:TyI} {fs:List (TypeId×Nat×String)} (ht:aD P t=some i) (hk:i.k= .struct fs) {T:List V} {a:Act} (hT:VRs φ I w T a.tmps)
 {ps:Array (Nat×Operand)} (hg:∀ p∈ps.toList,oK p.2=true) {r:List V}
 (h:ps.toList.foldl (fun (acc:Option (List V)) (p:Nat×Operand)=>
  match acc,fs[p.1]? with
  |some cs,some (ft,off,_)=>match aD P ft with
   |some fi=>if (ev T p.2).cells.length=fi.sz∧off+fi.sz≤cs.length then some (jf cs off (ev T p.2).cells) else none
   |none=>none
  |_,_=>none) (some (i.zero.map .prim))=some r):
 ∃ ys,(Instr.build t (ps.map fun (i,x)=>(i,a.eval x))).run P w= .ok (.agg ys) w∧VRs φ I w r ys:=by
 obtain ⟨z,hz1,hz2⟩:=oU ht
 obtain ⟨gs,hgs,rfl⟩:=p7 ht hk
 have hzz:VRs φ I w (i.zero.map .prim) z.cells:=by
  have:=VRs.prims (φ:=φ) (I:=I) (w:=w) (oD ht)
  rw [←hz1] at this ⊢
  simpa using this
 obtain ⟨ys,hy,hv⟩:=wI hT (fun k=>(tR P gs.toList)[k]?) _ (fun p=>rfl) (fun cs p r hr=>by
  split at hr
  ·rename_i cs' ft off nm hcs hft
   cases hcs
   split at hr
   ·rename_i fi hfi
    split at hr
    ·rename_i hc
     cases hr
     refine ⟨off,fi.sz,?_,hc.1,hc.2,rfl⟩
     simp only [aW] at hft
     simp only [tR,aW]
     cases hgf:gs.toList[p.1]? with
     |none=>rw [hgf] at hft;cases hft
     |some f=>
      rw [hgf] at hft
      simp only [bj,bu,Prod.mk.injEq] at hft
      obtain ⟨rfl,rfl,rfl⟩:=hft
      obtain ⟨j,d,z,q1,q2,q3,q4,_⟩:=g9 hfi
      simp [q1,q4]
    ·cases hr
   ·cases hr
  ·cases hr) ps.toList _ _ r hg hzz h
 refine ⟨ys,?_,hv⟩
 simp only [Instr.build,Sem.run_bind,hz2,aQ,run_underlying hgs,H7 (IJ ht hgs)]
 simp only [List.getElem?_toArray,Array.toList_map,hy]
 rfl
theorem zg {t e:TypeId} {i ei:TyI} {n:Nat} (ht:aD P t=some i) (hk:i.k= .array n e) (he:aD P e=some ei) {T:List V} {a:Act} (hT:VRs φ I w T a.tmps)
 {ps:Array (Nat×Operand)} (hg:∀ p∈ps.toList,oK p.2=true) {r:List V}
 (h:ps.toList.foldl (fun (acc:Option (List V)) (p:Nat×Operand)=>
  match acc with
  |some cs=>if (ev T p.2).cells.length=ei.sz∧p.1*ei.sz+ei.sz≤cs.length then some (jf cs (p.1*ei.sz) (ev T p.2).cells) else none
  |_=>none) (some (i.zero.map .prim))=some r):
 ∃ ys,(Instr.build t (ps.map fun (i,x)=>(i,a.eval x))).run P w= .ok (.agg ys) w∧VRs φ I w r ys:=by
 obtain ⟨z,hz1,hz2⟩:=oU ht
 have hgs:=rf ht hk
 have hzz:VRs φ I w (i.zero.map .prim) z.cells:=by
  have:=VRs.prims (φ:=φ) (I:=I) (w:=w) (oD ht)
  rw [←hz1] at this ⊢
  simpa using this
 obtain ⟨ys,hy,hv⟩:=wI hT (fun k=>some (k*ei.sz,ei.sz)) _ (fun p=>rfl) (fun cs p r hr=>by
  simp only at hr
  split at hr
  ·rename_i hc
   cases hr
   exact ⟨_,_,rfl,hc.1,hc.2,rfl⟩
  ·cases hr) ps.toList _ _ r hg hzz h
 refine ⟨ys,?_,hv⟩
 simp only [Instr.build,Sem.run_bind,hz2,aQ,run_underlying hgs,gV he]
 simp only [Array.toList_map,hy]
 rfl
theorem VRs.map {T:List V} {a:Act} (hT:VRs φ I w T a.tmps) (xs:Array Operand) (hg:∀ x∈xs,oK x=true):VRs φ I w (xs.toList.map (ev T)) (xs.map a.eval):=by
 refine ⟨by simp,fun k v x h1 h2=> ?_⟩
 rw [aW] at h1
 rw [Array.getElem?_map] at h2
 cases hx:xs[k]? with
 |none=>rw [hx] at h2;cases h2
 |some o=>
  rw [hx] at h2
  have:xs.toList[k]? =some o:=by rw [Array.getElem?_toList];exact hx
  rw [this] at h1
  simp only [bj,bu] at h1 h2
  subst h1;subst h2
  exact ia hT o (hg o (Array.mem_of_getElem? hx))
theorem VR.ptr_inv {b i j:Nat} {y:Value} (h:VR φ I w (.ptr b i j) y):∃ L,φ b=some L∧y= .pointer (some ⟨L.B,L.off+i*L.sz+j,none⟩):=by cases h;exact ⟨_,‹_›,rfl⟩
theorem VR.ivp_inv {e:List V} {j:Nat} {y:Value} (h:VR φ I w (.ivp e j) y):∃ B o,y= .pointer (some ⟨B,o+j,none⟩)∧∃ val:Nat→Value,I B∧
 (∀ (k:Nat) (v:V),e[k]? =some v→w.cell? ⟨B,o+k,none⟩=some (val k))∧(∀ (k:Nat) (v:V),e[k]? =some v→VR (fun _=>none) I w v (val k)):=by
 cases h;rename_i B o val hI hc hv;exact ⟨B,o,rfl,val,hI,hc,hv⟩
theorem VR.lst_inv {sz:Nat} {es:List (List V)} {y:Value} (h:VR φ I w (.lst sz es) y):∃ a cap,y= .slice a es.length cap∧es.length≤cap∧
 (es=[]∨∃ B o,a=some ⟨B,o,none⟩∧∃ val:Nat→Nat→Value,I B∧(∀ (i:Nat) (e:List V),es[i]? =some e→e.length=sz)∧
  (∀ (i:Nat) (e:List V) (k:Nat) (v:V),es[i]? =some e→e[k]? =some v→w.cell? ⟨B,o+i*sz+k,none⟩=some (val i k))∧
  (∀ (i:Nat) (e:List V) (k:Nat) (v:V),es[i]? =some e→e[k]? =some v→VR (fun _=>none) I w v (val i k))):=by
 cases h with
 |lst val hI hcap hsz hc hv=>exact ⟨_,_,rfl,hcap,.inr ⟨_,_,rfl,val,hI,hsz,hc,hv⟩⟩
 |lnil=>exact ⟨_,_,rfl,bh _,.inl rfl⟩
theorem VR.sref_inv {b o n c sz:Nat} {fx:Bool} {y:Value} (h:VR φ I w (.sref b o n c sz fx) y):∃ L A cap t m,φ b=some L∧y= .slice (some ⟨L.B,A,none⟩) n cap∧L.sz=sz∧n≤c∧c≤cap∧
 (fx=true→cap=c)∧w.shape? L.B=some (t,m)∧(A=L.off+o*L.sz∨(n=0∧c=0))∧A+cap*L.sz≤m:=by
 cases h;exact ⟨_,_,_,_,_,‹_›,rfl,‹_›,‹_›,‹_›,‹_›,‹_›,‹_›,‹_›⟩
theorem Gv {T:List V} {a:Act} (hT:VRs φ I w T a.tmps) (x:Option Operand) (hg:∀ y,x=some y→oK y=true):OR φ I w (x.map (ev T)) (x.map a.eval):=by
 cases x with
 |none=>exact .none
 |some y=>exact .some (ia hT y (hg y rfl))
theorem mQ (b o n:Nat):(⟨b,o,none⟩:Addr).add n=⟨b,o+n,none⟩:=by unfold Addr.add;split<;>simp_all
theorem kV {ρ:Operand→Value} {dst:Option Tmp} {b:Builtin} {args:Array Operand} {argTypes:Array TypeId} {ty:TypeId} {pos:String} {aft:Array Edge} {gd:Option (Nat×Bool)}:∃ cs,
 (execOp ρ { dst:=dst,op:= .call { callee:= .builtin b,args:=args,argTypes:=argTypes },type:=ty,pos:=pos,after:=aft,guard:=gd }).run P w=
  (builtin b argTypes ty cs (args.map ρ)).run P w:=
 ⟨_,by simp only [execOp,resolve,invoke,Sem.run_bind,Sem.run_pure,aQ];rfl⟩
theorem GL {v:V} {x:Value} {n:Nat} (h:nb v=some n) (hv:VR φ I w v x):∃ a c,x= .slice a n c:=by
 unfold nb at h
 split at h
 ·cases h;exact ⟨_,_,hv.prim_inv.1⟩
 ·cases h;obtain ⟨a,cap,hy,_⟩:=hv.lst_inv;exact ⟨_,_,hy⟩
 ·cases h;obtain ⟨L,A,cap,t,m,_,hy,_⟩:=hv.sref_inv;exact ⟨_,_,hy⟩
 ·cases h
theorem QN {o:Oper} {T:List V} {a:Act} {c:Prop} {v:V} (h:evN (aD P) T o.op=some (c,v)) (hc:c) (hok:uS o.op=true) (hT:VRs φ I w T a.tmps):
 ∃ x,(execOp a.eval o).run P w= .ok (.value x) w∧VR φ I w v x:=by
 have hgood:=kE hok
 obtain ⟨dst,op,ty,pos,aft,gd⟩:=o
 simp only at h hgood
 unfold evN at h
 split at h
 ·rename_i x
  cases h
  exact ⟨_,rfl,ia hT x (hgood x (by simp [Op.operands]))⟩
 ·rename_i x
  cases h
  exact ⟨_,rfl,ia hT x (hgood x (by simp [Op.operands]))⟩
 ·rename_i cc aa bb
  split at h
  ·rename_i t hct
   cases h
   have h1:=ia hT cc (hgood cc (by simp [Op.operands]))
   rw [hct] at h1
   refine ⟨if t then a.eval aa else a.eval bb,by simp [execOp,h1.prim_inv.1,asBool],?_⟩
   cases t
   ·exact ia hT bb (hgood bb (by simp [Op.operands]))
   ·exact ia hT aa (hgood aa (by simp [Op.operands]))
  ·cases h
 ·
  rename_i t ps
  have hg:∀ p∈ps.toList,oK p.2=true:=fun p hp=>hgood p.2 (by simp [Op.operands];exact ⟨p.1,by simpa using hp⟩)
  split at h
  ·rename_i i ht
   split at h
   ·rename_i fs hk
    simp only [Option.map_eq_some_iff] at h
    obtain ⟨r,h1,h2⟩:=h
    simp only [Prod.mk.injEq] at h2
    obtain ⟨_,rfl⟩:=h2
    obtain ⟨ys,hy,hv⟩:=xf (w:=w) ht hk hT hg h1
    exact ⟨.agg ys,by simp [execOp,hy],VRs.agg hv⟩
   ·rename_i n e hk
    split at h
    ·rename_i ei he
     simp only [Option.map_eq_some_iff] at h
     obtain ⟨r,h1,h2⟩:=h
     simp only [Prod.mk.injEq] at h2
     obtain ⟨_,rfl⟩:=h2
     obtain ⟨ys,hy,hv⟩:=zg (w:=w) ht hk he hT hg h1
     exact ⟨.agg ys,by simp [execOp,hy],VRs.agg hv⟩
    ·cases h
   ·cases h
  ·cases h
 ·
  rename_i bop t x y t2
  obtain ⟨z,h1,h2⟩:=Pz (x:=x) (y:=y) h hc (ia hT x (hgood x (by simp [Op.operands]))) (ia hT y (hgood y (by simp [Op.operands]))) w
  exact ⟨z,by simp only [execOp];simp only [Sem.run_bind] at h1 ⊢;rw [h1];rfl,h2⟩
 ·
  rename_i uop t x
  simp only [Option.map_eq_some_iff] at h
  obtain ⟨r,h1,h2⟩:=h
  simp only [Prod.mk.injEq] at h2
  obtain ⟨_,rfl⟩:=h2
  have hv:=ia hT x (hgood x (by simp [Op.operands]))
  unfold unV at h1
  split at h1
  all_goals first
   |(cases h1;done)
   |(rename_i he;rw [he] at hv;cases h1;refine ⟨_,?_,.prim rfl⟩;simp [execOp,hv.prim_inv.1,Op.unary,Op.intArith,Op.intBits];done)
 ·
  rename_i s d x
  have hv:=ia hT x (hgood x (by simp [Op.operands]))
  split at h
  ·rename_i i1 i2 h1 h2
   obtain ⟨j1,d1,z1,q1,q2,_⟩:=g9 h1
   split at h
   ·rename_i bs hk hx
    rw [hx] at hv
    cases h
    have h3:=qt h2 hk
    refine ⟨_,?_,.prim rfl⟩
    simp only [execOp,convert,hv.prim_inv.1,Sem.run_bind,run_underlying q2,run_underlying h3,aQ]
    cases d1<;>rfl
   ·rename_i k kk nn hk hx
    rw [hx] at hv
    cases h
    have h3:=uk h2 hk
    refine ⟨_,?_,.prim rfl⟩
    simp only [execOp,convert,hv.prim_inv.1,Sem.run_bind,run_underlying q2,run_underlying h3,aQ]
    cases d1<;>rfl
   ·cases h
  ·cases h
 ·
  rename_i f first cap
  cases h
  have h1:=VRs.map hT first (fun x hx=>hgood x (by simp [Op.operands,hx]))
  have h2:=VRs.map hT cap (fun x hx=>hgood x (by simp [Op.operands,hx]))
  exact ⟨_,by simp [execOp,Instr.makeFunc],.clo h1.len h2.len h1.at_ h2.at_⟩
 ·
  rename_i x
  have hv:=ia hT x (hgood x (by simp [Op.operands]))
  split at h
  ·rename_i b k j hx
   cases h
   rw [hx] at hv
   obtain ⟨L,hL,hy⟩:=hv.ptr_inv
   exact ⟨_,by simp [execOp,hy],hy▸hv⟩
  ·cases h
 ·
  rename_i s x f
  have hv:=ia hT x (hgood x (by simp [Op.operands]))
  split at h
  ·rename_i i ht
   split at h
   ·rename_i fs hk
    obtain ⟨gs,hgs,rfl⟩:=p7 ht hk
    have hfield:∀ q,(gs.toList.map fun f=>(f.type,f.offset,f.name))[f]? =some q→∃ g:Field,gs[f]? =some g∧q=(g.type,g.offset,g.name):=by
     intro q hq
     rw [aW,Array.getElem?_toList] at hq
     cases hg:gs[f]? with
     |none=>rw [hg] at hq;cases hq
     |some g=>rw [hg] at hq;simp at hq;exact ⟨g,rfl,hq.symm⟩
    split at h
    ·rename_i ft off nm hft
     obtain ⟨g,hg,hq⟩:=hfield _ hft
     cases hq
     split at h
     ·rename_i fi hfi
      split at h
      ·cases h
      ·rename_i hnz
       split at h
       ·rename_i b k j hx
        cases h
        rw [hx] at hv
        obtain ⟨L,hL,hy⟩:=hv.ptr_inv
        have:=VR.ptr (I:=I) (w:=w) (i:=k) (j:=j+g.offset) hL
        refine ⟨_,?_,this⟩
        simp [execOp,Instr.fieldAt,run_underlying hgs,hg,hy,Instr.sureAddr,fieldPlace,mQ,Nat.add_assoc,gV hfi,hnz]
       ·rename_i e j hx
        cases h
        rw [hx] at hv
        obtain ⟨B,o,hy,val,hI,hc1,hv1⟩:=hv.ivp_inv
        refine ⟨_,?_,VR.ivp (j:=j+g.offset) val hI hc1 hv1⟩
        simp [execOp,Instr.fieldAt,run_underlying hgs,hg,hy,Instr.sureAddr,fieldPlace,mQ,Nat.add_assoc,gV hfi,hnz]
       ·cases h
     ·cases h
    ·cases h
   ·cases h
  ·cases h
 ·
  rename_i s x f
  have hv:=ia hT x (hgood x (by simp [Op.operands]))
  split at h
  ·rename_i i cs ht hx
   split at h
   ·rename_i fs hk
    obtain ⟨gs,hgs,rfl⟩:=p7 ht hk
    split at h
    ·rename_i ft off nm hft
     rw [aW,Array.getElem?_toList] at hft
     cases hg:gs[f]? with
     |none=>rw [hg] at hft;cases hft
     |some g=>
      rw [hg] at hft
      simp only [bj,bu,Prod.mk.injEq] at hft
      obtain ⟨rfl,rfl,rfl⟩:=hft
      split at h
      ·rename_i fi hfi
       simp only [Option.map_eq_some_iff] at h
       obtain ⟨r,h1,h2⟩:=h
       simp only [Prod.mk.injEq] at h2
       obtain ⟨_,rfl⟩:=h2
       rw [hx] at hv
       obtain ⟨xs,hy,hxs⟩:=hv.agg_inv
       obtain ⟨z,hz,hvz⟩:=m7 hfi hxs h1 w
       exact ⟨z,by simp [execOp,Instr.field,run_underlying hgs,hg,hy,asAgg,hz],hvz⟩
      ·cases h
    ·cases h
   ·cases h
  ·cases h
 ·
  rename_i t x ix
  have hv:=ia hT x (hgood x (by simp [Op.operands]))
  have hi:=ia hT ix (hgood ix (by simp [Op.operands]))
  split at h
  ·rename_i i n ht hn
   obtain ⟨k,hk⟩:=k8 hn hi
   split at h
   ·rename_i e b o m c sz fx hki hx
    split at h
    ·rename_i ei hei
     split at h
     ·rename_i hsz
      cases h
      rw [hx] at hv
      obtain ⟨L,A,cap,tt,mm,hL,hy,hLs,h3,h4,h5,h6,h7,h8⟩:=hv.sref_inv
      have hA:A=L.off+o*L.sz:=h7.resolve_right (by omega)
      refine ⟨_,?_,VR.ptr (i:=o+n.toNat) (j:=0) hL⟩
      have hlt:(n<(m:Int)):=hc.2
      simp only [execOp,Instr.indexAt,hk,hy,run_underlying (gD ht hki),asIntOf,Sem.run_bind,Sem.run_pure,aQ,gV hei,mQ]
      simp [hc.1,hlt,gV hei,mQ,hA,hLs,←hsz,Nat.add_mul,Nat.add_assoc]
     ·cases h
    ·cases h
   ·rename_i e sz es hki hx
    split at h
    ·rename_i ei hei
     split at h
     ·rename_i hsz
      cases h
      rw [hx] at hv
      obtain ⟨aa,cap,hy,hcap,hes⟩:=hv.lst_inv
      have hlt:n<(es.length:Int):=hc.2
      have hnn:n.toNat<es.length:=by omega
      rcases hes with rfl|⟨B,o,rfl,val,hI,hsz1,hc1,hv1⟩
      ·simp at hnn
      ·have he:es[n.toNat]? =some (es.getD n.toNat []):=by rw [ae,af hnn];rfl
       have:=VR.ivp (φ:=φ) (I:=I) (w:=w) (e:=es.getD n.toNat []) (j:=0) (B:=B) (o:=o+n.toNat*sz) (fun k=>val n.toNat k) hI
        (fun k v hk=>by rw [Nat.add_assoc];rw [←Nat.add_assoc];exact hc1 _ _ _ _ he hk) (fun k v hk=>hv1 _ _ _ _ he hk)
       refine ⟨_,?_,this⟩
       simp only [execOp,Instr.indexAt,hk,hy,run_underlying (gD ht hki),asIntOf,Sem.run_bind,Sem.run_pure,aQ]
       simp [hc.1,hlt,gV hei,mQ,←hsz]
     ·cases h
    ·cases h
   ·rename_i len e b kk j hki hx
    split at h
    ·rename_i ei hei
     cases h
     rw [hx] at hv
     obtain ⟨L,hL,hy⟩:=hv.ptr_inv
     refine ⟨_,?_,VR.ptr (i:=kk) (j:=j+n.toNat*ei.sz) hL⟩
     have hlt:n<(len:Int):=hc.2
     simp only [execOp,Instr.indexAt,hk,hy,run_underlying (rf ht hki),asIntOf,Sem.run_bind,Sem.run_pure,aQ,Instr.sureAddr]
     simp [hc.1,hlt,gV hei,mQ,Nat.add_assoc]
    ·cases h
   ·cases h
  ·cases h
 ·
  rename_i t x ix
  have hv:=ia hT x (hgood x (by simp [Op.operands]))
  have hi:=ia hT ix (hgood ix (by simp [Op.operands]))
  split at h
  ·rename_i i n ht hn
   obtain ⟨k,hk⟩:=k8 hn hi
   split at h
   ·rename_i bs hki hx
    cases h
    rw [hx] at hv
    refine ⟨_,?_,.prim rfl⟩
    have hlt:n.toNat<bs.size:=by omega
    simp only [execOp,Instr.index,hk,hv.prim_inv.1,run_underlying (qt ht hki),asIntOf,Sem.run_bind,Sem.run_pure,aQ]
    simp [hc.1,hlt]
    rfl
   ·rename_i len e cs hki hx
    split at h
    ·rename_i ei hei
     cases h
     rw [hx] at hv
     obtain ⟨xs,hy,hxs⟩:=hv.agg_inv
     obtain ⟨h1,h2,h3,h4⟩:=hc
     have hle:n.toNat*ei.sz+ei.sz≤cs.length:=by
      rw [←h3,←Nat.succ_mul];exact aS _ (by omega)
     cases hr:eS ei cs (n.toNat*ei.sz) with
     |none=>
      unfold eS at hr
      split at hr
      ·simp [hle] at hr
      ·rw [List.getElem?_eq_none_iff] at hr;omega
     |some r=>
      obtain ⟨z,hz,hvz⟩:=m7 hei hxs hr w
      refine ⟨z,?_,hvz⟩
      simp only [execOp,Instr.index,hk,hy,run_underlying (rf ht hki),asIntOf,Sem.run_bind,Sem.run_pure,aQ]
      simp [h1,h2,gV hei,hz]
    ·cases h
   ·cases h
  ·cases h
 ·
  rename_i t x lo hi mx
  have hv:=ia hT x (hgood x (by simp [Op.operands]))
  have hlo:=Gv (φ:=φ) (I:=I) (w:=w) hT lo (fun y hy=>hgood y (by simp [Op.operands,hy]))
  have hhi:=Gv (φ:=φ) (I:=I) (w:=w) hT hi (fun y hy=>hgood y (by simp [Op.operands,hy]))
  have hmx:=Gv (φ:=φ) (I:=I) (w:=w) hT mx (fun y hy=>hgood y (by simp [Op.operands,hy]))
  split at h
  ·rename_i i ht
   split at h
   ·rename_i bs hki hx
    rw [hx] at hv
    split at h
    ·rename_i p l hh c1 f1 hsl
     cases h
     obtain ⟨m,hm,_⟩:=qd (P:=P) hsl hc (ax _) (ax _) (fun _=>rfl) hlo hhi .none false w
     refine ⟨_,?_,.prim rfl⟩
     simp [execOp,Instr.sliceAt,Instr.slice,run_underlying (qt ht hki),hv.prim_inv.1,hm]
    ·cases h
   ·rename_i e b o n cc sz fx hki hx
    rw [hx] at hv
    split at h
    ·rename_i ei hei
     split at h
     ·rename_i hsz
      split at h
      ·rename_i p l hh c1 f1 hsl
       cases h
       obtain ⟨L,A,cap,tt,mm,hL,hy,hLs,h3,h4,h5,h6,h7,h8⟩:=hv.sref_inv
       obtain ⟨m,hm,g1,g2,g3,g4,g5,g6,g7,g8⟩:=qd (P:=P) hsl hc h3 h4 h5 hlo hhi hmx true w
       have key:(execOp a.eval { dst:=dst,op:=Op.slice t x lo hi mx,type:=ty,pos:=pos,after:=aft,guard:=gd }).run P w= .ok (.value (.slice (some (if m=l then ⟨L.B,A,none⟩ else ⟨L.B,A+l*ei.sz,none⟩)) (hh-l) (m-l))) w:=by
        simp only [execOp,Instr.sliceAt,Instr.slice,run_underlying (gD ht hki),hy,hm,Sem.run_bind,aQ,gV hei]
        by_cases e1:m=l<;>simp [e1,mQ]
       by_cases e1:m=l
       ·rw [if_pos e1] at key
        refine ⟨_,key,.sref hL hLs (by omega) (by omega) (by omega) h6 (.inr (by omega)) (by rw [e1,Nat.sub_self,Nat.zero_mul];omega)⟩
       ·rw [if_neg e1] at key
        have hmul:l*ei.sz+(m-l)*ei.sz≤cap*ei.sz:=by rw [←Nat.add_mul];exact aS _ (by omega)
        refine ⟨_,key,.sref hL hLs (by omega) (by omega) (by omega) h6 ?_ (by rw [hLs,hsz] at h8;rw [hLs,hsz];omega)⟩
        rcases h7 with h7|h7
        ·left;rw [h7,hLs,hsz,Nat.add_mul,Nat.add_assoc]
        ·right;omega
      ·cases h
     ·cases h
    ·cases h
   ·rename_i e sz es hki hx
    rw [hx] at hv
    split at h
    ·rename_i ei hei
     split at h
     ·rename_i hsz
      split at h
      ·rename_i p l hh c1 f1 hsl
       cases h
       obtain ⟨aa,cap,hy,hcap,hes⟩:=hv.lst_inv
       obtain ⟨m,hm,g1,g2,g3,g4,g5,g6,g7,g8⟩:=qd (P:=P) hsl hc (ax _) hcap (by simp) hlo hhi hmx true w
       have key:(execOp a.eval { dst:=dst,op:=Op.slice t x lo hi mx,type:=ty,pos:=pos,after:=aft,guard:=gd }).run P w= .ok (.value (.slice (if m=l then aa else aa.map (·.add (l*ei.sz))) (hh-l) (m-l))) w:=by
        simp only [execOp,Instr.sliceAt,Instr.slice,run_underlying (gD ht hki),hy,hm,Sem.run_bind,aQ,gV hei,Sem.run_pure]
       have hlen:((es.drop l).take (hh-l)).length=hh-l:=by simp;omega
       by_cases e1:hh=l
       ·subst e1
        refine ⟨_,key,?_⟩
        simp only [Nat.sub_self,List.take_zero]
        exact .lnil
       ·have e2:m≠l:=by omega
        rw [if_neg e2] at key
        rcases hes with rfl|⟨B,oo,rfl,val,hI,hsz1,hc1,hv1⟩
        ·simp at hlen;omega
        ·simp only [bj,mQ] at key
         have hget:∀ (i:Nat) (e:List V),((es.drop l).take (hh-l))[i]? =some e→es[l+i]? =some e:=by
          intro i e he
          rw [fE] at he
          split at he
          ·rw [List.getElem?_drop] at he;exact he
          ·cases he
         have:=VR.lst (φ:=φ) (I:=I) (w:=w) (sz:=sz) (es:=(es.drop l).take (hh-l)) (B:=B) (o:=oo+l*ei.sz) (cap:=m-l) (fun i k=>val (l+i) k) hI (by omega)
          (fun i e he=>hsz1 _ _ (hget i e he)) (fun i e k v he hk=>by
           have:=hc1 _ _ _ _ (hget i e he) hk
           rw [←hsz,Nat.add_assoc oo,←Nat.add_mul];exact this) (fun i e k v he hk=>hv1 _ _ _ _ (hget i e he) hk)
         rw [hlen] at this
         exact ⟨_,key,this⟩
      ·cases h
     ·cases h
    ·cases h
   ·rename_i e hki hx
    rw [hx] at hv
    split at h
    ·rename_i ei p l hh c1 f1 hei hsl
     cases h
     obtain ⟨m,hm,g1,g2,g3,g4,g5,g6,g7,g8⟩:=qd (P:=P) hsl hc (ax _) (ax _) (fun _=>rfl) hlo hhi hmx true w
     have hm0:m=0:=by omega
     have hh0:hh=0:=by omega
     have hl0:l=0:=by omega
     subst hm0;subst hh0;subst hl0
     refine ⟨_,?_,.prim rfl⟩
     simp [execOp,Instr.sliceAt,Instr.slice,run_underlying (gD ht hki),hv.prim_inv.1,hm,gV hei]
    ·cases h
   ·cases h
  ·cases h
 ·
  rename_i t ix
  have hv:=ia hT t (hgood t (by simp [Op.operands]))
  split at h
  ·rename_i vs hx
   simp only [Option.map_eq_some_iff] at h
   obtain ⟨r,h1,h2⟩:=h
   simp only [Prod.mk.injEq] at h2
   obtain ⟨_,rfl⟩:=h2
   rw [hx] at hv
   obtain ⟨xs,hy,hxs⟩:=hv.tup_inv
   obtain ⟨z,hz,hvz⟩:=hxs.get h1
   exact ⟨z,by simp [execOp,Instr.extract,hy,hz],hvz⟩
  ·cases h
 ·
  rename_i args argTypes
  split at h
  ·rename_i x t hx ht0
   have hmem:x∈args:=Array.mem_of_getElem? hx
   have hv:=ia hT x (hgood x (by simp [Op.operands,Call.operands,hmem]))
   split at h
   ·rename_i i ht
    have hx':(args.map a.eval)[0]? =some (a.eval x):=by rw [Array.getElem?_map,hx];rfl
    split at h
    ·rename_i hki
     split at h
     ·rename_i bs hxv
      cases h
      rw [hxv] at hv
      refine ⟨_,?_,.prim rfl⟩
      obtain ⟨cs,hcs⟩:=kV (P:=P) (w:=w) (ρ:=a.eval) (dst:=dst) (b:= .len) (args:=args) (argTypes:=argTypes) (ty:=ty) (pos:=pos) (aft:=aft) (gd:=gd)
      rw [hcs]
      simp [builtin,Builtin.len_,ht0,hx,run_underlying (qt ht hki),hv.prim_inv.1,goInt]
     ·cases h
    ·rename_i e hki
     simp only [Option.map_eq_some_iff] at h
     obtain ⟨n,h1,h2⟩:=h
     simp only [Prod.mk.injEq] at h2
     obtain ⟨_,rfl⟩:=h2
     refine ⟨_,?_,.prim rfl⟩
     obtain ⟨cs,hcs⟩:=kV (P:=P) (w:=w) (ρ:=a.eval) (dst:=dst) (b:= .len) (args:=args) (argTypes:=argTypes) (ty:=ty) (pos:=pos) (aft:=aft) (gd:=gd)
     rw [hcs]
     obtain ⟨aa,c,hy⟩:=GL h1 hv
     simp [builtin,Builtin.len_,ht0,hx,run_underlying (gD ht hki),hy,goInt]
    ·rename_i n e hki
     cases h
     refine ⟨_,?_,.prim rfl⟩
     obtain ⟨cs,hcs⟩:=kV (P:=P) (w:=w) (ρ:=a.eval) (dst:=dst) (b:= .len) (args:=args) (argTypes:=argTypes) (ty:=ty) (pos:=pos) (aft:=aft) (gd:=gd)
     rw [hcs]
     simp [builtin,Builtin.len_,ht0,hx,run_underlying (rf ht hki),goInt]
    ·cases h
   ·cases h
  ·cases h
 ·
  rename_i args argTypes
  split at h
  ·rename_i x t hx ht0
   have hmem:x∈args:=Array.mem_of_getElem? hx
   have hv:=ia hT x (hgood x (by simp [Op.operands,Call.operands,hmem]))
   split at h
   ·rename_i i ht
    obtain ⟨cs,hcs⟩:=kV (P:=P) (w:=w) (ρ:=a.eval) (dst:=dst) (b:= .cap) (args:=args) (argTypes:=argTypes) (ty:=ty) (pos:=pos) (aft:=aft) (gd:=gd)
    split at h
    ·rename_i e b o n c sz hki hxv
     cases h
     rw [hxv] at hv
     refine ⟨_,?_,.prim rfl⟩
     rw [hcs]
     obtain ⟨L,A,cap,tt,mm,hL,hy,hLs,h3,h4,h5,h6,h7,h8⟩:=hv.sref_inv
     simp [builtin,Builtin.cap_,ht0,hx,run_underlying (gD ht hki),hy,goInt,h5 rfl]
    ·rename_i e hki hxv
     cases h
     rw [hxv] at hv
     refine ⟨_,?_,.prim rfl⟩
     rw [hcs]
     simp [builtin,Builtin.cap_,ht0,hx,run_underlying (gD ht hki),hv.prim_inv.1,goInt]
    ·cases h
   ·cases h
  ·cases h
 ·
  rename_i args argTypes
  obtain ⟨cs,hcs⟩:=kV (P:=P) (w:=w) (ρ:=a.eval) (dst:=dst) (b:= .max) (args:=args) (argTypes:=argTypes) (ty:=ty) (pos:=pos) (aft:=aft) (gd:=gd)
  split at h
  ·rename_i k x k' y hl
   cases h
   have hm:=VRs.map hT args (fun x hx=>hgood x (by simp [Op.operands,Call.operands,hx]))
   rw [hl] at hm
   obtain ⟨z0,g0,v0⟩:=hm.get (k:=0) (v:= .prim (.int k x)) rfl
   obtain ⟨z1,g1,v1⟩:=hm.get (k:=1) (v:= .prim (.int k' y)) rfl
   have hlen:(args.map a.eval).size=2:=hm.len.symm
   have hlist:(args.map a.eval).toList=[.int k x,.int k' y]:=by
    apply List.ext_getElem?
    intro j
    rw [Array.getElem?_toList]
    match j with
    |0=>rw [g0,v0.prim_inv.1];rfl
    |1=>rw [g1,v1.prim_inv.1];rfl
    |j+2=>rw [Array.getElem?_eq_none (by omega)];rfl
   refine ⟨_,?_,.prim rfl⟩
   rw [hcs]
   simp only [builtin,Builtin.max_,hlist]
   simp [Builtin.max2]
  ·cases h
 ·
  rename_i args argTypes
  obtain ⟨cs,hcs⟩:=kV (P:=P) (w:=w) (ρ:=a.eval) (dst:=dst) (b:= .min) (args:=args) (argTypes:=argTypes) (ty:=ty) (pos:=pos) (aft:=aft) (gd:=gd)
  split at h
  ·rename_i k x k' y hl
   cases h
   have hm:=VRs.map hT args (fun x hx=>hgood x (by simp [Op.operands,Call.operands,hx]))
   rw [hl] at hm
   obtain ⟨z0,g0,v0⟩:=hm.get (k:=0) (v:= .prim (.int k x)) rfl
   obtain ⟨z1,g1,v1⟩:=hm.get (k:=1) (v:= .prim (.int k' y)) rfl
   have hlen:(args.map a.eval).size=2:=hm.len.symm
   have hlist:(args.map a.eval).toList=[.int k x,.int k' y]:=by
    apply List.ext_getElem?
    intro j
    rw [Array.getElem?_toList]
    match j with
    |0=>rw [g0,v0.prim_inv.1];rfl
    |1=>rw [g1,v1.prim_inv.1];rfl
    |j+2=>rw [Array.getElem?_eq_none (by omega)];rfl
   refine ⟨_,?_,.prim rfl⟩
   rw [hcs]
   simp only [builtin,Builtin.min_,hlist]
   simp [Builtin.min2]
  ·cases h
 ·cases h
end Go.Av
