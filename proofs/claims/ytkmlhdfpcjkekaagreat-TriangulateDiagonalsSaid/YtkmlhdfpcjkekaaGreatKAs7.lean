/- Helping texts: As7, As8, As9, As10. -/
import Derived.Test.YtkmlhdfpcjkekaaGreatKAs5
import Derived.RangeFuncCalls
set_option linter.unusedSimpArgs false
set_option linter.unusedVariables false
set_option maxRecDepth 100000
set_option maxHeartbeats 16000000
namespace Go.Av
open Go.RowKit
variable {P:Program} {φ φ' φ'':Nat→Option Loc} {I I' I'':Nat→Prop} {H H' H'':Hp} {w w' w'':World}
theorem SR.regrow (hS:SR φ I H w) {b nid:Nat} {L:Loc} {sz A:Nat} {es es':List (List V)} {c c':Array Value} {t:TypeId} (hb:φ b=some L) (hk:get H b=some (.row sz true es))
 (hn:φ nid=none) (hd:get H nid=none) (hg:w.heap[L.B]? =some (.cells c t (0,0))) (hs:c'.size=c.size) (hl:A+es'.length*sz≤c.size) (hsz:∀ (i:Nat) (e:List V),es'[i]? =some e→e.length=sz)
 (hv:∀ (i:Nat) (e:List V) (k:Nat) (v:V),es'[i]? =some e→e[k]? =some v→∃ x,c'[A+i*sz+k]? =some x∧VR φ I w v x):
 SR (nk φ nid ⟨L.B,A,sz⟩) I (j4 (j4 H b none) nid (some (.row sz true es'))) (w.setRow L.B c')∧
 iC φ I H w (nk φ nid ⟨L.B,A,sz⟩) I (j4 (j4 H b none) nid (some (.row sz true es'))) (w.setRow L.B c'):=by
 have hbn:b≠nid:=by rintro rfl;rw [hn] at hb;cases hb
 have hne:∀ B,B≠L.B→(w.setRow L.B c').heap[B]? =w.heap[B]? :=fun B h=>setRow_other w L.B B c' h
 have hnew:=setRow_heap w L.B c c' t (0,0) hg
 have hOwn:Own φ H L.B:=⟨b,L,_,hb,hk,rfl,rfl⟩
 have hnI:¬I L.B:=hS.own_notI hOwn
 have hIs:∀ B,I B→(w.setRow L.B c').heap[B]? =w.heap[B]? :=fun B hB=>hne B (by rintro rfl;exact hnI hB)
 have hsh:=vV w L.B c c' t hg hs
 have hsize:(w.setRow L.B c').heap.size=w.heap.size:=by simp [World.setRow]
 have hm:=qw (L:=⟨L.B,A,sz⟩) hn
 have blen:b<H.length:=(hS.dom b L hb).1
 have getH:∀ d,d≠nid→get (j4 (j4 H b none) nid (some (.row sz true es'))) d=if d=b then none else get H d:=by
  intro d hd
  rw [ct _ _ hd]
  split
  ·rename_i e;subst e;rw [eT]
  ·rename_i e;rw [ct _ _ e]
 constructor
 ·refine ⟨fun d M hd=> ?_,fun B hB=>by rw [hsize];exact hS.imm B hB,?_,?_⟩
  ·rw [jG,jG,hsize]
   by_cases e:d=nid
   ·subst e;rw [cd] at hd;cases hd;exact ⟨by omega,(hS.dom b L hb).2⟩
   ·rw [cz _ _ e] at hd;have:=hS.dom d M hd;exact ⟨by omega,this.2⟩
  ·intro d M k hd' hk'
   by_cases e:d=nid
   ·subst e
    rw [cd] at hd';cases hd'
    rw [eT] at hk';cases hk'
    refine ⟨rfl,⟨c',t,hnew,by rw [hs];exact hl⟩,hsz,?_,⟨fun _=>hnI,fun _=>rfl⟩⟩
    intro i e k v hi hk
    obtain ⟨x,hx,hvx⟩:=hv i e k v hi hk
    exact ⟨x,by simp [World.cell?,hnew,hx],hvx.mono hm (fun _ h=>h) hIs hsh⟩
   ·rw [cz _ _ e] at hd'
    rw [getH d e] at hk'
    split at hk'
    ·cases hk'
    ·rename_i hdb
     by_cases hB:M.B=L.B
     ·exfalso
      have h1:=hS.blk d M k hd' hk'
      cases k with
      |row sz' m es2=>
       have hm:m=true:=h1.2.2.2.2.2 (by rw [hB];exact hnI)
       exact hdb (hS.inj d b M L _ _ hd' hb hk' hk (by rw [hm];rfl) rfl hB)
      |loop l=>
       obtain ⟨_,r,h2,_⟩:=h1
       rw [hB,hg] at h2;cases h2
      |mp l=>
       obtain ⟨_,r,clock,h2,_⟩:=h1
       rw [hB,hg] at h2;cases h2
     ·exact (hS.blk d M k hd' hk').mono hm (fun _ h=>h) hIs hsh (hne _ hB) (fun h=>h)
  ·intro d d' M M' k k' h1 h2 h3 h4 h5 h6 h7
   by_cases e:d=nid<;>by_cases e':d'=nid
   ·rw [e,e']
   ·exfalso
    subst e
    rw [cd] at h1;cases h1
    rw [cz _ _ e'] at h2;rw [getH d' e'] at h4
    split at h4
    ·cases h4
    ·rename_i hdb
     exact hdb (hS.inj d' b M' L k' _ h2 hb h4 hk h6 rfl h7.symm)
   ·exfalso
    subst e'
    rw [cd] at h2;cases h2
    rw [cz _ _ e] at h1;rw [getH d e] at h3
    split at h3
    ·cases h3
    ·rename_i hdb
     exact hdb (hS.inj d b M L k _ h1 hb h3 hk h5 rfl h7)
   ·rw [cz _ _ e] at h1;rw [cz _ _ e'] at h2;rw [getH d e] at h3;rw [getH d' e'] at h4
    split at h3
    ·cases h3
    ·split at h4
     ·cases h4
     ·exact hS.inj d d' M M' k k' h1 h2 h3 h4 h5 h6 h7
 ·refine ⟨rfl,rfl,rfl,by omega,fun B hB ho=>hne B (by rintro rfl;exact ho hOwn),hsh,hm,?_,fun _ h=>h,fun _ h _=> .inl h,?_⟩
  ·intro d M hd'
   by_cases e:d=nid
   ·subst e;rw [cd] at hd';cases hd';exact .inr (.inr hOwn)
   ·rw [cz _ _ e] at hd';exact .inl hd'
  ·rintro B hlt ⟨d,M,k,h1,h2,h3,rfl⟩
   by_cases e:d=nid
   ·subst e;rw [cd] at h1;cases h1;exact hOwn
   ·rw [cz _ _ e] at h1;rw [getH d e] at h2
    split at h2
    ·cases h2
    ·exact ⟨d,M,k,h1,h2,h3,rfl⟩
theorem ti {c:Array Value} {p:Nat}:tj c p []=c:=by
 unfold tj;simp
theorem xw {sz:Nat} {ys:List (List V)} {xs:List Value} (hx:xs.length=ys.length*sz) (hys:∀ (i:Nat) (e:List V),ys[i]? =some e→e.length=sz)
 (hv:∀ (i:Nat) (e:List V) (k:Nat) (v:V),ys[i]? =some e→e[k]? =some v→∃ y,xs[i*sz+k]? =some y∧VR φ I w v y) (hc:∀ y∈ys,∀ v∈y,ku v=true):∀ x∈xs,x.oneCell'=true:=by
 intro x hx'
 obtain ⟨m,hm⟩:=List.mem_iff_getElem?.1 hx'
 have hlt:=(aH.1 hm).1
 rw [hx] at hlt
 have hs0:0<sz:=Nat.pos_of_ne_zero (by rintro rfl;simp at hlt)
 have hi:m/sz<ys.length:=Nat.div_lt_of_lt_mul (by rw [Nat.mul_comm];exact hlt)
 have he:=af hi
 have hk:m%sz<ys[m/sz].length:=by rw [hys _ _ he];exact Nat.mod_lt _ hs0
 have hk':=af hk
 obtain ⟨y,hy,hvy⟩:=hv _ _ _ _ he hk'
 rw [Nat.div_add_mod' m sz,hm] at hy
 cases hy
 exact Au hvy (hc _ (List.mem_of_getElem? he) _ (List.mem_of_getElem? hk'))
inductive yd (H:Hp) (ei:TyI) (ys:List (List V)) (nid:Nat):V→V→List (Nat×Option Blk)→Prop
 |nil0 (h:ys=[]):yd H ei ys nid (.prim (.slice none 0 0)) (.prim (.slice none 0 0)) []
 |nil1 (h:ys≠[]) (hb:ys.length*ei.bytes≤2^47) (hm:ys.length≤2^60):
  yd H ei ys nid (.prim (.slice none 0 0)) (.sref nid 0 ys.length ys.length ei.sz false) [(nid,some (.row ei.sz true ys))]
 |room {b o n c:Nat} {z:Nat} {fx:Bool} {es:List (List V)} (hg:get H b=some (.row ei.sz true es)) (h1:o+n≤es.length) (h2:n+ys.length≤c) (h3:o+c≤es.length):
  yd H ei ys nid (.sref b o n c z fx) (.sref b o (n+ys.length) c ei.sz fx) [(b,some (.row ei.sz true (kG es (o+n) ys)))]
 |fixed {b o n c:Nat} {z:Nat} {m:Bool} {es:List (List V)} (hg:get H b=some (.row ei.sz m es)) (h1:o+n≤es.length) (h2:c<n+ys.length) (hb:(n+ys.length)*ei.bytes≤2^47) (hm:n+ys.length≤2^60):
  yd H ei ys nid (.sref b o n c z true) (.sref nid 0 (n+ys.length) (n+ys.length) ei.sz false) [(nid,some (.row ei.sz true ((es.drop o).take n++ys)))]
 |grow {b o n c:Nat} {z:Nat} {es:List (List V)} (hg:get H b=some (.row ei.sz true es)) (h1:o+n≤es.length) (hb:(n+ys.length)*ei.bytes≤2^47) (hm:n+ys.length≤2^60):
  yd H ei ys nid (.sref b o n c z false) (.sref nid 0 (n+ys.length) (n+ys.length) ei.sz false) [(b,none),(nid,some (.row ei.sz true ((es.drop o).take n++ys)))]
theorem xX {sz:Nat} {es ys:List (List V)} {xo xs:List Value} (hlo:xo.length=es.length*sz)
 (hvo:∀ (i:Nat) (e:List V) (k:Nat) (v:V),es[i]? =some e→e[k]? =some v→∃ y,xo[i*sz+k]? =some y∧VR φ I w v y)
 (hvs:∀ (i:Nat) (e:List V) (k:Nat) (v:V),ys[i]? =some e→e[k]? =some v→∃ y,xs[i*sz+k]? =some y∧VR φ I w v y) (rest:Array Value):
 ∀ (i:Nat) (e:List V) (k:Nat) (v:V),(es++ys)[i]? =some e→e[k]? =some v→∃ y,(xo.toArray++xs.toArray++rest)[i*sz+k]? =some y∧VR φ I w v y:=by
 intro i e k v he hk
 rcases am i es.length with h|h
 ·rw [bB h] at he
  obtain ⟨y,hy,hvy⟩:=hvo i e k v he hk
  have hlt:=(aH.1 hy).1
  refine ⟨y,?_,hvy⟩
  rw [Array.append_assoc,Array.getElem?_append_left (by simpa using hlt)]
  simpa using hy
 ·rw [bv h] at he
  obtain ⟨y,hy,hvy⟩:=hvs _ e k v he hk
  have hlt:=(aH.1 hy).1
  have hmul:i*sz=es.length*sz+(i-es.length)*sz:=by rw [←Nat.add_mul];congr 1;omega
  refine ⟨y,?_,hvy⟩
  rw [Array.append_assoc,Array.getElem?_append_right (by simp;omega)]
  rw [Array.getElem?_append_left (by simp;omega)]
  simp only [List.size_toArray,List.getElem?_toArray]
  rw [←hy];congr 1;omega
theorem oy (b:Nat) (k:Option Blk) (H:Hp):app [(b,k)] H=j4 H b k:=rfl
theorem Kz (b c:Nat) (k l:Option Blk) (H:Hp):app [(b,k),(c,l)] H=j4 (j4 H b k) c l:=rfl
theorem FB {e t t2:TypeId} {ei:TyI} {x:Value} {ys:List (List V)} {zeros:Bool} {xs:List Value} {argTypes:Array TypeId} {vals:Array Value} {ty:TypeId} {nid:Nat} {sv v:V} {wr:List (Nat×Option Blk)}
 (ha:yd H ei ys nid sv v wr) (hA:HK P φ I w e ei t2 x ys zeros xs) (hcl:∀ y∈ys,∀ v∈y,ku v=true) (ht:P.underlying t=some (.slice e)) (he:aD P e=some ei)
 (a0:argTypes[0]? =some t) (a1:argTypes[1]? =some t2) {s:Value} (hs:VR φ I w sv s) (v0:vals[0]? =some s) (v1:vals[1]? =some x) (hS:SR φ I H w)
 (hn:φ nid=none) (hd:get H nid=none) (hnl:nid≤H.length):
 ∃ r w' φ',(Builtin.append_ argTypes ty vals).run P w= .ok r w'∧VR φ' I w' v r∧SR φ' I (app wr H) w'∧iC φ I H w φ' I (app wr H) w'∧(∀ b,b≠nid→φ' b=φ b):=by
 have h1c:=xw hA.len hA.lens hA.cells hcl
 have hdw:w.drew.heap=w.heap:=rfl
 cases ha with
 |nil0 h=>
  subst h
  have:=hs.prim_inv.1;subst this
  refine ⟨.slice none 0 0,w,φ,?_,.prim rfl,hS,iC.refl,fun _ _=>rfl⟩
  cases zeros with
  |false=>
   obtain ⟨q1,q2⟩:=hA.plain rfl
   obtain ⟨d,hd,hne⟩:=hA.notInt
   have q1:=q1 w rfl
   simp only [aI] at q1 q2
   unfold Builtin.append_
   simp only [a0,a1,v0,v1,Sem.run_bind,run_underlying ht,run_underlying hd,aQ,gV he]
   cases d<;>first
    |exact absurd rfl (hne _)
    |simp [q1,q2]
  |true=>
   obtain ⟨⟨k,rfl⟩,q2,q3,z,z1,z2,z3⟩:=hA.made rfl
   obtain ⟨j,hj1,hj2,_,hj3,hj4⟩:=v5 he
   obtain ⟨kd,hkd⟩:=hA.isInt
   unfold Builtin.append_
   simp [a0,a1,v0,v1,run_underlying ht,run_underlying hkd,gV he,asInt,asIntOf,hj4,show IntKind.i64.wrap 0=0 from rfl]
 |nil1 h hb hm=>
  have:=hs.prim_inv.1;subst this
  have hlen:0<ys.length:=List.length_pos_iff.2 h
  obtain ⟨nc,z,hnc,_,hrun,hzs⟩:=ua (ty:=ty) hA ht he a0 a1 v0 v1 (by omega) (olds:=[]) (fun W _=>by simp [Builtin.firstCells]) (by simpa using hb) (by simpa using hm)
  have hcs:(([]:List Value).toArray++xs.toArray++Builtin.zeroCells (Value.cells z) (nc-(0+ys.length))).size=nc*ei.sz:=by
   simp only [Array.size_append,List.size_toArray,aI,aX,hA.len,size_zeroCells,hzs,←Nat.add_mul];congr 1;omega
  obtain ⟨g1,g2⟩:=SR.alloc hS (W:=w.drew) (t:=e) (c:=([]:List Value).toArray++xs.toArray++Builtin.zeroCells (Value.cells z) (nc-(0+ys.length))) (sz:=ei.sz) (es:=ys) hn hd hnl hdw ⟨rfl,rfl,rfl⟩
   (by rw [hcs];exact aS _ (by omega)) hA.lens
   (by have:=xX (φ:=φ) (I:=I) (w:=w) (es:=[]) (ys:=ys) (xo:=[]) (xs:=xs) (sz:=ei.sz) (by simp) (by simp) hA.cells (Builtin.zeroCells (Value.cells z) (nc-(0+ys.length)));simpa using this)
  rw [oy]
  refine ⟨_,_,_,hrun,?_,g1,g2,fun b hb=>cz φ _ hb⟩
  simp only [aX] at hnc hcs ⊢
  exact VR.sref (A:=0) (cap:=nc) (cd φ nid _) rfl (ax _) hnc (by simp) (rn w.drew _ e) (.inl (by simp)) (by rw [hcs];simp)
 |room hg h1 h2 h3=>
  rename_i b o n c zz fx es
  obtain ⟨L,A,cap,tt,mm,hL,rfl,hLs,g1,g2,g3,g4,g5,g6⟩:=hs.sref_inv
  obtain ⟨r1,⟨cc,tc,r2,r3⟩,r4,r5,r6⟩:=hS.row hL hg
  have hsh:mm=cc.size:=by simp [World.shape?,r2] at g4;exact g4.2.symm
  obtain ⟨p1,p2,p3⟩:=xj (o:=o+n) hS hL hg (by omega) hA.len hA.lens hA.cells r2
  have hpp:A+n*ei.sz+xs.length≤cc.size:=by
   rw [hA.len,←hsh]
   have:(n+ys.length)*ei.sz≤cap*ei.sz:=aS _ (by omega)
   rw [Nat.add_mul] at this
   rw [r1] at g6
   omega
  have hrun:=y7 (ty:=ty) hA ht he a0 a1 v0 v1 (by omega) r2 hpp h1c
  have hov:tj cc (A+n*ei.sz) xs=tj cc (L.off+(o+n)*ei.sz) xs:=by
   rcases g5 with g5|⟨g5,g5'⟩
   ·rw [g5,r1,Nat.add_mul,Nat.add_assoc]
   ·have:xs=[]:=by apply List.eq_nil_of_length_eq_zero;rw [hA.len];have:ys.length=0:=by omega
                   rw [this];simp
    rw [this,ti,ti]
  rw [hov] at hrun
  rw [oy]
  refine ⟨_,_,φ,hrun,?_,p2,p3,fun _ _=>rfl⟩
  exact VR.sref hL r1 (by omega) g2 g3 (p3.shape _ _ g4) (g5.imp id (fun h=>⟨by omega,h.2⟩)) g6
 |fixed hg h1 h2 hb hm=>
  rename_i b o n c zz m es
  have hel:jz H ei.sz (.sref b o n c zz true)=some ((es.drop o).take n):=by simp [jz,hg,h1]
  obtain ⟨xo,q1,q2,q3,q4,q5,q6⟩:=rK (P:=P) hel hs hS
  obtain ⟨L,A,cap,tt,mm,hL,rfl,hLs,g1,g2,g3,g4,g5,g6⟩:=hs.sref_inv
  have hlen:((es.drop o).take n).length=n:=by simp;omega
  rw [hlen] at q1 q2
  obtain ⟨nc,z,hnc,_,hrun,hzs⟩:=ua (ty:=ty) hA ht he a0 a1 v0 v1 (by rw [g3 rfl];exact h2) (olds:=xo) (fun W hW=>by rw [q2 W n hW (ax _),List.take_of_length_le (by rw [q1];omega)]) hb hm
  have hcs:(xo.toArray++xs.toArray++Builtin.zeroCells (Value.cells z) (nc-(n+ys.length))).size=nc*ei.sz:=by
   simp only [Array.size_append,List.size_toArray,q1,hA.len,size_zeroCells,hzs,←Nat.add_mul];congr 1;omega
  obtain ⟨e1,e2⟩:=SR.alloc hS (W:=w.drew) (t:=e) (c:=xo.toArray++xs.toArray++Builtin.zeroCells (Value.cells z) (nc-(n+ys.length))) (sz:=ei.sz) (es:=(es.drop o).take n++ys) hn hd hnl hdw ⟨rfl,rfl,rfl⟩
   (by rw [hcs,aK,hlen];exact aS _ hnc)
   (by
    intro i y hy
    rcases am i ((es.drop o).take n).length with hlt|hge
    ·rw [bB hlt] at hy;exact q4 i y hy
    ·rw [bv hge] at hy;exact hA.lens _ y hy)
   (xX (by rw [q1,hlen]) q5 hA.cells _)
  rw [oy]
  refine ⟨_,_,_,hrun,?_,e1,e2,fun b hb=>cz φ _ hb⟩
  exact VR.sref (A:=0) (cap:=nc) (cd φ nid _) rfl (ax _) hnc (by simp) (rn w.drew _ e) (.inl (by simp)) (by rw [hcs];simp)
 |grow hg h1 hb hm=>
  rename_i b o n c zz es
  have hel:jz H ei.sz (.sref b o n c zz false)=some ((es.drop o).take n):=by simp [jz,hg,h1]
  obtain ⟨xo,q1,q2,q3,q4,q5,q6⟩:=rK (P:=P) hel hs hS
  obtain ⟨L,A,cap,tt,mm,hL,rfl,hLs,g1,g2,g3,g4,g5,g6⟩:=hs.sref_inv
  have hlen:((es.drop o).take n).length=n:=by simp;omega
  rw [hlen] at q1 q2
  have hlens:∀ (i:Nat) (y:List V),((es.drop o).take n++ys)[i]? =some y→y.length=ei.sz:=by
   intro i y hy
   rcases am i ((es.drop o).take n).length with hlt|hge
   ·rw [bB hlt] at hy;exact q4 i y hy
   ·rw [bv hge] at hy;exact hA.lens _ y hy
  rw [Kz]
  have bne:b≠nid:=by rintro rfl;rw [hn] at hL;cases hL
  by_cases hroom:n+ys.length≤cap
  ·obtain ⟨r1,⟨cc,tc,r2,r3⟩,r4,r5,r6⟩:=hS.row hL hg
   have hsh:mm=cc.size:=by simp [World.shape?,r2] at g4;exact g4.2.symm
   have hpp:A+n*ei.sz+xs.length≤cc.size:=by
    rw [hA.len,←hsh]
    have:(n+ys.length)*ei.sz≤cap*ei.sz:=aS _ (by omega)
    rw [Nat.add_mul] at this
    rw [r1] at g6
    omega
   have hrun:=y7 (ty:=ty) hA ht he a0 a1 v0 v1 hroom r2 hpp h1c
   obtain ⟨e1,e2⟩:=SR.regrow hS (A:=A) (es':=(es.drop o).take n++ys) (c':=tj cc (A+n*ei.sz) xs) hL hg hn hd r2 (xk hpp)
    (by rw [aK,hlen,Nat.add_mul];rw [hA.len] at hpp;omega) hlens
    (by
     intro i y k v hy hk
     rw [An hpp]
     have hks:k<ei.sz:=by rw [←hlens i y hy];exact (aH.1 hk).1
     rcases am i n with hlt|hge
     ·rw [bB (by rw [hlen];exact hlt)] at hy
      have hA':A=L.off+o*L.sz:=g5.resolve_right (by omega)
      have hy':es[o+i]? =some y:=by
       rw [fE,if_pos hlt,List.getElem?_drop] at hy;exact hy
      obtain ⟨x0,hx0,hvx⟩:=r5 _ y k v hy' hk
      have hm1:(i+1)*ei.sz≤n*ei.sz:=aS _ hlt
      rw [Nat.add_mul] at hm1
      rw [if_pos (by omega)]
      refine ⟨x0,?_,hvx⟩
      have:=BD r2 hx0
      rw [hA',r1,←this];congr 1
      rw [Nat.add_mul];omega
     ·rw [bv (by rw [hlen];exact hge),hlen] at hy
      obtain ⟨x0,hx0,hvx⟩:=hA.cells _ y k v hy hk
      have hlt0:=(aH.1 hx0).1
      have hmul:i*ei.sz=n*ei.sz+(i-n)*ei.sz:=by rw [←Nat.add_mul];congr 1;omega
      rw [if_neg (by omega),if_pos (by omega)]
      refine ⟨x0,?_,hvx⟩
      rw [←hx0];congr 1;omega)
   refine ⟨_,_,_,hrun,?_,e1,e2,fun b hb=>cz φ _ hb⟩
   have:=VR.sref (I:=I) (b:=nid) (o:=0) (n:=n+ys.length) (c:=n+ys.length) (cap:=cap) (sz:=ei.sz) (fx:=false) (A:=A) (cd φ nid ⟨L.B,A,ei.sz⟩) rfl (ax _) hroom (by simp) (e2.shape _ _ g4) (.inl (by simp)) (by rw [r1] at g6;exact g6)
   exact this
  ·obtain ⟨nc,z,hnc,_,hrun,hzs⟩:=ua (ty:=ty) hA ht he a0 a1 v0 v1 (by omega) (olds:=xo) (fun W hW=>by rw [q2 W n hW (ax _),List.take_of_length_le (by rw [q1];omega)]) hb hm
   have hcs:(xo.toArray++xs.toArray++Builtin.zeroCells (Value.cells z) (nc-(n+ys.length))).size=nc*ei.sz:=by
    simp only [Array.size_append,List.size_toArray,q1,hA.len,size_zeroCells,hzs,←Nat.add_mul];congr 1;omega
   obtain ⟨k1,k2⟩:=hS.kill (hS.dom b L hL).1
   obtain ⟨e1,e2⟩:=SR.alloc k1 (W:=w.drew) (t:=e) (c:=xo.toArray++xs.toArray++Builtin.zeroCells (Value.cells z) (nc-(n+ys.length))) (sz:=ei.sz) (es:=(es.drop o).take n++ys) hn
    (by rw [ct _ _ bne.symm];exact hd) (by rw [jG];omega) hdw ⟨rfl,rfl,rfl⟩
    (by rw [hcs,aK,hlen];exact aS _ hnc) hlens (xX (by rw [q1,hlen]) q5 hA.cells _)
   refine ⟨_,_,_,hrun,?_,e1,k2.trans e2,fun b hb=>cz φ _ hb⟩
   exact VR.sref (A:=0) (cap:=nc) (cd φ nid _) rfl (ax _) hnc (by simp) (rn w.drew _ e) (.inl (by simp)) (by rw [hcs];simp)
end Go.Av
namespace Go.Av
open Go.RowKit
variable {P:Program} {φ φ' φ'':Nat→Option Loc} {I I' I'':Nat→Prop} {H H' H'':Hp} {w w' w'':World}
theorem IW {t e:TypeId} {ei:TyI} {argTypes:Array TypeId} {vals:Array Value} {ty:TypeId} {dv sv:V} {d x:Value} {ys:List (List V)} {b o n c z:Nat} {fx:Bool} {es:List (List V)} (hdv:dv= .sref b o n c z fx)
 (hel:jz H ei.sz sv=some ys) (hcl:∀ y∈ys,∀ v∈y,ku v=true) (ht:P.underlying t=some (.slice e)) (he:aD P e=some ei) (a0:argTypes[0]? =some t)
 (hd:VR φ I w dv d) (hx:VR φ I w sv x) (v0:vals[0]? =some d) (v1:vals[1]? =some x) (hS:SR φ I H w) (hg:get H b=some (.row ei.sz true es)) (hle:o+n≤es.length):
 ∃ w',(Builtin.copy_ argTypes ty vals).run P w= .ok (.int .i64 (min ys.length n:Nat)) w'∧SR φ I (j4 H b (some (.row ei.sz true (kG es o (ys.take n))))) w'∧
  iC φ I H w φ I (j4 H b (some (.row ei.sz true (kG es o (ys.take n))))) w':=by
 subst hdv
 obtain ⟨xs,q1,q2,q3,q4,q5,q6⟩:=rK (P:=P) hel hx hS
 obtain ⟨L,A,cap,tt,mm,hL,rfl,hLs,g1,g2,g3,g4,g5,g6⟩:=hd.sref_inv
 obtain ⟨r1,⟨cc,tc,r2,r3⟩,r4,r5,r6⟩:=hS.row hL hg
 have hsh:mm=cc.size:=by simp [World.shape?,r2] at g4;exact g4.2.symm
 have hml:(ys.take n).length=min ys.length n:=by simp [Nat.min_comm]
 have hxl:(xs.take (min ys.length n*ei.sz)).length=(ys.take n).length*ei.sz:=by
  rw [hml,d9,q1];exact Nat.min_eq_left (aS _ (Nat.min_le_left _ _))
 have hget:∀ (i:Nat) (y:List V),(ys.take n)[i]? =some y→ys[i]? =some y∧i<min ys.length n:=by
  intro i y hy
  have:=(aH.1 hy).1
  rw [hml] at this
  rw [fE] at hy
  split at hy
  ·exact ⟨hy,this⟩
  ·cases hy
 have hlens:∀ (i:Nat) (y:List V),(ys.take n)[i]? =some y→y.length=ei.sz:=fun i y hy=>q4 i y (hget i y hy).1
 have hcells:∀ (i:Nat) (y:List V) (k:Nat) (v:V),(ys.take n)[i]? =some y→y[k]? =some v→∃ z,(xs.take (min ys.length n*ei.sz))[i*ei.sz+k]? =some z∧VR φ I w v z:=by
  intro i y k v hy hk
  obtain ⟨h1,h2⟩:=hget i y hy
  obtain ⟨z,hz,hvz⟩:=q5 i y k v h1 hk
  have hks:k<ei.sz:=by rw [←q4 i y h1];exact (aH.1 hk).1
  have hm:(i+1)*ei.sz≤min ys.length n*ei.sz:=aS _ h2
  rw [Nat.add_mul] at hm
  exact ⟨z,by rw [fE,if_pos (by omega)];exact hz,hvz⟩
 have h1c:=xw hxl hlens hcells (fun y hy=>hcl y (List.mem_of_mem_take hy))
 obtain ⟨p1,p2,p3⟩:=xj (o:=o) hS hL hg (by rw [hml];omega) hxl hlens hcells r2
 have hpp:A+(xs.take (min ys.length n*ei.sz)).length≤cc.size:=by
  rw [hxl,hml,←hsh]
  have:min ys.length n*ei.sz≤cap*ei.sz:=aS _ (by omega)
  rw [r1] at g6;omega
 have hrun:=v4 (P:=P) r2 hpp h1c
 have hov:tj cc A (xs.take (min ys.length n*ei.sz))=tj cc (L.off+o*ei.sz) (xs.take (min ys.length n*ei.sz)):=by
  rcases g5 with g5|⟨g5,g5'⟩
  ·rw [g5,r1]
  ·have:xs.take (min ys.length n*ei.sz)=[]:=by apply List.eq_nil_of_length_eq_zero;rw [hxl,hml,g5];simp
   rw [this,ti,ti]
 rw [hov] at hrun
 refine ⟨_,?_,p2,p3⟩
 have hnm:Nat.min ys.length n=min ys.length n:=rfl
 unfold Builtin.copy_
 simp only [a0,v0,v1,Sem.run_bind,run_underlying ht,aQ,q3,gV he,hnm,q2 w _ rfl (Nat.min_le_left _ _),List.toList_toArray,hrun,Sem.run_pure,goInt]
theorem Hl {t e:TypeId} {ei:TyI} {argTypes:Array TypeId} {vals:Array Value} {ty:TypeId} {d:Value} {b o n c z:Nat} {fx:Bool} {es:List (List V)}
 (ht:P.underlying t=some (.slice e)) (he:aD P e=some ei) (a0:argTypes[0]? =some t) (hd:VR φ I w (.sref b o n c z fx) d) (v0:vals[0]? =some d) (hS:SR φ I H w)
 (hg:get H b=some (.row ei.sz true es)) (hle:o+n≤es.length):
 ∃ w',(Builtin.clear_ argTypes ty vals).run P w= .ok undef w'∧SR φ I (j4 H b (some (.row ei.sz true (kG es o (List.replicate n (ei.zero.map .prim)))))) w'∧
  iC φ I H w φ I (j4 H b (some (.row ei.sz true (kG es o (List.replicate n (ei.zero.map .prim)))))) w':=by
 obtain ⟨L,A,cap,tt,mm,hL,rfl,hLs,g1,g2,g3,g4,g5,g6⟩:=hd.sref_inv
 obtain ⟨r1,⟨cc,tc,r2,r3⟩,r4,r5,r6⟩:=hS.row hL hg
 have hsh:mm=cc.size:=by simp [World.shape?,r2] at g4;exact g4.2.symm
 obtain ⟨zv,hz1,hz2⟩:=oU he
 have hzl:zv.cells.size=ei.sz:=by rw [←lr he,←hz1];simp
 have hxl:(Builtin.zeroCells zv.cells n).toList.length=(List.replicate n (ei.zero.map V.prim)).length*ei.sz:=by simp [Builtin.zeroCells,hzl]
 have hlens:∀ (i:Nat) (y:List V),(List.replicate n (ei.zero.map V.prim))[i]? =some y→y.length=ei.sz:=by
  intro i y hy;obtain ⟨rfl,_⟩:=l5 hy;simp [lr he]
 have hcells:∀ (i:Nat) (y:List V) (k:Nat) (v:V),(List.replicate n (ei.zero.map V.prim))[i]? =some y→y[k]? =some v→∃ z,(Builtin.zeroCells zv.cells n).toList[i*ei.sz+k]? =some z∧VR φ I w v z:=by
  intro i y q v hy hq
  obtain ⟨rfl,hj⟩:=l5 hy
  have hql:q<ei.sz:=by have:=(aH.1 hq).1;simpa [lr he] using this
  rw [Array.getElem?_toList]
  unfold Builtin.zeroCells
  have:=uD hzl hj hql
  rw [hzl] at this ⊢
  rw [this]
  refine ⟨_,rfl,?_⟩
  rw [aW] at hq
  cases hzq:ei.zero[q]? with
  |none=>rw [hzq] at hq;cases hq
  |some y=>
   rw [hzq] at hq;cases hq
   have:zv.cells[q]? =some y:=by rw [←hz1,Array.getElem?_toList] at hzq;exact hzq
   rw [Array.getD_eq_getD_getElem?,this]
   exact .prim (oD he y (List.mem_of_getElem? hzq))
 have h1c:=xw hxl hlens hcells (by
  intro y hy v hv
  rw [(List.mem_replicate.1 hy).2] at hv
  obtain ⟨x,_,rfl⟩:=av.1 hv;rfl)
 obtain ⟨p1,p2,p3⟩:=xj (o:=o) hS hL hg (by simpa using hle) hxl hlens hcells r2
 rcases Nat.eq_zero_or_pos n with rfl|hpos
 ·have h0:(Builtin.zeroCells zv.cells 0).toList=[]:=by apply List.eq_nil_of_length_eq_zero;rw [hxl];simp
  rw [h0,ti,setRow_self w L.B cc tc (0,0) r2] at p2 p3
  refine ⟨w,?_,p2,p3⟩
  unfold Builtin.clear_
  simp [a0,v0,run_underlying ht,undef]
 ·have hA:A=L.off+o*ei.sz:=by rw [←r1];exact g5.resolve_right (by omega)
  have hrun:=v4 (P:=P) r2 p1 h1c
  refine ⟨_,?_,p2,p3⟩
  obtain ⟨m,rfl⟩:∃ m,n=m+1:=⟨n-1,by omega⟩
  unfold Builtin.clear_
  simp only [a0,v0,Sem.run_bind,run_underlying ht,aQ,hz2,hA,hrun,Sem.run_pure,undef]
inductive oz (P:Program) (T:List V) (H:Hp) (nid:Nat):Op→V→List (Nat×Option Blk)→Prop
 |n {op:Op} {c:Prop} {v:V} (h:evN (aD P) T op=some (c,v)) (hc:c):oz P T H nid op v []
 |a {op:Op} {c:Prop} {k:Blk} {mk:Nat→V} (h:evA (aD P) T op=some (c,k,mk)) (hc:c):oz P T H nid op (mk nid) [(nid,some k)]
 |l {op:Op} {v:V} (h:evL (aD P) T H op=some v):oz P T H nid op v []
 |pc {fv:Operand} {args:Array Operand} {argTypes:Array TypeId} {g:FuncId} {first cap as:List V} {r:V} (hf:ev T fv= .clo g first cap)
  (hv:ii H (first++args.toList.map (ev T)++cap)=some as) (hp:PC P g as r) (hd:(first++args.toList.map (ev T)++cap).all (flat 9)=true∨dry 9 r=true):
  oz P T H nid (.call { callee:= .value fv,args,argTypes }) r []
 |qc {fv:Operand} {args:Array Operand} {argTypes:Array TypeId} {g:FuncId} {first cap:List V} {v:V} {q:Option (Nat×Option Blk)} (hf:ev T fv= .clo g first cap) (hq:NL (first++args.toList.map (ev T)++cap) H v q)
  (hp:QC P g (first++args.toList.map (ev T)++cap) H v q ((first++args.toList.map (ev T)++cap).flatMap (eD H 9))):
  oz P T H nid (.call { callee:= .value fv,args,argTypes }) v q.toList
 |st {t:TypeId} {ad x:Operand} {i:TyI} {b k j sz:Nat} {es:List (List V)} {e:List V} (ht:aD P t=some i) (hev:ev T ad= .ptr b k j) (hg:get H b=some (.row sz true es)) (he:es[k]? =some e)
  (h1:(ev T x).cells.length=i.sz) (h2:j+i.sz≤e.length) (h3:(ev T x).cells.all ku=true):oz P T H nid (.store t ad x) cW [(b,some (.row sz true (es.set k (jf e j (ev T x).cells))))]
 |ap {args:Array Operand} {argTypes:Array TypeId} {s x:Operand} {t e:TypeId} {i ei:TyI} {c:Prop} {ys:List (List V)} {v:V} {wr:List (Nat×Option Blk)} (a0:args[0]? =some s) (a1:args[1]? =some x) (t0:argTypes[0]? =some t)
  (ht:aD P t=some i) (hk:i.k= .slice e) (he:aD P e=some ei) (had:rR P H ei argTypes[1]? (ev T x)=some (c,ys)) (hc:c) (hcl:∀ y∈ys,∀ v∈y,ku v=true) (ha:yd H ei ys nid (ev T s) v wr):
  oz P T H nid (.call { callee:= .builtin .append,args,argTypes }) v wr
 |cp {args:Array Operand} {argTypes:Array TypeId} {d x:Operand} {t e:TypeId} {i ei:TyI} {ys:List (List V)} {b o n c z:Nat} {fx:Bool} {es:List (List V)} (a0:args[0]? =some d) (a1:args[1]? =some x) (t0:argTypes[0]? =some t)
  (ht:aD P t=some i) (hk:i.k= .slice e) (he:aD P e=some ei) (hel:jz H ei.sz (ev T x)=some ys) (hcl:∀ y∈ys,∀ v∈y,ku v=true) (hd:ev T d= .sref b o n c z fx)
  (hg:get H b=some (.row ei.sz true es)) (hle:o+n≤es.length):
  oz P T H nid (.call { callee:= .builtin .copy,args,argTypes }) (.prim (.int .i64 (min ys.length n:Nat))) [(b,some (.row ei.sz true (kG es o (ys.take n))))]
 |cl {args:Array Operand} {argTypes:Array TypeId} {d:Operand} {t e:TypeId} {i ei:TyI} {b o n c z:Nat} {fx:Bool} {es:List (List V)} (a0:args[0]? =some d) (t0:argTypes[0]? =some t)
  (ht:aD P t=some i) (hk:i.k= .slice e) (he:aD P e=some ei) (hd:ev T d= .sref b o n c z fx) (hg:get H b=some (.row ei.sz true es)) (hle:o+n≤es.length):
  oz P T H nid (.call { callee:= .builtin .clear,args,argTypes }) cW [(b,some (.row ei.sz true (kG es o (List.replicate n (ei.zero.map .prim)))))]
 |mu {op:Op} {t:TypeId} {m k x:Operand} {i:TyI} {kt et:TypeId} {b:Nat} {es:List (V×V)} {r:Option (Nat×V)} (ho:op= .mapUpdate t m k x∨op= .insert t m k x) (ht:aD P t=some i) (hk:i.k= .map kt et) (hm:ev T m= .mpr b)
  (hg:get H b=some (.mp es)) (hq:eqA (aD P) 9 kt (ev T k) (ev T k)=some true) (hf:sL (aD P) kt (ev T k) es 0=some r) (hr:∀ j v,r=some (j,v)→es[j]? =some (ev T k,v)∧yv (ev T k)=true):
  oz P T H nid op cW [(b,some (.mp (Sf (ev T k) (ev T x) es r)))]
theorem mh {b:Nat} {k:Blk} (h:get H b=some k):b<H.length:=by
 rcases am b H.length with h1|h1
 ·exact h1
 ·rw [oh h1] at h;cases h
theorem uN {b:Nat} {k:Blk} (k':Option Blk) (h:get H b=some k):app [(b,k')] H=H.set b k':=by rw [oy,ng _ (mh h)]
theorem PF {b:Nat} {k:Blk} (k':Option Blk) (h:get H b=some k):app [(b,none),(H.length,k')] H=H.set b none++[k']:=by
 rw [Kz,ng _ (mh h)]
 have:(H.set b none).length=H.length:=by simp
 rw [←this,s7]
theorem CG {T:List V} {op:Op} {K:V→Hp→Prop} (h:iE P T H op K):∃ v wr,oz P T H H.length op v wr∧K v (app wr H):=by
 have hval:∀ p,mn P T H op K=some p→p→∃ v wr,oz P T H H.length op v wr∧K v (app wr H):=by
  intro p hp hh
  unfold mn at hp
  split at hp
  ·rename_i c v hv;cases hp;exact ⟨v,[],.n hv hh.1,hh.2⟩
  ·split at hp
   ·rename_i c k mk hv;cases hp;exact ⟨_,_,.a hv hh.1,by rw [oy,s7];exact hh.2⟩
   ·split at hp
    ·rename_i v hv;cases hp;exact ⟨v,[],.l hv,hh⟩
    ·cases hp
 have hpc:∀ fv args argTypes,op= .call { callee:= .value fv,args,argTypes }→BT P T H op K→∃ v wr,oz P T H H.length op v wr∧K v (app wr H):=by
  rintro fv args argTypes rfl hh
  unfold BT at hh
  simp only at hh
  split at hh
  ·rename_i g first cap hf
   obtain ⟨as,r,h1,h2,h3,h4⟩:=hh
   exact ⟨r,[],.pc hf h1 h2 h3,h4⟩
  ·exact hh.elim
 have hqc:∀ fv args argTypes,op= .call { callee:= .value fv,args,argTypes }→HM P T H op K→∃ v wr,oz P T H H.length op v wr∧K v (app wr H):=by
  rintro fv args argTypes rfl hh
  unfold HM at hh
  simp only at hh
  split at hh
  ·rename_i g first cap hf
   obtain ⟨v,o,h1,h2,h3⟩:=hh
   refine ⟨v,_,.qc hf h1 h2,?_⟩
   cases o with
   |none=>exact h3
   |some p=>
    have e:app (some p).toList H=BW H (some p):=by
     rw [show (some p).toList=[(p.1,p.2)] from rfl,oy,ng _ (mh h1.2.2.1.choose_spec)];rfl
    rw [e]
    exact h3
  ·exact hh.elim
 have hmu:∀ t m k x,op= .mapUpdate t m k x∨op= .insert t m k x→p6 P T H t m k x K→∃ v wr,oz P T H H.length op v wr∧K v (app wr H):=by
  intro t m k x ho hh
  unfold p6 at hh
  split at hh
  ·rename_i i ht
   split at hh
   ·rename_i kt et b hk hm
    split at hh
    ·rename_i es hg
     obtain ⟨hq,hh⟩:=hh
     split at hh
     ·rename_i hf
      exact ⟨_,_,.mu ho ht hk hm hg hq hf (fun j v h=>by cases h),by rw [uN _ hg];exact hh⟩
     ·rename_i j v hf
      exact ⟨_,_,.mu ho ht hk hm hg hq hf (fun j' v' h=>by cases h;exact ⟨hh.1,hh.2.1⟩),by rw [uN _ hg];exact hh.2.2⟩
     ·exact hh.elim
    ·exact hh.elim
   ·exact hh.elim
  ·exact hh.elim
 unfold iE at h
 split at h
 ·rcases h with h|h
  ·exact hpc _ _ _ rfl h
  ·exact hqc _ _ _ rfl h
 ·split at h
  ·rename_i c v hv;exact ⟨v,[],.n hv h.1,h.2⟩
  ·exact h.elim
 ·split at h
  ·rename_i c v hv;exact ⟨v,[],.n hv h.1,h.2⟩
  ·exact h.elim
 ·rename_i hnc hns hnb
  unfold eV at h
  split at h
  ·rename_i p hp;exact hval p hp h
  ·clear hval
   unfold nD at h
   split at h
   ·
    rename_i t a x
    unfold fT at h
    split at h
    ·rename_i i b k j ht hev
     split at h
     ·rename_i sz es hg
      split at h
      ·rename_i e he
       refine ⟨_,_,.st ht hev hg he h.1 h.2.1 h.2.2.1,?_⟩
       rw [uN _ hg];exact h.2.2.2
      ·exact h.elim
     ·exact h.elim
    ·exact h.elim
   ·exact absurd rfl (hns _ _ _ _ _)
   ·
    rename_i t m k x _
    exact hmu t m k x (.inl rfl) h
   ·rename_i t m k x _
    exact hmu t m k x (.inr rfl) h
   ·exact absurd rfl (hnb _ _ _ _ _)
   ·exact absurd rfl (hnc _ _ _)
   ·
    rename_i args argTypes _
    split at h
    ·rename_i s x t a0 a1 t0
     split at h
     ·rename_i e _ _ _ _ _ ht
      split at h
      ·rename_i ei he
       split at h
       ·rename_i c ys had
        obtain ⟨hc,hcl,h⟩:=h
        have mk:∀ v wr,yd H ei ys H.length (ev T s) v wr→K v (app wr H)→∃ v wr,oz P T H H.length (.call { callee:= .builtin .append,args,argTypes }) v wr∧K v (app wr H):=
         fun v wr ha hK=>⟨v,wr,.ap a0 a1 t0 ht rfl he had hc hcl ha,hK⟩
        split at h
        ·rename_i heq
         rw [heq] at mk
         by_cases hy:ys=[]
         ·exact mk _ _ (.nil0 hy) (by have:=h.1 hy;rw [heq] at this;exact this)
         ·obtain ⟨h1,h2,h3⟩:=h.2 hy
          exact mk _ _ (.nil1 hy h1 h2) (by rw [oy,s7];exact h3)
        ·rename_i b o n c z fx heq
         rw [heq] at mk
         split at h
         ·rename_i sz m es hg
          obtain ⟨rfl,hle,h⟩:=h
          rcases h with ⟨h1,h2,h3,h4⟩|⟨h1,h2,h3,h4,h5⟩|⟨h1,h2,h3,h4,h5⟩
          ·subst h3
           exact mk _ _ (.room hg hle h1 h2) (by rw [uN _ hg];exact h4)
          ·subst h1
           exact mk _ _ (.fixed hg hle h2 h3 h4) (by rw [oy,s7];exact h5)
          ·subst h1;subst h2
           exact mk _ _ (.grow hg hle h3 h4) (by rw [PF _ hg];exact h5)
         ·exact h.elim
        ·exact h.elim
       ·exact h.elim
      ·exact h.elim
     ·exact h.elim
    ·exact h.elim
   ·
    rename_i args argTypes _
    split at h
    ·rename_i d x t a0 a1 t0
     split at h
     ·rename_i e _ _ _ _ _ ht
      split at h
      ·rename_i ei he
       split at h
       ·rename_i ys hel
        obtain ⟨hcl,h⟩:=h
        split at h
        ·rename_i b o n c z fx heq
         split at h
         ·rename_i sz es hg
          obtain ⟨rfl,hle,h⟩:=h
          exact ⟨_,_,.cp a0 a1 t0 ht rfl he hel hcl heq hg hle,by rw [uN _ hg];exact h⟩
         ·exact h.elim
        ·exact h.elim
       ·exact h.elim
      ·exact h.elim
     ·exact h.elim
    ·exact h.elim
   ·
    rename_i args argTypes _
    split at h
    ·rename_i d t a0 t0
     split at h
     ·rename_i e _ _ _ _ _ ht
      split at h
      ·rename_i ei he
       unfold vM at h
       split at h
       ·rename_i b o n c z fx heq
        split at h
        ·rename_i sz es hg
         obtain ⟨rfl,hle,h⟩:=h
         exact ⟨_,_,.cl a0 t0 ht rfl he heq hg hle,by rw [uN _ hg];exact h⟩
        ·exact h.elim
       ·exact h.elim
      ·exact h.elim
     ·exact h.elim
    ·exact h.elim
   ·exact h.elim
end Go.Av
namespace Go.Av
open Go.RowKit
variable {P:Program} {φ φ' φ'':Nat→Option Loc} {I I' I'' J:Nat→Prop} {H H' H'':Hp} {w w' w'':World}
theorem re {n:Nat}:∀ {cs xs:List V},view.viewL H n cs=some xs→xs.length=cs.length∧∀ (k:Nat) (v:V),cs[k]? =some v→∃ v0,xs[k]? =some v0∧view H n v=some v0
 |[],xs,h=>by simp [view.viewL] at h;subst h;simp
 |c::cs,xs,h=>by
  unfold view.viewL at h
  split at h
  ·rename_i x xs' h1 h2
   cases h
   obtain ⟨q1,q2⟩:=re h2
   refine ⟨by simp [q1],fun k v hk=> ?_⟩
   cases k with
   |zero=>simp at hk;subst hk;exact ⟨x,rfl,h1⟩
   |succ k=>simp at hk;simpa using q2 k v hk
  ·cases h
theorem zW {n:Nat}:∀ {cs xs:List (List V)},view.viewLL H n cs=some xs→xs.length=cs.length∧∀ (k:Nat) (e:List V),cs[k]? =some e→∃ e0,xs[k]? =some e0∧view.viewL H n e=some e0
 |[],xs,h=>by simp [view.viewLL] at h;subst h;simp
 |c::cs,xs,h=>by
  unfold view.viewLL at h
  split at h
  ·rename_i x xs' h1 h2
   cases h
   obtain ⟨q1,q2⟩:=zW h2
   refine ⟨by simp [q1],fun k v hk=> ?_⟩
   cases k with
   |zero=>simp at hk;subst hk;exact ⟨x,rfl,h1⟩
   |succ k=>simp at hk;simpa using q2 k v hk
  ·cases h
theorem o5 {α:Type} {cs xs:List α} {R:α→α→Prop} (hl:xs.length=cs.length) (h:∀ (k:Nat) (v:α),cs[k]? =some v→∃ v0,xs[k]? =some v0∧R v v0) {k:Nat} {v0:α} (hk:xs[k]? =some v0):∃ v,cs[k]? =some v∧R v v0:=by
 have hlt:k<cs.length:=by rw [←hl];exact (aH.1 hk).1
 obtain ⟨y,hy,hr⟩:=h k _ (af hlt)
 rw [hk] at hy;cases hy
 exact ⟨_,af hlt,hr⟩
theorem O3 {n:Nat} {cs:List V} (h:cs.all (flat n)=true) {k:Nat} {v:V} (hk:cs[k]? =some v):flat n v=true:=List.all_eq_true.1 h v (List.mem_of_getElem? hk)
theorem vP (hIJ:∀ B,I B→J B) (hS:SR φ I H w):∀ (n:Nat) (v v0:V) (x:Value),view H n v=some v0→VR φ I w v x→(flat n v=true∨∀ b L k,φ b=some L→get H b=some k→J L.B)→VR (fun _=>none) J w v0 x:=by
 intro n
 induction n with
 |zero=>intro v v0 x h;simp [view] at h
 |succ n ih=>
  intro v v0 x h hv hf
  have hlist:∀ {cs ds:List V} {xs:Array Value},view.viewL H n cs=some ds→VRs φ I w cs xs→(cs.all (flat n)=true∨∀ b L k,φ b=some L→get H b=some k→J L.B)→VRs (fun _=>none) J w ds xs:=by
   intro cs ds xs h hv hf
   obtain ⟨q1,q2⟩:=re h
   refine ⟨by rw [q1,hv.len],fun k v x h1 h2=> ?_⟩
   obtain ⟨v1,hv1,hvv⟩:=o5 q1 q2 h1
   exact ih v1 v x hvv (hv.at_ k v1 x hv1 h2) (hf.imp (fun hf=>O3 hf hv1) id)
  unfold view at h
  split at h
  ·cases h;have:=hv.prim_inv;rw [this.1];exact .prim this.2
  ·cases h
   cases hv with
   |lst val hI hcap hsz hc hv=>exact .lst val (hIJ _ hI) hcap hsz hc (fun i e k v a b=>(hv i e k v a b).mono (fun _ _ h=>h) hIJ (fun _ _=>rfl) (fun _ _ h=>h))
   |lnil=>exact .lnil
  ·cases h
   cases hv with
   |clo h1 h2 hx hy=>
    exact .clo h1 h2 (fun k v x h _=>by simp at h) (fun k v x h _=>by simp at h)
  ·simp only [Option.map_eq_some_iff] at h
   obtain ⟨ds,hds,rfl⟩:=h
   obtain ⟨xs,rfl,hxs⟩:=hv.agg_inv
   exact VRs.agg (hlist hds hxs (hf.imp (fun h=>by simpa [flat] using h) id))
  ·simp only [Option.map_eq_some_iff] at h
   obtain ⟨ds,hds,rfl⟩:=h
   obtain ⟨xs,rfl,hxs⟩:=hv.tup_inv
   exact VRs.tup (hlist hds hxs (hf.imp (fun h=>by simpa [flat] using h) id))
  ·rename_i b o k c z fx
   have hall:∀ b L k,φ b=some L→get H b=some k→J L.B:=hf.resolve_left (by simp [flat])
   split at h
   ·rename_i sz m es hg
    split at h
    ·rename_i hle
     simp only [Option.map_eq_some_iff] at h
     obtain ⟨ds,hds,rfl⟩:=h
     obtain ⟨L,A,cap,tt,mm,hL,rfl,hLs,g1,g2,g3,g4,g5,g6⟩:=hv.sref_inv
     obtain ⟨q1,q2⟩:=zW hds
     have hlen:((es.drop o).take k).length=k:=by simp;omega
     rw [hlen] at q1
     rcases Nat.eq_zero_or_pos k with rfl|hpos
     ·have:ds=[]:=List.eq_nil_of_length_eq_zero q1
      subst this
      exact .lnil
     ·obtain ⟨r1,⟨cc,tc,r2,r3⟩,r4,r5,r6⟩:=hS.row hL hg
      have hA:A=L.off+o*sz:=by rw [←r1];exact g5.resolve_right (by omega)
      have hgt:∀ (i:Nat) (e:List V),((es.drop o).take k)[i]? =some e→es[o+i]? =some e:=by
       intro i e he
       rw [fE] at he
       split at he
       ·rw [List.getElem?_drop] at he;exact he
       ·cases he
      have hel:∀ (i:Nat) (d:List V),ds[i]? =some d→∃ e,es[o+i]? =some e∧view.viewL H n e=some d:=by
       intro i d hd
       obtain ⟨e,he,hr⟩:=o5 (by rw [q1,hlen]) q2 hd
       exact ⟨e,hgt i e he,hr⟩
      have:=VR.lst (φ:=fun _=>none) (I:=J) (w:=w) (sz:=sz) (es:=ds) (B:=L.B) (o:=A) (cap:=cap) (fun i j=>(w.cell? ⟨L.B,A+i*sz+j,none⟩).getD undef) (hall b L _ hL hg) (by omega)
       (fun i d hd=>by obtain ⟨e,he,hr⟩:=hel i d hd;rw [(re hr).1];exact r4 _ e he)
       (fun i d j v hd hj=>by
        obtain ⟨e,he,hr⟩:=hel i d hd
        obtain ⟨l1,l2⟩:=re hr
        obtain ⟨v1,hv1,_⟩:=o5 l1 l2 hj
        obtain ⟨x,hx,_⟩:=r5 _ e j v1 he hv1
        have e1:A+i*sz+j=L.off+(o+i)*sz+j:=by rw [hA,Nat.add_mul];omega
        rw [e1,hx];rfl)
       (fun i d j v hd hj=>by
        obtain ⟨e,he,hr⟩:=hel i d hd
        obtain ⟨l1,l2⟩:=re hr
        obtain ⟨v1,hv1,hvv⟩:=o5 l1 l2 hj
        obtain ⟨x,hx,hvx⟩:=r5 _ e j v1 he hv1
        have e1:A+i*sz+j=L.off+(o+i)*sz+j:=by rw [hA,Nat.add_mul];omega
        rw [e1,hx]
        exact ih v1 v x hvv hvx (.inr hall))
      rw [q1] at this
      exact this
    ·cases h
   ·cases h
  ·cases h
theorem pE:∀ {cs xs:List V},ii H cs=some xs→xs.length=cs.length∧∀ (k:Nat) (v:V),cs[k]? =some v→∃ v0,xs[k]? =some v0∧view H 9 v=some v0
 |[],xs,h=>by simp [ii] at h;subst h;simp
 |c::cs,xs,h=>by
  unfold ii at h
  split at h
  ·rename_i x xs' h1 h2
   cases h
   obtain ⟨q1,q2⟩:=pE h2
   refine ⟨by simp [q1],fun k v hk=> ?_⟩
   cases k with
   |zero=>simp at hk;subst hk;exact ⟨x,rfl,h1⟩
   |succ k=>simp at hk;simpa using q2 k v hk
  ·cases h
theorem SI:∀ (n:Nat) (v:V) (x:Value) {w w':World} {I I':Nat→Prop} {φ φ':Nat→Option Loc},dry n v=true→VR φ I w v x→VR φ' I' w' v x:=by
 intro n
 induction n with
 |zero=>intro v x w w' I I' φ φ' h;simp [dry] at h
 |succ n ih=>
  intro v x w w' I I' φ φ' h hv
  unfold dry at h
  split at h
  ·have:=hv.prim_inv;rw [this.1];exact .prim this.2
  ·obtain ⟨a,cap,rfl,_,_⟩:=hv.lst_inv;exact .lnil
  ·cases hv with
   |clo h1 h2 hx hy=>exact .clo h1 h2 (fun k v x h _=>by simp at h) (fun k v x h _=>by simp at h)
  ·obtain ⟨xs,rfl,hxs⟩:=hv.agg_inv
   exact VRs.agg ⟨hxs.len,fun k v x h1 h2=>ih v x (List.all_eq_true.1 h v (List.mem_of_getElem? h1)) (hxs.at_ k v x h1 h2)⟩
  ·obtain ⟨xs,rfl,hxs⟩:=hv.tup_inv
   exact VRs.tup ⟨hxs.len,fun k v x h1 h2=>ih v x (List.all_eq_true.1 h v (List.mem_of_getElem? h1)) (hxs.at_ k v x h1 h2)⟩
  ·cases h
theorem Kh:∀ (n:Nat) (v:V) (x:Value) {w:World} {I:Nat→Prop} {φ φ':Nat→Option Loc},flat n v=true→VR φ I w v x→VR φ' I w v x:=by
 intro n
 induction n with
 |zero=>intro v x w I φ φ' h;simp [flat] at h
 |succ n ih=>
  intro v x w I φ φ' h hv
  unfold flat at h
  split at h
  ·have:=hv.prim_inv;rw [this.1];exact .prim this.2
  ·cases hv with
   |lst val hI hcap hsz hc hv=>exact .lst val hI hcap hsz hc hv
   |lnil=>exact .lnil
  ·cases hv with
   |clo h1 h2 hx hy=>exact .clo h1 h2 (fun k v x h _=>by simp at h) (fun k v x h _=>by simp at h)
  ·obtain ⟨xs,rfl,hxs⟩:=hv.agg_inv
   exact VRs.agg ⟨hxs.len,fun k v x h1 h2=>ih v x (List.all_eq_true.1 h v (List.mem_of_getElem? h1)) (hxs.at_ k v x h1 h2)⟩
  ·obtain ⟨xs,rfl,hxs⟩:=hv.tup_inv
   exact VRs.tup ⟨hxs.len,fun k v x h1 h2=>ih v x (List.all_eq_true.1 h v (List.mem_of_getElem? h1)) (hxs.at_ k v x h1 h2)⟩
  ·cases h
theorem VR.dom {v:V} {x:Value} (h:VR φ I w v x) (hφ:∀ b L,φ b=some L→φ' b=some L):∀ {y:Value},VR φ' I' w' v y→VR φ I' w' v y:=by
 induction h with
 |prim h=>intro y hy;have:=hy.prim_inv;rw [this.1];exact .prim this.2
 |ptr h=>intro y hy;cases hy with|ptr h'=>rw [hφ _ _ h] at h';cases h';exact .ptr h
 |ivp val hI hc hv=>intro y hy;cases hy with|ivp val' hI' hc' hv'=>exact .ivp val' hI' hc' hv'
 |lst val hI hcap hsz hc hv=>intro y hy;cases hy with
  |lst val hI hcap hsz hc hv=>exact .lst val hI hcap hsz hc hv
  |lnil=>exact .lnil
 |lnil=>intro y hy;cases hy with
  |lst val hI hcap hsz hc hv=>exact .lst val hI hcap hsz hc hv
  |lnil=>exact .lnil
 |sref h hz hn hc hfx hs hA hm=>intro y hy;cases hy with
  |sref h' hz hn hc hfx hs hA hm=>rw [hφ _ _ h] at h';cases h';exact .sref h hz hn hc hfx hs hA hm
 |clo h1 h2 hx hy ihx ihy=>intro y hy';cases hy' with
  |clo g1 g2 gx gy=>
   refine .clo g1 g2 (fun k v x hk hxk=> ?_) (fun k v x hk hyk=> ?_)
   ·obtain ⟨z,hz⟩:∃ z,_=some z:=⟨_,Array.getElem?_eq_getElem (by rw [←h1];exact (aH.1 hk).1)⟩
    exact ihx k v z hk hz hφ (gx k v x hk hxk)
   ·obtain ⟨z,hz⟩:∃ z,_=some z:=⟨_,Array.getElem?_eq_getElem (by rw [←h2];exact (aH.1 hk).1)⟩
    exact ihy k v z hk hz hφ (gy k v x hk hyk)
 |yld h=>intro y hy;cases hy with|yld h'=>rw [hφ _ _ h] at h';cases h';exact .yld h
 |mpr h=>intro y hy;cases hy with|mpr h'=>rw [hφ _ _ h] at h';cases h';exact .mpr h
 |agg h1 hx ihx=>intro y hy';cases hy' with
  |agg g1 gx=>
   refine .agg g1 (fun k v x hk hxk=> ?_)
   obtain ⟨z,hz⟩:∃ z,_=some z:=⟨_,Array.getElem?_eq_getElem (by rw [←h1];exact (aH.1 hk).1)⟩
   exact ihx k v z hk hz hφ (gx k v x hk hxk)
 |tup h1 hx ihx=>intro y hy';cases hy' with
  |tup g1 gx=>
   refine .tup g1 (fun k v x hk hxk=> ?_)
   obtain ⟨z,hz⟩:∃ z,_=some z:=⟨_,Array.getElem?_eq_getElem (by rw [←h1];exact (aH.1 hk).1)⟩
   exact ihx k v z hk hz hφ (gx k v x hk hxk)
theorem SR.drop (hS:SR φ I H w) {H1:Hp} (hS':SR φ' I' H' w') (hst:iC φ I H w φ' I' H' w') {q:Option (Nat×Option Blk)} (hq:match q with|none=>True|some (_,k)=>R6 k=true) (he:∀ c k,get (BW H q) c=some k→get H' c=some k) (h1:H1=BW H q):
 SR φ I' H1 w'∧iC φ I H w φ I' H1 w':=by
 subst h1
 have hl:(BW H q).length=H.length:=by cases q<;>simp [BW]
 have hbk:∀ b L k,φ b=some L→get (BW H q) b=some k→Mv φ I' w' L k:=by
  intro b L k hb hk
  have hlt:=(hS.dom b L hb).1
  have hk':get H' b=some k:=he b k hk
  have hB:=hS'.blk b L k (hst.phi b L hb) hk'
  have old:get H b=some k→Mv φ I' w' L k:=by
   intro hold
   have hO:=hS.blk b L k hb hold
   cases k with
   |row sz m es=>
    obtain ⟨a1,a2,a3,a4,a5⟩:=hB
    obtain ⟨_,_,_,b4,_⟩:=hO
    refine ⟨a1,a2,a3,fun i e k v hi hk=> ?_,a5⟩
    obtain ⟨x,hx,hv⟩:=a4 i e k v hi hk
    obtain ⟨x0,_,hv0⟩:=b4 i e k v hi hk
    exact ⟨x,hx,hv0.dom hst.phi hv⟩
   |loop l=>
    obtain ⟨a1,r,a2,a3,a4,a5,a6,a7,a8⟩:=hB
    obtain ⟨_,r0,_,_,_,c5,_⟩:=hO
    refine ⟨a1,r,a2,a3,a4,⟨a5.len,fun k v x h1 h2=> ?_⟩,a6,a7,a8⟩
    obtain ⟨z,hz⟩:∃ z,r0.tmps[k]? =some z:=⟨_,Array.getElem?_eq_getElem (by rw [←c5.len];exact (aH.1 h1).1)⟩
    exact (c5.at_ k v z h1 hz).dom hst.phi (a5.at_ k v x h1 h2)
   |mp es=>
    obtain ⟨a1,ents,clock,a2,a3⟩:=hB
    obtain ⟨_,ents0,clock0,_,c3⟩:=hO
    refine ⟨a1,ents,clock,a2,a3.1,fun i p e h1 h2=> ?_⟩
    obtain ⟨z,hz⟩:∃ z,ents0[i]? =some z:=⟨_,Array.getElem?_eq_getElem (by rw [←c3.1];exact (aH.1 h1).1)⟩
    exact ⟨(c3.2 i p z h1 hz).1.dom hst.phi (a3.2 i p e h1 h2).1,(c3.2 i p z h1 hz).2.dom hst.phi (a3.2 i p e h1 h2).2⟩
  cases q with
  |none=>exact old hk
  |some p=>
   obtain ⟨c,kk⟩:=p
   by_cases hc:b=c
   ·subst hc
    have:kk=some k:=by
     have e:get (H.set b kk) b=kk:=by unfold get;rw [List.getElem?_set_self hlt];rfl
     have hk:get (H.set b kk) b=some k:=hk
     rw [e] at hk;exact hk
    subst this
    cases k with
    |row sz m es=>
     obtain ⟨a1,a2,a3,a4,a5⟩:=hB
     refine ⟨a1,a2,a3,fun i e k v hi hk=> ?_,a5⟩
     obtain ⟨x,hx,hv⟩:=a4 i e k v hi hk
     have hq:(es.all fun e=>e.all (flat 9))=true:=hq
     exact ⟨x,hx,Kh 9 v x (List.all_eq_true.1 (List.all_eq_true.1 hq e (List.mem_of_getElem? hi)) v (List.mem_of_getElem? hk)) hv⟩
    |loop l=>cases hq
    |mp l=>cases hq
   ·exact old (by have hk:get (H.set c kk) b=some k:=hk
                  unfold get at hk ⊢
                  rwa [List.getElem?_set_ne (fun e=>hc e.symm)] at hk)
 refine ⟨⟨fun b L h=>⟨by rw [hl];exact (hS.dom b L h).1,Nat.lt_of_lt_of_le (hS.dom b L h).2 hst.size⟩,hS'.imm,hbk,fun b b' L L' k k' h1 h2 h3 h4 h5 h6 h7=> ?_⟩,
  ⟨hst.os,hst.tape,hst.output,hst.size,hst.same,hst.shape,fun _ _ h=>h,fun _ _ h=> .inl h,hst.imm,hst.inew,fun B hB ho=>hst.own B hB ?_⟩⟩
 ·exact hS'.inj b b' L L' k k' (hst.phi _ _ h1) (hst.phi _ _ h2) (he b _ h3) (he b' _ h4) h5 h6 h7
 ·obtain ⟨b,L,k,g1,g2,g3,g4⟩:=ho
  exact ⟨b,L,k,hst.phi _ _ g1,he b _ g2,g3,g4⟩
theorem SR.below (hS:SR φ I H w) (hb:Below w.heap.size w w') (h1:∀ B,I B→I' B) (h2:∀ B,I' B→I B∨(w.heap.size≤B∧B<w'.heap.size)):SR φ I' H w'∧iC φ I H w φ I' H w':=by
 have hIs:∀ B,I B→w'.heap[B]? =w.heap[B]? :=fun B hB=>hb.block B (hS.imm B hB)
 have hsh:∀ B s,w.shape? B=some s→w'.shape? B=some s:=fun B s hs=>by
  have hB:B<w.heap.size:=by
   rcases am B w.heap.size with h|h
   ·exact h
   ·simp [World.shape?,Array.getElem?_eq_none h] at hs
  rw [js (hb.block B hB)];exact hs
 constructor
 ·refine ⟨fun b L hL=>⟨(hS.dom b L hL).1,Nat.lt_of_lt_of_le (hS.dom b L hL).2 hb.size⟩,fun B hB=> ?_,fun b L k hL hk=> ?_,hS.inj⟩
  ·rcases h2 B hB with h|h
   ·exact Nat.lt_of_lt_of_le (hS.imm B h) hb.size
   ·exact h.2
  ·refine (hS.blk b L k hL hk).mono (fun _ _ h=>h) h1 hIs hsh (hb.block _ (hS.dom b L hL).2) (fun h=> ?_)
   rcases h2 _ h with h|h
   ·exact h
   ·have:=(hS.dom b L hL).2;omega
 ·refine ⟨hb.os,hb.tape,hb.output,hb.size,fun B hB _=>hb.block B hB,hsh,fun _ _ h=>h,fun _ _ h=> .inl h,h1,fun B hB hlt=> ?_,fun _ _ h=>h⟩
  rcases h2 B hB with h|h
  ·exact .inl h
  ·omega
def FR (ro:Option Nat):Fence:={ Fence.wide with round:=ro }
theorem BE {ro:Option Nat} {n:Nat} {f:FuncId} {xs:Array Value} {R:Ending→World→Prop} (h:Calls P f xs w R):CallsIn (FR ro) n P f xs w R:=by
 have:=(callsIn_wide (n:=n)).2 h
 cases ro with
 |none=>exact this
 |some l=>exact this.inRound l
theorem uI {o:Oper} {fv:Operand} {args:Array Operand} {argTypes:Array TypeId} (ho:o.op= .call { callee:= .value fv,args,argTypes }) {a:Act} {g:FuncId} {xs ys:Array Value} (hf:a.eval fv= .func (.func g) xs ys)
 (hc:∀ W,(callFunc g (xs++args.map a.eval++ys)).run P W= .ok (.enter g (xs++args.map a.eval++ys)) W) {R:Ending→World→Prop} (h:Calls P g (xs++args.map a.eval++ys) w R) {ro:Option Nat} {n:Nat}
 {next:Act→World→Prop} {Q:Exit→Act→World→Prop} (hR:∀ e w',R e w'→∃ x,e= .returned x∧next (a.put o.dst x) w'):o.wpIn (FR ro) n P a w next Q:=by
 refine ⟨fun _ _=>trivial,?_⟩
 rw [Oper.semAt_eq _ _ _ (by rw [ho];simp)]
 have hrun:(execOp a.eval o).run P w= .ok (.enter g (xs++args.map a.eval++ys)) w:=by
  obtain ⟨dst,op,ty,pos,aft,gd⟩:=o
  simp only at ho;subst ho
  simp only [execOp,resolve,hf,Deferred.ofValue,invoke,Sem.run_bind,Sem.run_pure,aQ]
  exact hc w
 rw [hrun,Oper.uponIn_enter]
 refine ⟨fun h=>by simp [FR,Fence.wide] at h,(BE h).mono ?_⟩
 intro e w' hr
 obtain ⟨x,rfl,hx⟩:=hR e w' hr
 exact hx
theorem zI {g:FuncId} {first cap:List V} {y:Value} (h:VR φ I w (.clo g first cap) y):∃ xs ys:Array Value,y= .func (.func g) xs ys∧VRs φ I w first xs∧VRs φ I w cap ys:=by
 cases h;exact ⟨_,_,rfl,⟨‹_›,‹_›⟩,⟨‹_›,‹_›⟩⟩
theorem nU {o:Oper} {a:Act} {x:Value} {ro:Option Nat} {n:Nat} {next:Act→World→Prop} {Q:Exit→Act→World→Prop} (hok:uS o.op=true)
 (h:(execOp a.eval o).run P w= .ok (.value x) w') (hn:next (a.put o.dst x) w'):o.wpIn (FR ro) n P a w next Q:=by
 refine ⟨fun _ _=>trivial,?_⟩
 rw [Oper.semAt_eq _ _ _ (by intro c hc;rw [hc] at hok;simp [uS] at hok),h]
 exact hn
theorem oz.sound {T:List V} {nid:Nat} {o:Oper} {v:V} {wr:List (Nat×Option Blk)} (h:oz P T H nid o.op v wr) {a:Act} (hok:uS o.op=true) (hT:VRs φ I w T a.tmps) (hS:SR φ I H w)
 (hn:φ nid=none) (hd:get H nid=none) (hnl:nid≤H.length) {ro:Option Nat} {n:Nat} {next:Act→World→Prop} {Q:Exit→Act→World→Prop}
 (hK:∀ x w' φ' I',VR φ' I' w' v x→SR φ' I' (app wr H) w'→iC φ I H w φ' I' (app wr H) w'→(∀ b,b≠nid→φ' b=φ b)→next (a.put o.dst x) w'):o.wpIn (FR ro) n P a w next Q:=by
 have hgood:=kE hok
 generalize hop:o.op=op at h
 cases h with
 |n h hc=>
  subst hop
  obtain ⟨x,hx,hv⟩:=QN h hc hok hT
  exact nU hok hx (hK x w φ I hv hS iC.refl (fun _ _=>rfl))
 |a h hc=>
  subst hop
  obtain ⟨x,w',φ',hx,hv,h1,h2,h3⟩:=QP h hc hok hT hS hn hd hnl
  exact nU hok hx (hK x w' φ' I hv h1 h2 h3)
 |l h=>
  subst hop
  obtain ⟨x,hx,hv⟩:=QO h hok hT hS
  exact nU hok hx (hK x w φ I hv hS iC.refl (fun _ _=>rfl))
 |pc hf hv hp hd'=>
  rename_i fv args argTypes g first cap as
  rw [hop] at hgood
  have hfv:=ia hT fv (hgood fv (by simp [Op.operands,Call.operands]))
  rw [hf] at hfv
  obtain ⟨xs,ys,hy,hx1,hx2⟩:=zI hfv
  have hargs:=VRs.map hT args (fun x hx=>hgood x (by simp [Op.operands,Call.operands,hx]))
  have hall:VRs φ I w (first++args.toList.map (ev T)++cap) (xs++args.map a.eval++ys):=(hx1.append hargs).append hx2
  obtain ⟨q1,q2⟩:=pE hv
  rcases hd' with hfl|hdr
  ·have hvr:VRs (fun _=>none) I w as (xs++args.map a.eval++ys):=⟨by rw [q1,hall.len],fun k v x h1 h2=>by
    obtain ⟨v1,hv1,hvv⟩:=o5 q1 q2 h1
    exact vP (fun _ h=>h) hS 9 v1 v x hvv (hall.at_ k v1 x hv1 h2) (.inl (List.all_eq_true.1 hfl v1 (List.mem_of_getElem? hv1)))⟩
   obtain ⟨hc,hcalls⟩:=hp I w _ hS.imm hvr
   refine uI hop hy hc hcalls ?_
   rintro e w' ⟨x,rfl,hx,hb⟩
   obtain ⟨h1,h2⟩:=hS.below (I':=fun B=>I B∨(w.heap.size≤B∧B<w'.heap.size)) hb (fun _ h=> .inl h) (fun _ h=>h)
   exact ⟨x,rfl,hK x w' φ _ hx.any h1 h2 (fun _ _=>rfl)⟩
  ·have hvr:VRs (fun _=>none) (fun B=>I B∨∃ b L,φ b=some L∧L.B=B) w as (xs++args.map a.eval++ys):=⟨by rw [q1,hall.len],fun k v x h1 h2=>by
    obtain ⟨v1,hv1,hvv⟩:=o5 q1 q2 h1
    exact vP (fun _ h=> .inl h) hS 9 v1 v x hvv (hall.at_ k v1 x hv1 h2) (.inr fun b L k h _=> .inr ⟨b,L,h,rfl⟩)⟩
   obtain ⟨hc,hcalls⟩:=hp _ w _ (by rintro B (h|⟨b,L,h,rfl⟩);· exact hS.imm B h
                                    exact (hS.dom b L h).2) hvr
   refine uI hop hy hc hcalls ?_
   rintro e w' ⟨x,rfl,hx,hb⟩
   obtain ⟨h1,h2⟩:=hS.below (I':=I) hb (fun _ h=>h) (fun _ h=> .inl h)
   exact ⟨x,rfl,hK x w' φ I (SI 9 _ x hdr hx) h1 h2 (fun _ _=>rfl)⟩
 |qc hf hq hp=>
  rename_i fv args argTypes g first cap q
  rw [hop] at hgood
  have hfv:=ia hT fv (hgood fv (by simp [Op.operands,Call.operands]))
  rw [hf] at hfv
  obtain ⟨xs,ys,hy,hx1,hx2⟩:=zI hfv
  have hargs:=VRs.map hT args (fun x hx=>hgood x (by simp [Op.operands,Call.operands,hx]))
  have hall:VRs φ I w (first++args.toList.map (ev T)++cap) (xs++args.map a.eval++ys):=(hx1.append hargs).append hx2
  obtain ⟨hc,hcalls⟩:=hp H (fun _ _=>rfl) φ I w _ hS hall
  refine uI hop hy hc hcalls ?_
  rintro e w' ⟨x,r,H',φ',I',rfl,⟨rfl,hH⟩,hx,hS',hst⟩
  have e1:app q.toList H=BW H q:=by
   cases q with
   |none=>rfl
   |some p=>exact (oy _ _ _).trans (ng _ (mh hq.2.2.1.choose_spec))
  obtain ⟨k1,k2⟩:=hS.drop hS' hst (q:=q) (by cases q with|none=>trivial|some p=>exact hq.2.1) hH e1
  exact ⟨x,rfl,hK x w' φ I' (Kh 9 _ x hq.1 hx) k1 k2 (fun _ _=>rfl)⟩
 |st ht hev hg he h1 h2 h3=>
  obtain ⟨w',hx,g1,g2⟩:=KU hop ht hev hg he h1 h2 h3 hok hT hS
  refine ⟨fun _ _=>trivial,?_⟩
  rw [Oper.semAt_eq _ _ _ (by rw [hop];simp),hx]
  exact hK undef w' φ I nQ g1 g2 (fun _ _=>rfl)
 |mu ho ht hk hm hg hq hf hr=>
  rename_i t m k x i kt et b es r
  rw [hop] at hgood
  have hu:=ia hT k (hgood k (by rcases ho with rfl|rfl<;>simp [Op.operands]))
  have hx:=ia hT x (hgood x (by rcases ho with rfl|rfl<;>simp [Op.operands]))
  have hmv:=ia hT m (hgood m (by rcases ho with rfl|rfl<;>simp [Op.operands]))
  rw [hm] at hmv
  obtain ⟨L,hL,hy⟩:=J6 hmv
  obtain ⟨w',hrun,g1,g2⟩:=B3 ht hk hq hf hr hu hx hS hL hg
  have hx:(execOp a.eval o).run P w= .ok .skip w':=by
   obtain ⟨dst,op',ty,pos,aft,gd⟩:=o
   simp only at hop;subst hop
   rcases ho with rfl|rfl
   ·simp only [execOp,hy,Sem.run_bind,hrun,aQ,Sem.run_pure]
   ·simp only [execOp,hy,Sem.run_bind,hrun,aQ,Sem.run_pure]
  refine ⟨fun _ _=>trivial,?_⟩
  rw [Oper.semAt_eq _ _ _ (by rw [hop];rcases ho with rfl|rfl<;>simp),hx]
  exact hK undef w' φ I nQ (by rw [oy];exact g1) (by rw [oy];exact g2) (fun _ _=>rfl)
 |ap a0 a1 t0 ht hk he had hc hcl ha=>
  rename_i args argTypes s x t e i ei c ys
  rw [hop] at hgood
  have hs:=ia hT s (hgood s (by simp [Op.operands,Call.operands,Array.mem_of_getElem? a0]))
  have hx:=ia hT x (hgood x (by simp [Op.operands,Call.operands,Array.mem_of_getElem? a1]))
  obtain ⟨t2,zeros,xs,ht2,hA⟩:=Mt had hc he hx hS
  obtain ⟨dst,op,ty,pos,aft,gd⟩:=o
  simp only at hop;subst hop
  obtain ⟨r,w',φ',hrun,hv,g1,g2,g3⟩:=FB (vals:=args.map a.eval) (ty:=ty) ha hA hcl (gD ht hk) he t0 ht2 hs (by rw [Array.getElem?_map,a0];rfl) (by rw [Array.getElem?_map,a1];rfl) hS hn hd hnl
  obtain ⟨cs,hcs⟩:=kV (P:=P) (w:=w) (ρ:=a.eval) (dst:=dst) (b:= .append) (args:=args) (argTypes:=argTypes) (ty:=ty) (pos:=pos) (aft:=aft) (gd:=gd)
  refine nU hok (x:=r) (w':=w') ?_ (hK r w' φ' I hv g1 g2 g3)
  rw [hcs];simp [builtin,hrun]
 |cp a0 a1 t0 ht hk he hel hcl hd' hg hle=>
  rename_i args argTypes d x t e i ei ys b o' n' c z fx es
  rw [hop] at hgood
  have hs:=ia hT d (hgood d (by simp [Op.operands,Call.operands,Array.mem_of_getElem? a0]))
  have hx:=ia hT x (hgood x (by simp [Op.operands,Call.operands,Array.mem_of_getElem? a1]))
  obtain ⟨dst,op,ty,pos,aft,gd⟩:=o
  simp only at hop;subst hop
  obtain ⟨w',hrun,g1,g2⟩:=IW (vals:=args.map a.eval) (ty:=ty) hd' hel hcl (gD ht hk) he t0 hs hx (by rw [Array.getElem?_map,a0];rfl) (by rw [Array.getElem?_map,a1];rfl) hS hg hle
  obtain ⟨cs,hcs⟩:=kV (P:=P) (w:=w) (ρ:=a.eval) (dst:=dst) (b:= .copy) (args:=args) (argTypes:=argTypes) (ty:=ty) (pos:=pos) (aft:=aft) (gd:=gd)
  refine nU hok (x:=_) (w':=w') ?_ (hK _ w' φ I (.prim rfl) g1 g2 (fun _ _=>rfl))
  rw [hcs];simp only [builtin,Sem.run_bind,hrun,aQ,Sem.run_pure]
 |cl a0 t0 ht hk he hd' hg hle=>
  rename_i args argTypes d t e i ei b o' n' c z fx es
  rw [hop] at hgood
  have hs:=ia hT d (hgood d (by simp [Op.operands,Call.operands,Array.mem_of_getElem? a0]))
  rw [hd'] at hs
  obtain ⟨dst,op,ty,pos,aft,gd⟩:=o
  simp only at hop;subst hop
  obtain ⟨w',hrun,g1,g2⟩:=Hl (vals:=args.map a.eval) (ty:=ty) (argTypes:=argTypes) (gD ht hk) he t0 hs (by rw [Array.getElem?_map,a0];rfl) hS hg hle
  obtain ⟨cs,hcs⟩:=kV (P:=P) (w:=w) (ρ:=a.eval) (dst:=dst) (b:= .clear) (args:=args) (argTypes:=argTypes) (ty:=ty) (pos:=pos) (aft:=aft) (gd:=gd)
  refine nU hok (x:=undef) (w':=w') ?_ (hK _ w' φ I nQ g1 g2 (fun _ _=>rfl))
  rw [hcs];simp only [builtin,Sem.run_bind,hrun,aQ,Sem.run_pure]
end Go.Av
namespace Go.Av
open Go.RowKit
variable {P:Program} {φ φ' φ'':Nat→Option Loc} {I I' I'' J:Nat→Prop} {H H' H'':Hp} {w w' w'':World}
theorem Ia {ro:Option Nat} {n l:Nat} {f:FuncId} {tmps:Array Value} {as body:Code} {R:Ending→World→Prop} (h:RoundIn Fw 0 P l f tmps as body w R):RoundIn (FR ro) n P l f tmps as body w R:=
 ⟨trivial,fun c cs _=>h.2 c cs (room_wide _)⟩
theorem VRs.putT {T:List V} {a:Act} {d:Option Tmp} {v:V} {x:Value} (h:VRs φ I w T a.tmps) (hv:VR φ I w v x):VRs φ I w (putT T d v) (a.put d x).tmps:=by
 cases d with
 |none=>exact h
 |some d=>
  refine ⟨by simp [Av.putT,Act.put,h.len],fun k u y hu hy=> ?_⟩
  simp only [Av.putT,Act.put,fS,Array.getElem?_setIfInBounds] at hu hy
  by_cases e:d=k
  ·subst e
   have:=h.len
   by_cases hl:d<T.length
   ·have hl2:d<a.tmps.size:=by rw [←this];exact hl
    simp [hl,hl2] at hu hy;subst hu;subst hy;exact hv
   ·simp [hl] at hu
  ·simp [e] at hu hy
   exact h.at_ k u y hu hy
theorem SR.fresh (hS:SR φ I H w):φ H.length=none:=by
 cases h:φ H.length with
 |none=>rfl
 |some L=>exact absurd (hS.dom _ _ h).1 (Nat.lt_irrefl _)
theorem E6 {b:Nat} {k:Blk} (h:get H b=some k):get (H.set b none) b=none:=by
 rw [←ng _ (mh h),eT]
theorem nj {a:Act} {d:Option Tmp} {x:Value}:(a.put d x).defers=a.defers:=by cases d<;>rfl
theorem SR.freeze (hS:SR φ I H w) {b:Nat} {L:Loc} {es:List (List V)} {sz:Nat} (hL:φ b=some L) (hg:get H b=some (.row sz true es)):
 SR φ (fun B=>I B∨B=L.B) (H.set b none) w∧iC φ I H w φ (fun B=>I B∨B=L.B) (H.set b none) w:=by
 have hown:Own φ H L.B:=⟨b,L,_,hL,hg,rfl,rfl⟩
 have hlt:=mh hg
 have hse:H.set b none=j4 H b none:=(ng _ hlt).symm
 obtain ⟨k1,k2⟩:=hS.kill hlt
 rw [←hse] at k1 k2
 constructor
 ·refine ⟨k1.dom,?_,?_,k1.inj⟩
  ·rintro B (hB|rfl)
   ·exact hS.imm B hB
   ·exact hS.own_lt hown
  ·intro c M k hc hk
   have hbk:=k1.blk c M k hc hk
   have hcb:c≠b:=by rintro rfl;rw [E6 hg] at hk;cases hk
   have hk0:get H c=some k:=by rw [hse,ct _ _ hcb] at hk;exact hk
   have hnB:k.own=true→M.B≠L.B:=fun ho e=>hcb (hS.inj c b M L k _ hc hL hk0 hg ho rfl e)
   cases k with
   |row sz' m es'=>
    obtain ⟨q1,q2,q3,q4,q5⟩:=hbk
    refine ⟨q1,q2,q3,?_,?_⟩
    ·intro i e k v hi hk
     obtain ⟨x,hx,hv⟩:=q4 i e k v hi hk
     exact ⟨x,hx,hv.mono (fun _ _ h=>h) (fun _ h=> .inl h) (fun _ _=>rfl) (fun _ _ h=>h)⟩
    ·constructor
     ·rintro hm (h|h)
      ·exact q5.1 hm h
      ·exact hnB (by rw [hm];rfl) h
     ·intro h;exact q5.2 fun h1=>h (.inl h1)
   |loop l=>
    obtain ⟨q1,r,q2,q3,q4,q5,q6,q7,q8⟩:=hbk
    refine ⟨?_,r,q2,q3,q4,?_,q6,q7,q8⟩
    ·rintro (h|h)
     ·exact q1 h
     ·exact hnB rfl h
    ·exact q5.mono (fun _ _ h=>h) (fun _ h=> .inl h) (fun _ _=>rfl) (fun _ _ h=>h)
   |mp es=>
    obtain ⟨q1,ents,clock,q2,q3⟩:=hbk
    refine ⟨?_,ents,clock,q2,q3.mono (fun _ _ h=>h) (fun _ h=> .inl h) (fun _ _=>rfl) (fun _ _ h=>h)⟩
    rintro (h|h)
    ·exact q1 h
    ·exact hnB rfl h
 ·refine ⟨rfl,rfl,rfl,ax _,fun _ _ _=>rfl,fun _ _ h=>h,fun _ _ h=>h,fun _ _ h=> .inl h,fun _ h=> .inl h,?_,k2.own⟩
  rintro B (h|rfl) _
  ·exact .inl h
  ·exact .inr hown
theorem FO {T:List V} {o:Oper} {t:TypeId} {x:Operand} {lo hi mx:Option Operand} {K:V→Hp→Prop} (ho:o.op= .slice t x lo hi mx) (h:vN P T H t x lo hi mx K) {a:Act} (hok:uS o.op=true) (hT:VRs φ I w T a.tmps) (hS:SR φ I H w)
 {ro:Option Nat} {n:Nat} {next:Act→World→Prop} {Q:Exit→Act→World→Prop}
 (hK:∀ v H' x w' φ' I',K v H'→VR φ' I' w' v x→SR φ' I' H' w'→iC φ I H w φ' I' H' w'→next (a.put o.dst x) w'):o.wpIn (FR ro) n P a w next Q:=by
 have hgood:=kE hok
 rw [ho] at hgood
 have hv:=ia hT x (hgood x (by simp [Op.operands]))
 have hlo:=Gv (φ:=φ) (I:=I) (w:=w) hT lo (fun y hy=>hgood y (by simp [Op.operands,hy]))
 have hhi:=Gv (φ:=φ) (I:=I) (w:=w) hT hi (fun y hy=>hgood y (by simp [Op.operands,hy]))
 unfold vN at h
 split at h
 ·rename_i nn e _ _ _ _ _ hti
  ·split at h
   ·rename_i ei b hei hx
    split at h
    ·rename_i sz cs p l hh c1 f1 hg hsl
     obtain ⟨hp,hsz,hcl,hall,hk⟩:=h
     rw [hx] at hv
     obtain ⟨L,hL,hy⟩:=hv.ptr_inv
     obtain ⟨m,hm,g1,g2,g3,g4,g5,g6,g7,g8⟩:=qd (P:=P) hsl hp (ax _) (ax _) (fun _=>rfl) hlo hhi .none false w
     obtain ⟨s1,s2⟩:=hS.freeze hL hg
     have key:(execOp a.eval o).run P w= .ok (.value (.slice (some (if m=l then ⟨L.B,L.off,none⟩ else ⟨L.B,L.off+l,none⟩)) (hh-l) (m-l))) w:=by
      obtain ⟨dst,op,ty,pos,aft,gd⟩:=o
      simp only at ho;subst ho
      simp only [execOp,Instr.sliceAt,Instr.slice,run_underlying (rf hti rfl),hy,hm,Sem.run_bind,Sem.run_pure,aQ,gV hei,hsz,Instr.sureAddr]
      by_cases e1:m=l<;>simp [hm,e1,mQ]
     obtain ⟨r1,⟨cc,tc,r2,r3⟩,r4,r5,r6⟩:=hS.row hL hg
     refine nU hok key (hK _ _ _ _ _ _ hk ?_ s1 s2)
     have hlen:(((cs.map ([·])).drop l).take (hh-l)).length=hh-l:=by simp;omega
     by_cases e1:hh=l
     ·subst e1
      simp only [Nat.sub_self,List.take_zero]
      exact .lnil
     ·have e2:m≠l:=by omega
      rw [if_neg e2]
      have hget:∀ (i:Nat) (e:List V),(((cs.map ([·])).drop l).take (hh-l))[i]? =some e→∃ v,cs[l+i]? =some v∧e=[v]:=by
       intro i e he
       rw [fE] at he
       split at he
       ·rw [List.getElem?_drop,aW] at he
        cases hq:cs[l+i]? with
        |none=>rw [hq] at he;cases he
        |some v=>rw [hq] at he;cases he;exact ⟨v,rfl,rfl⟩
       ·cases he
      have hprim:∀ (j:Nat) (v:V),cs[j]? =some v→∃ x,v= .prim x∧uQ x=true∧w.cell? ⟨L.B,L.off+j,none⟩=some x:=by
       intro j v hj
       obtain ⟨x,hx1,hx2⟩:=r5 0 cs j v rfl hj
       have hq:=List.all_eq_true.1 hall v (List.mem_of_getElem? hj)
       cases v with
       |prim y=>
        simp only at hq
        obtain ⟨rfl,_⟩:=hx2.prim_inv
        exact ⟨x,rfl,hq,by simpa using hx1⟩
       |_=>simp at hq
      have:=VR.lst (φ:=φ) (I:=fun B=>I B∨B=L.B) (w:=w) (sz:=1) (es:=((cs.map ([·])).drop l).take (hh-l)) (B:=L.B) (o:=L.off+l) (cap:=m-l)
       (fun i k=>match cs[l+i]? with|some (.prim x)=>x|_=> .bool true) (.inr rfl) (by omega)
       (fun i e he=>by obtain ⟨v,_,rfl⟩:=hget i e he;rfl)
       (fun i e k v he hk=>by
        obtain ⟨v',h1,rfl⟩:=hget i e he
        have hk0:k=0:=by
         rcases k with _|k
         ·rfl
         ·simp at hk
        subst hk0;simp at hk;subst hk
        obtain ⟨x,rfl,_,hc⟩:=hprim _ _ h1
        simp only [h1]
        rw [←hc];congr 2;omega)
       (fun i e k v he hk=>by
        obtain ⟨v',h1,rfl⟩:=hget i e he
        have hk0:k=0:=by
         rcases k with _|k
         ·rfl
         ·simp at hk
        subst hk0;simp at hk;subst hk
        obtain ⟨x,rfl,hs,hc⟩:=hprim _ _ h1
        simp only [h1]
        exact .prim hs)
      rw [hlen] at this
      exact this
    ·exact h.elim
   ·exact h.elim
 ·exact h.elim
theorem OD {sz:Nat} {x:Value} (h:VR φ I w (.lst sz []) x):∃ a k,x= .slice a 0 k:=by
 cases h with
 |lst val hI hcap hsz hc hv=>exact ⟨_,_,rfl⟩
 |lnil=>exact ⟨_,_,rfl⟩
theorem Qs {t:TypeId} {i:TyI} {e:TypeId} (ht:aD P t=some i) (hk:i.k= .slice e) {s:Option Addr} {k:Nat} (W:World) (x y:Operand):
 (do eqGuard .eql t x y (.slice s 0 k) (.slice none 0 0);binOp .eql t (.slice s 0 k) (.slice none 0 0):Sem Value).run P W= .ok (.bool s.isNone) W:=by
 have hrun:∀ d,(Op.equalIn (d+1) t (.slice s 0 k) (.slice none 0 0)).run P W= .ok s.isNone W:=by
  intro d
  cases s<;>simp [Op.equalIn,run_underlying (gD ht hk)]
 have hg:(eqGuard .eql t x y (.slice s 0 k) (.slice none 0 0)).run P W= .ok () W:=by simp [eqGuard]
 have hr:=hrun 9999
 rw [Sem.run_bind,hg]
 simp [binOp,Op.equal,Op.maxDepth,hr]
theorem FJ {T:List V} {o:Oper} {t t':TypeId} {x:Operand} {K:V→Hp→Prop} (ho:o.op= .binOp .eql t x (.const (.slice none 0 0)) t') (h:FK P T H t x K) {a:Act} (hok:uS o.op=true) (hT:VRs φ I w T a.tmps) (hS:SR φ I H w)
 {ro:Option Nat} {n:Nat} {next:Act→World→Prop} {Q:Exit→Act→World→Prop}
 (hK:∀ v H' x w' φ' I',K v H'→VR φ' I' w' v x→SR φ' I' H' w'→iC φ I H w φ' I' H' w'→next (a.put o.dst x) w'):o.wpIn (FR ro) n P a w next Q:=by
 have hgood:=kE hok
 rw [ho] at hgood
 have hv:=ia hT x (hgood x (by simp [Op.operands]))
 unfold FK at h
 split at h
 ·rename_i i ht
  split at h
  ·rename_i e sz hk hx
   rw [hx] at hv
   obtain ⟨s,k,hy⟩:=OD hv
   have key:(execOp a.eval o).run P w= .ok (.value (.bool (s.isNone))) w:=by
    have h1:(do eqGuard .eql t x (.const (.slice none 0 0)) (a.eval x) (a.eval (.const (.slice none 0 0)));binOp .eql t (a.eval x) (a.eval (.const (.slice none 0 0))):Sem Value).run P w= .ok (.bool s.isNone) w:=by
     rw [hy];exact Qs ht hk w _ _
    obtain ⟨dst,op,ty,pos,aft,gd⟩:=o
    simp only at ho;subst ho
    simp only [execOp];simp only [Sem.run_bind] at h1 ⊢;rw [h1];rfl
   cases s with
   |none=>exact nU hok key (hK _ _ _ w φ I h.1 (.prim rfl) hS iC.refl)
   |some s=>exact nU hok key (hK _ _ _ w φ I h.2 (.prim rfl) hS iC.refl)
  ·exact h.elim
 ·exact h.elim
theorem zP {T:List V} {o:Oper} {K:V→Hp→Prop} (h:eV P T H o.op K) {a:Act} (hok:uS o.op=true) (hT:VRs φ I w T a.tmps) (hS:SR φ I H w)
 {ro:Option Nat} {n:Nat} {next:Act→World→Prop} {Q:Exit→Act→World→Prop}
 (hK:∀ v H' x w' φ' I',K v H'→VR φ' I' w' v x→SR φ' I' H' w'→iC φ I H w φ' I' H' w'→next (a.put o.dst x) w'):o.wpIn (FR ro) n P a w next Q:=by
 have viaD:iE P T H o.op K→o.wpIn (FR ro) n P a w next Q:=by
  intro h
  obtain ⟨v,wr,hev,hk⟩:=CG h
  exact hev.sound hok hT hS hS.fresh (oh (ax _)) (ax _) fun x w' φ' I' h1 h2 h3 _=>hK v _ x w' φ' I' hk h1 h2 h3
 have hgood:=kE hok
 cases hop:o.op with
 |call c=>
  obtain ⟨cal,args,argTypes⟩:=c
  cases cal with
  |value fv=>
   rw [hop] at h
   have hwv:mn P T H (.call { callee:= .value fv,args,argTypes }) K=none:=by
    simp [mn,evN,evA,evL]
   unfold eV at h
   rw [hwv] at h
   simp only [nD] at h
   rw [hop] at hgood
   have hfv:=ia hT fv (hgood fv (by simp [Op.operands,Call.operands]))
   have hargs:=VRs.map hT args (fun x hx=>hgood x (by simp [Op.operands,Call.operands,hx]))
   split at h
   ·rename_i g first cap hf
    rcases h with h|h
    ·exact viaD (by rw [hop];exact .inl h)
    ·rw [hf] at hfv
     obtain ⟨xs,ys,hy,hx1,hx2⟩:=zI hfv
     obtain ⟨hc,hcalls⟩:=h φ I w _ hS ((hx1.append hargs).append hx2)
     refine uI hop hy hc hcalls ?_
     rintro e w' ⟨x,r,H',φ',I',rfl,hq,hv,h1,h2⟩
     exact ⟨x,rfl,hK r H' x w' φ' I' hq hv h1 h2⟩
   ·rename_i b hf
    rw [hf] at hfv
    obtain ⟨L,hL,hy⟩:∃ L,φ b=some L∧a.eval fv= .func (.yield L.B) #[] #[]:=by
     generalize a.eval fv=y at hfv
     cases hfv with
     |yld hL=>exact ⟨_,hL,rfl⟩
    obtain ⟨fn,tmps,as,body,hrun,hround⟩:=h φ I w _ L hL hS hargs
    refine ⟨fun _ _=>trivial,?_⟩
    rw [Oper.semAt_eq _ _ _ (by rw [hop];simp)]
    have hrun2:(execOp a.eval o).run P w= .ok (.round L.B fn tmps as body) w:=by
     obtain ⟨dst,op,ty,pos,aft,gd⟩:=o
     simp only at hop;subst hop
     simp only [execOp,resolve,hy,Deferred.ofValue,invoke,Sem.run_bind,Sem.run_pure,aQ]
     simpa using hrun
    rw [hrun2,Oper.uponIn_round]
    refine ⟨fun h=>by simp [FR,Fence.wide] at h,(Ia hround).mono ?_⟩
    rintro e w' ⟨x,r,H',φ',I',rfl,hq,hv,h1,h2⟩
    exact hK r H' x w' φ' I' hq hv h1 h2
   ·exact h.elim
  |_=>exact viaD (by rw [hop] at h ⊢;exact h)
 |slice t x lo hi mx=>
  rw [hop] at h
  unfold eV mn at h
  have ha:evA (aD P) T (.slice t x lo hi mx)=none:=rfl
  have hl:evL (aD P) T H (.slice t x lo hi mx)=none:=rfl
  rw [ha,hl] at h
  cases hn:evN (aD P) T (.slice t x lo hi mx) with
  |some r=>
   obtain ⟨c,v⟩:=r
   rw [hn] at h
   exact viaD (by rw [hop];unfold iE;simp only [hn];exact h)
  |none=>
   rw [hn] at h
   exact FO hop h hok hT hS hK
 |binOp bop t x y t'=>
  rw [hop] at h
  unfold eV mn at h
  have ha:evA (aD P) T (.binOp bop t x y t')=none:=rfl
  have hl:evL (aD P) T H (.binOp bop t x y t')=none:=rfl
  rw [ha,hl] at h
  cases hn:evN (aD P) T (.binOp bop t x y t') with
  |some r=>
   obtain ⟨c,v⟩:=r
   rw [hn] at h
   exact viaD (by rw [hop];unfold iE;simp only [hn];exact h)
  |none=>
   rw [hn] at h
   simp only [nD] at h
   split at h
   ·rename_i h0;cases h0
   ·rename_i h0;cases h0
   ·rename_i h0;cases h0
   ·rename_i h0;cases h0
   ·rename_i h0
    simp only [Op.binOp.injEq] at h0
    obtain ⟨rfl,rfl,rfl,rfl,rfl⟩:=h0
    exact FJ hop h hok hT hS hK
   all_goals first|exact h.elim|(rename_i h0;cases h0)
 |_=>exact viaD (by rw [hop] at h ⊢;exact h)
def gAt (tmps:Array Value):Option (Tmp×Bool)→Bool
 |none=>true
 |some (d,want)=>match tmps[d]? with
  |some (.bool b)=>b==want
  |_=>false
theorem CK {ops:Array Oper} {o:Oper} {g:Option (Tmp×Bool)} (hg:oe ops o=some g) (a:Act):
 Region.wanted o (yielded ops a.tmps)=gAt a.tmps g:=by
 unfold oe at hg
 unfold Region.wanted yielded
 split at hg
 ·rename_i h0;cases hg;rw [h0];rfl
 ·rename_i j want h0
  rw [h0]
  try simp only
  split at hg
  ·rename_i d hd;cases hg;rw [hd]
   simp only [Option.bind_some,gAt]
   split<;>simp_all
  ·cases hg
theorem yK {W:List V→Hp→Op→(V→Hp→Prop)→Prop} {ops:Array Oper} {T:List V} {o:Oper} {lo:LOp} {K:V→Hp→Prop} (hg:oe ops o=some lo.guard) (hlo:lo.op=o.op) {a:Act} (hT:VRs φ I w T a.tmps) (h:wpG W T H lo K):
 (Region.wanted o (yielded ops a.tmps)=true∧W T H o.op K)∨(Region.wanted o (yielded ops a.tmps)=false∧K cW H):=by
 rw [CK hg a]
 unfold wpG at h
 rw [←hlo]
 cases hgd:lo.guard with
 |none=>rw [hgd] at h;exact .inl ⟨rfl,h⟩
 |some p=>
  obtain ⟨d,want⟩:=p
  rw [hgd] at h
  simp only [gAt] at h ⊢
  cases hd:T[d]? with
  |none=>
   have hd2:a.tmps[d]? =none:=by
    rw [List.getElem?_eq_none_iff] at hd
    rw [Array.getElem?_eq_none_iff,←hT.len];exact hd
   simp [List.getD,hd,cW] at h
   rw [hd2]
   exact .inr ⟨rfl,h⟩
  |some v=>
   obtain ⟨x,hx,hv⟩:=hT.get hd
   rw [hx]
   simp only [List.getD,hd,bG] at h
   split at h
   ·rename_i t
    cases hv
    by_cases e:t=want
    ·subst e;exact .inl ⟨by simp,h.1 rfl⟩
    ·refine .inr ⟨by simp [e],h.2 (by cases t<;>cases want<;>simp_all)⟩
   ·cases hv with
    |tup h1 _=>exact .inr ⟨rfl,h⟩
   ·exact h.elim
theorem n8 {ops:Array Oper} {b:Array Nat} {i:Nat} {o:Oper} {os:List Oper} {l:List LOp} (h:kg ops b i (o::os)=some l):
 ∃ g l',oe ops o=some g∧kg ops b (i+1) os=some l'∧uS o.op=true∧l=⟨o.dst,o.op,g,i,b.getD i 0⟩::l':=by
 unfold kg at h
 split at h
 ·rename_i g l' h1 h2
  split at h
  ·cases h;exact ⟨g,l',h1,h2,‹_›,rfl⟩
  ·cases h
 ·cases h
theorem FI {ops:Array Oper} {bs:Array Nat} {Q:List V→Hp→Prop} {Qc:Exit→Act→World→Prop} {ro:Option Nat} {n:Nat}:
 ∀ (os:List Oper) (i:Nat) (l:List LOp),ops.toList.drop i=os→kg ops bs i os=some l→
 ∀ {T:List V} {H:Hp} {φ:Nat→Option Loc} {I:Nat→Prop} {w:World} {a:Act},oA P l T H Q→VRs φ I w T a.tmps→SR φ I H w→
 (∀ T' H' φ' I' w' a',Q T' H'→VRs φ' I' w' T' a'.tmps→SR φ' I' H' w'→iC φ I H w φ' I' H' w'→a'.defers=a.defers→Qc .normal a' w')→
 wpOpsIn (FR ro) n P ops Qc (List.range' i os.length) a w:=by
 intro os
 induction os with
 |nil=>
  intro i l hd hl T H φ I w a h hT hS hK
  simp only [kg] at hl
  cases hl
  exact hK T H φ I w a h hT hS iC.refl rfl
 |cons o os ih=>
  intro i l hd hl T H φ I w a h hT hS hK
  obtain ⟨g,l',hg,hl',hok,rfl⟩:=n8 hl
  have hi:ops[i]? =some o:=by
   have:(ops.toList.drop i)[0]? =some o:=by rw [hd];rfl
   simpa using this
  have hd':ops.toList.drop (i+1)=os:=by rw [←List.drop_drop,hd];rfl
  simp only [aC,List.range'_succ,wpOpsIn,hi]
  have h:wpG (eV P) T H ⟨o.dst,o.op,g,i,bs.getD i 0⟩ (fun v H'=>oA P l' (putT T o.dst v) H' Q):=h
  rcases yK (lo:=⟨o.dst,o.op,g,i,bs.getD i 0⟩) hg rfl hT h with ⟨hw,hh⟩|⟨hw,hh⟩
  ·rw [if_pos hw]
   refine zP hh hok hT hS ?_
   intro v H' x w' φ' I' hk hv hS' hst
   refine ih (i+1) l' hd' hl' hk ((hT.step hS hst).putT hv) hS' ?_
   intro T' H'' φ'' I'' w'' a' hq hT' hS'' hst' hdf
   exact hK T' H'' φ'' I'' w'' a' hq hT' hS'' (hst.trans hst') (by rw [hdf,nj])
  ·rw [if_neg (by rw [hw];simp)]
   refine ⟨fun _ _=>trivial,?_⟩
   refine ih (i+1) l' hd' hl' hh (hT.putT nQ) hS ?_
   intro T' H'' φ'' I'' w'' a' hq hT' hS'' hst' hdf
   exact hK T' H'' φ'' I'' w'' a' hq hT' hS'' hst' (by rw [hdf,nj])
theorem EG {ops:Array Oper} {bs:Array Nat} {l:List LOp} {id:Nat} {Q:List V→Hp→Prop} {Qc:Exit→Act→World→Prop} {ro:Option Nat} {n:Nat} (hl:kg ops bs 0 ops.toList=some l)
 {T:List V} {a:Act} (h:oA P l T H Q) (hT:VRs φ I w T a.tmps) (hS:SR φ I H w)
 (hK:∀ T' H' φ' I' w' a',Q T' H'→VRs φ' I' w' T' a'.tmps→SR φ' I' H' w'→iC φ I H w φ' I' H' w'→a'.defers=a.defers→Qc .normal a' w'):
 (Code.region id ops false).wpIn (FR ro) n P Qc a w:=by
 refine wpIn_region ?_
 have:=FI (ro:=ro) (n:=n) (Qc:=Qc) ops.toList 0 l (by simp) hl h hT hS hK
 rw [List.range_eq_range']
 simpa using this
end Go.Av
