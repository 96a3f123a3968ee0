/- Helping texts: As14, As15, As16, As17. -/
import Derived.Test.YtkmlhdfpcjkekaaGreatKAs11
import Derived.RangeFuncRecord
set_option linter.unusedSimpArgs false
set_option linter.unusedVariables false
set_option maxRecDepth 100000
set_option maxHeartbeats 16000000
namespace Go.Av
open Go.RowKit
variable {P:Program} {φ φ' φ'':Nat→Option Loc} {I I' I'' J:Nat→Prop} {H H' H'':Hp} {w w' w'':World}
theorem LpR.mono {l:Lp} {r:Loop} (h:LpR φ I w l r) (hf:∀ b L,φ b=some L→φ' b=some L) (hI:∀ B,I B→I' B) (hh:∀ B,I B→w'.heap[B]? =w.heap[B]?) (hs:∀ B s,w.shape? B=some s→w'.shape? B=some s):LpR φ' I' w' l r:=
 ⟨h.1,h.2.1,h.2.2.1.mono hf hI hh hs,h.2.2.2⟩
theorem SR.allocLoop (hS:SR φ I H w) {r:Loop} {l:Lp} (hl:LpR φ I w l r):
 SR (nk φ H.length ⟨w.heap.size,0,0⟩) I (j4 H H.length (some (.loop l))) (w.alloc (.loop r))∧iC φ I H w (nk φ H.length ⟨w.heap.size,0,0⟩) I (j4 H H.length (some (.loop l))) (w.alloc (.loop r)):=by
 have hn:φ H.length=none:=hS.fresh
 generalize hnid:H.length=nid at hn ⊢
 have hsz':(w.alloc (.loop r)).heap.size=w.heap.size+1:=by rw [World.size_alloc]
 have hold:∀ B,B<w.heap.size→(w.alloc (.loop r)).heap[B]? =w.heap[B]? :=fun B hB=>Below.heap_alloc w _ B hB
 have hnew:(w.alloc (.loop r)).heap[w.heap.size]? =some (.loop r):=World.alloc_heap_new w (.loop r)
 have hIs:∀ B,I B→(w.alloc (.loop r)).heap[B]? =w.heap[B]? :=fun B hB=>hold B (hS.imm B hB)
 have hsh:∀ B s,w.shape? B=some s→(w.alloc (.loop r)).shape? B=some s:=fun B s hs=>by
  have hB:B<w.heap.size:=by
   rcases am B w.heap.size with h|h
   ·exact h
   ·simp [World.shape?,Array.getElem?_eq_none h] at hs
  rw [js (hold B hB)];exact hs
 have hm:=qw (L:=⟨w.heap.size,0,0⟩) hn
 refine ⟨⟨?_,?_,?_,?_⟩,?_⟩
 ·intro b L hb
  rw [jG,hsz']
  by_cases e:b=nid
  ·subst e;rw [cd] at hb;cases hb;exact ⟨by omega,by simp⟩
  ·rw [cz _ _ e] at hb;have:=hS.dom b L hb;exact ⟨by omega,by omega⟩
 ·intro B hB;have:=hS.imm B hB;omega
 ·intro b L k hb hk
  by_cases e:b=nid
  ·subst e
   rw [cd] at hb;cases hb
   rw [eT] at hk;cases hk
   exact ⟨fun h=>absurd (hS.imm _ h) (Nat.lt_irrefl _),r,hnew,hl.mono hm (fun _ h=>h) hIs hsh⟩
  ·rw [cz _ _ e] at hb
   rw [ct _ _ e] at hk
   exact (hS.blk b L k hb hk).mono hm (fun _ h=>h) hIs hsh (hold _ (hS.dom b L hb).2) (fun h=>h)
 ·intro b b' L L' k k' h1 h2 h3 h4 h5 h6 h7
  by_cases e:b=nid<;>by_cases e':b'=nid
  ·rw [e,e']
  ·exfalso
   subst e;rw [cd] at h1;cases h1;rw [cz _ _ e'] at h2
   have:=(hS.dom b' L' h2).2;simp at h7;omega
  ·exfalso
   subst e';rw [cd] at h2;cases h2;rw [cz _ _ e] at h1
   have:=(hS.dom b L h1).2;simp at h7;omega
  ·rw [cz _ _ e] at h1;rw [cz _ _ e'] at h2;rw [ct _ _ e] at h3;rw [ct _ _ e'] at h4
   exact hS.inj b b' L L' k k' h1 h2 h3 h4 h5 h6 h7
 ·refine ⟨rfl,rfl,rfl,by omega,fun B hB _=>hold B hB,hsh,hm,?_,fun _ h=>h,fun _ h _=> .inl h,?_⟩
  ·intro b L hb
   by_cases e:b=nid
   ·subst e;rw [cd] at hb;cases hb;exact .inr (.inl (ax _))
   ·rw [cz _ _ e] at hb;exact .inl hb
  ·rintro B hlt ⟨b,L,k,h1,h2,h3,rfl⟩
   by_cases e:b=nid
   ·subst e;rw [cd] at h1;cases h1;exact absurd hlt (Nat.lt_irrefl _)
   ·rw [cz _ _ e] at h1;rw [ct _ _ e] at h2;exact ⟨b,L,k,h1,h2,h3,rfl⟩
theorem SR.putLoop (hS:SR φ I H w) {b:Nat} {L:Loc} {l:Lp} {o:Option Lp} {r':Loop} (hb:φ b=some L) (hk:get H b=some (.loop l)) (hl:∀ l',o=some l'→LpR φ I w l' r'):
 SR φ I (j4 H b (o.map .loop)) (w.putObj L.B (.loop r'))∧iC φ I H w φ I (j4 H b (o.map .loop)) (w.putObj L.B (.loop r')):=by
 have hne:∀ B,B≠L.B→(w.putObj L.B (.loop r')).heap[B]? =w.heap[B]? :=fun B h=>World.putObj_heap_other h
 have hlt:=(hS.dom b L hb).2
 have hnew:(w.putObj L.B (.loop r')).heap[L.B]? =some (.loop r'):=World.putObj_heap_same hlt
 have hnI:¬I L.B:=hS.own_notI ⟨b,L,_,hb,hk,rfl,rfl⟩
 have hIs:∀ B,I B→(w.putObj L.B (.loop r')).heap[B]? =w.heap[B]? :=fun B hB=>hne B (by rintro rfl;exact hnI hB)
 obtain ⟨_,r,hr,_⟩:=hS.blk b L _ hb hk
 have hsh:∀ B s,w.shape? B=some s→(w.putObj L.B (.loop r')).shape? B=some s:=by
  intro B s h
  by_cases e:B=L.B
  ·subst e;simp [World.shape?,hr] at h
  ·rw [js (hne B e)];exact h
 have hsize:(w.putObj L.B (.loop r')).heap.size=w.heap.size:=World.putObj_size
 have hbl:=(hS.dom b L hb).1
 constructor
 ·refine ⟨fun d M hd=>⟨by have:=(hS.dom d M hd).1;rw [jG];omega,by rw [hsize];exact (hS.dom d M hd).2⟩,fun B hB=>by rw [hsize];exact hS.imm B hB,?_,?_⟩
  ·intro d M k hd hk'
   by_cases e:d=b
   ·subst e
    rw [hb] at hd;cases hd
    rw [eT] at hk'
    cases o with
    |none=>cases hk'
    |some l'=>cases hk';exact ⟨hnI,r',hnew,(hl l' rfl).mono (fun _ _ h=>h) (fun _ h=>h) hIs hsh⟩
   ·rw [ct _ _ e] at hk'
    by_cases hB:M.B=L.B
    ·exfalso
     have h1:=hS.blk d M k hd hk'
     cases k with
     |row sz' m es2=>
      obtain ⟨c,t,h2,_⟩:=h1.2.1
      rw [hB,hr] at h2;cases h2
     |loop l2=>exact e (hS.inj d b M L _ _ hd hb hk' hk rfl rfl hB)
     |mp l2=>exact e (hS.inj d b M L _ _ hd hb hk' hk rfl rfl hB)
    ·exact (hS.blk d M k hd hk').mono (fun _ _ h=>h) (fun _ h=>h) hIs hsh (hne _ hB) (fun h=>h)
  ·intro d d' M M' k k' h1 h2 h3 h4 h5 h6 h7
   have own':∀ {d:Nat} {k:Blk},get (j4 H b (o.map .loop)) d=some k→k.own=true→∃ k0,get H d=some k0∧k0.own=true:=by
    intro d k h h'
    by_cases e:d=b
    ·subst e;exact ⟨_,hk,rfl⟩
    ·rw [ct _ _ e] at h;exact ⟨k,h,h'⟩
   obtain ⟨k0,a0,a1⟩:=own' h3 h5
   obtain ⟨k1,b0,b1⟩:=own' h4 h6
   exact hS.inj d d' M M' k0 k1 h1 h2 a0 b0 a1 b1 h7
 ·refine ⟨rfl,rfl,rfl,by omega,fun B hB ho=>hne B (by rintro rfl;exact ho ⟨b,L,_,hb,hk,rfl,rfl⟩),hsh,fun _ _ h=>h,fun _ _ h=> .inl h,fun _ h=>h,fun _ h _=> .inl h,?_⟩
  rintro B hlt ⟨d,M,k,h1,h2,h3,rfl⟩
  by_cases e:d=b
  ·subst e;rw [hb] at h1;cases h1;exact ⟨d,L,_,hb,hk,rfl,rfl⟩
  ·rw [ct _ _ e] at h2;exact ⟨d,M,k,h1,h2,h3,rfl⟩
def tB (D:Nat):Deferred:={ target:= .collected D,args:=#[] }
def DF (N:Nat) (I:Nat→Prop) (w:World) (ds:List Deferred):Prop:=∃ Ds:List Nat,Ds.Nodup∧ds=Ds.map tB∧∀ D∈Ds,N≤D∧w.heap[D]? =some (.deferred (some []))∧¬I D
theorem rA (hS:SR φ I H w) {B:Nat} {x:Option (List Deferred)} (h:w.heap[B]? =some (.deferred x)):¬Own φ H B:=by
 rintro ⟨b,L,k,h1,h2,h3,rfl⟩
 have:=hS.blk b L k h1 h2
 cases k with
 |row sz m es=>obtain ⟨c,t,q,_⟩:=this.2.1;rw [h] at q;cases q
 |loop l=>obtain ⟨_,r,q,_⟩:=this;rw [h] at q;cases q
 |mp l=>obtain ⟨_,r,clock,q,_⟩:=this;rw [h] at q;cases q
theorem DF.step {N:Nat} {ds:List Deferred} (h:DF N I w ds) (hS:SR φ I H w) (hst:iC φ I H w φ' I' H' w'):DF N I' w' ds:=by
 obtain ⟨Ds,h1,h2,h3⟩:=h
 refine ⟨Ds,h1,h2,fun D hD=> ?_⟩
 obtain ⟨q1,hh,q2⟩:=h3 D hD
 have hlt:=(Array.getElem?_eq_some_iff.1 hh).1
 refine ⟨q1,?_,fun hI=>(hst.inew D hI hlt).elim q2 (rA hS hh)⟩
 rw [hst.same D hlt (rA hS hh)];exact hh
def X.out:X→Exit
 | .normal=> .normal
 | .exit id=> .exit id
 | .goto l=> .goto l
 | .ret=> .ret
def rD:LC→Bool
 | .seq a b=>rD a&&rD b
 | .cond _ a b=>rD a&&rD b
 | .block _ c=>rD c
 | .loop c=>rD c
 | .rangeFunc .. =>false
 |_=>true
theorem least {p:Nat→Prop}:∀ k,p k→∃ k,p k∧∀ j,p j→k≤j:=by
 intro k
 induction k using Nat.strongRecOn with
 |ind k ih=>
  intro hk
  by_cases h:∃ j,j<k∧p j
  ·obtain ⟨j,hj,hp⟩:=h;exact ih j hj hp
  ·exact ⟨k,hk,fun j hj=>Nat.le_of_not_lt fun hlt=>h ⟨j,hlt,hj⟩⟩
theorem FL {F:Fence} {n:Nat} {c:Code} {Q:Exit→Act→World→Prop} (R:Nat→Act→World→Prop)
 (round:∀ j a w,R j a w→∃ j',j'<j∧c.wpIn F n P (Exit.then (R j') Q) a w) {j:Nat} {a:Act} {w:World} (h:R j a w):(Code.loop c).wpIn F n P Q a w:=by
 classical
 let m:Act→World→Nat:=fun a w=>if h:∃ k,R k a w∧∀ j,R j a w→k≤j then Classical.choose h else 0
 have hm:∀ a w,(∃ k,R k a w)→R (m a w) a w∧∀ j,R j a w→m a w≤j:=by
  rintro a w ⟨k,hk⟩
  have hex:=least (p:=fun k=>R k a w) k hk
  have:m a w=Classical.choose hex:=by simp only [m];rw [dif_pos hex]
  rw [this];exact Classical.choose_spec hex
 refine wpIn_loop (fun a w=>∃ k,R k a w) m ⟨j,h⟩ ?_
 intro a w hk
 obtain ⟨h1,_⟩:=hm a w hk
 obtain ⟨j',hj',hc⟩:=round _ a w h1
 refine wpIn_mono hc ?_
 intro e a' w' hq
 cases e with
 |normal=>exact ⟨⟨j',hq⟩,Nat.lt_of_le_of_lt ((hm a' w' ⟨j',hq⟩).2 j' hq) hj'⟩
 |_=>exact hq
structure oL (N:Nat) (φ₀:Nat→Option Loc) (I₀:Nat→Prop) (H₀:Hp) (w₀:World) (φ:Nat→Option Loc) (I:Nat→Prop) (T:List V) (H:Hp) (w:World) (a:Act):Prop where
 t:VRs φ I w T a.tmps
 s:SR φ I H w
 st:iC φ₀ I₀ H₀ w₀ φ I H w
 d:DF N I w a.defers
 n:N≤w.heap.size
def At (N:Nat) (φ₀:Nat→Option Loc) (I₀:Nat→Prop) (H₀:Hp) (w₀:World) (Q:List V→Hp→Prop) (a:Act) (w:World):Prop:=
 ∃ φ I T H,oL N φ₀ I₀ H₀ w₀ φ I T H w a∧Q T H
def AtX (N:Nat) (φ₀:Nat→Option Loc) (I₀:Nat→Prop) (H₀:Hp) (w₀:World) (Q:kF) (e:Exit) (a:Act) (w:World):Prop:=
 ∃ x,e=X.out x∧At N φ₀ I₀ H₀ w₀ (Q x) a w
theorem AtX.mk {N:Nat} {φ₀:Nat→Option Loc} {I₀:Nat→Prop} {H₀:Hp} {w₀:World} {Q:kF} {a:Act} (x:X) (h:At N φ₀ I₀ H₀ w₀ (Q x) a w):AtX N φ₀ I₀ H₀ w₀ Q x.out a w:=⟨x,rfl,h⟩
theorem LK {c:Code} {x:X} (h:Kd (some c)=some x) {F:Fence} {n:Nat} {Q:Exit→Act→World→Prop} {a:Act} (hq:Q x.out a w):c.wpIn F n P Q a w:=by
 cases c<;>simp [Kd] at h<;>subst h
 ·exact wpIn_exit hq
 ·exact wpIn_goto hq
 ·exact wpIn_ret hq
theorem LA (hm:P.follows .mixedOrders=true) {ro:Option Nat} {n id N:Nat} {ops:Array Oper} {draw:Bool} {lc:LC} {φ₀:Nat→Option Loc} {I₀:Nat→Prop} {H₀:Hp} {w₀:World} {T:List V} {a:Act} {Q:kF}
 (hl:mf (.region id ops draw)=some lc) (hW:oL N φ₀ I₀ H₀ w₀ φ I T H w a) (h:wpL P lc T H Q):
 (Code.region id ops draw).wpIn (FR ro) n P (AtX N φ₀ I₀ H₀ w₀ Q) a w:=by
 have fin:∀ T' H' φ' I' w' a',Q .normal T' H'→VRs φ' I' w' T' a'.tmps→SR φ' I' H' w'→iC φ I H w φ' I' H' w'→a'.defers=a.defers→AtX N φ₀ I₀ H₀ w₀ Q .normal a' w':=by
  intro T' H' φ' I' w' a' hq ht hs hst hd
  refine ⟨.normal,rfl,φ',I',T',H',⟨ht,hs,hW.st.trans hst,?_,bi hW.n hst.size⟩,hq⟩
  rw [hd];exact hW.d.step hW.s hst
 unfold mf at hl
 split at hl
 ·cases hl
 ·rename_i hc
  cases draw with
  |false=>
   obtain ⟨l',h1,h2⟩:=Option.map_eq_some_iff.1 hl
   subst h2
   exact EG (bs:=#[]) (by simpa using h1) h hW.t hW.s fin
  |true=>
   obtain ⟨l',h1,h2⟩:=Option.map_eq_some_iff.1 hl
   subst h2
   simp only [if_true] at h1
   exact IS hm (by simpa using hc) h1 (yp _ _) (fun i j h1 h2 h3=>yn _ _ i j h1 h2 h3) h hW.t hW.s fin
end Go.Av
namespace Go.Av
open Go.RowKit
variable {P:Program} {φ φ' φ'':Nat→Option Loc} {I I' I'' J:Nat→Prop} {H H' H'':Hp} {w w' w'':World}
theorem zi {n N:Nat} {f:Operand} {ps:Array Tmp} {assign body:Code} {φ₀:Nat→Option Loc} {I₀:Nat→Prop} {H₀:Hp} {w₀:World} {T:List V} {a:Act} {Q:kF} (hf:oK f=true)
 (hW:oL N φ₀ I₀ H₀ w₀ φ I T H w a) (h:wpL P (.rangeFunc f ps assign body) T H Q):
 (Code.rangeFunc f ps assign body).wpIn (FR none) n P (AtX N φ₀ I₀ H₀ w₀ Q) a w:=by
 unfold wpL at h
 split at h
 ·rename_i g first cap hg
  have hfv:=ia hW.t f hf
  rw [hg] at hfv
  obtain ⟨xs,ys,hy,hx1,hx2⟩:=zI hfv
  refine wpIn_rangeFunc ?_
  intro fn hfn
  obtain ⟨hs1,hst1⟩:=hW.s.below (I':=I) (((Below.refl w.heap.size w).alloc (ax _) (.deferred (some [])))) (fun _ h=>h) (fun _ h=> .inl h)
  have hT1:=hW.t.step hW.s hst1
  have hD1:=hW.d.step hW.s hst1
  have hdf1:(w.alloc (.deferred (some []))).heap[w.heap.size]? =some (.deferred (some [])):=World.alloc_heap_new w _
  generalize hw1:w.alloc (.deferred (some []))=w1 at*
  have hsz1:w1.heap.size=w.heap.size+1:=by rw [←hw1,World.size_alloc]
  generalize hrec:({ state:= .ready,pending:=none,fn,tmps:=a.tmps,params:=ps,assign,body,defers:=w.heap.size }:Loop)=rec
  have hlr:LpR φ I w1 ⟨.ready,none,T,ps,assign,body⟩ rec:=by rw [←hrec];exact ⟨rfl,rfl,hT1,rfl,rfl,rfl⟩
  obtain ⟨hs2,hst2⟩:=hs1.allocLoop hlr
  have hD2:=hD1.step hs1 hst2
  have hT2:=hT1.step hs1 hst2
  have hdf2:(w1.alloc (.loop rec)).heap[w.heap.size]? =some (.deferred (some [])):=by rw [Below.heap_alloc w1 _ w.heap.size (by omega)];exact hdf1
  have hdf2':DF N I (w1.alloc (.loop rec)) (tB w.heap.size::a.defers):=by
   obtain ⟨Ds,q1,q2,q3⟩:=hD2
   refine ⟨w.heap.size::Ds,cV.2 ⟨fun hmem=> ?_,q1⟩,by rw [q2];rfl,?_⟩
   ·obtain ⟨Ds',p1,p2,p3⟩:=hW.d
    have:Ds=Ds':=by
     have e:Ds.map tB=Ds'.map tB:=by rw [←q2,p2]
     have inj:∀ (l l':List Nat),l.map tB=l'.map tB→l=l':=by
      intro l
      induction l with
      |nil=>intro l' h;cases l' with
       |nil=>rfl
       |cons _ _=>simp at h
      |cons x l ih=>intro l' h;cases l' with
       |nil=>simp at h
       |cons y l'=>
        simp only [aY,List.cons.injEq] at h
        have hxy:x=y:=by have:=h.1;simp [tB] at this;exact this
        rw [hxy,ih l' h.2]
     exact inj _ _ e
    rw [this] at hmem
    have:=(Array.getElem?_eq_some_iff.1 (p3 _ hmem).2.1).1
    exact Nat.lt_irrefl _ this
   ·intro D hD
    rcases ay.1 hD with rfl|hD
    ·exact ⟨hW.n,hdf2,fun h=>absurd (hW.s.imm _ h) (Nat.lt_irrefl _)⟩
    ·exact q3 D hD
  rw [s7] at hs2 hst2
  generalize hw2:w1.alloc (.loop rec)=w2 at*
  generalize hφ2:nk φ H.length ⟨w1.heap.size,0,0⟩=φ2 at*
  have hb2:φ2 H.length=some ⟨w1.heap.size,0,0⟩:=by rw [←hφ2];exact cd ..
  have hx1':VRs φ2 I w2 first xs:=(hx1.step hW.s hst1).step hs1 hst2
  have hx2':VRs φ2 I w2 cap ys:=(hx2.step hW.s hst1).step hs1 hst2
  have hyl:VRs φ2 I w2 [.yld H.length] #[.func (.yield (w.heap.size+1)) #[] #[]]:=by
   refine ⟨rfl,fun k v x hk hx=> ?_⟩
   cases k with
   |zero=>
    simp only [aN,bu] at hk;subst hk
    simp at hx;subst hx
    have:=VR.yld (I:=I) (w:=w2) hb2
    rwa [hsz1] at this
   |succ k=>simp at hk
  obtain ⟨hc,hcalls⟩:=h φ2 I w2 (xs++#[.func (.yield (w.heap.size+1)) #[] #[]]++ys) hs2 ((hx1'.append hyl).append hx2')
  refine ⟨w.heap.size+1,[tB w.heap.size],w2,{ target:= .fn (.func g) ys,args:=xs++#[.func (.yield (w.heap.size+1)) #[] #[]] },w2,g,xs++#[.func (.yield (w.heap.size+1)) #[] #[]]++ys,w2,?_,?_,fun _ _=>trivial,?_,fun h=>by simp [FR,Fence.wide] at h,?_⟩
  ·have:=run_enterLoop_outer (P:=P) (w:=w) fn a.tmps ps assign body
   rw [hw1,hrec,hw2] at this
   exact this
  ·simp only [resolve,hy,Deferred.ofValue]
   simp [go_sem,Act.eval]
  ·simp only [invoke];exact hc w2
  ·refine (BE hcalls).mono ?_
   rintro e w3 ⟨x,r,H3,φ3,I3,rfl,hq,hv,hs3,hst3⟩
   split at hq
   ·rename_i l hgl
    obtain ⟨hnb,hq⟩:=hq
    have hφ3:=hst3.phi _ _ hb2
    obtain ⟨_,r3,hr3,hlr3⟩:=hs3.blk _ _ _ hφ3 hgl
    have hend:=run_endLoop (P:=P) (by rw [hsz1] at hr3;exact hr3) (by rw [hlr3.1];exact hnb)
    refine ⟨r3.pending,_,hend,?_⟩
    obtain ⟨hs4,hst4⟩:=hs3.putLoop (o:=none) (r':={ r3 with state:= .exhausted }) hφ3 hgl (fun _ h=>by cases h)
    simp only [hsz1,Option.map_none] at hs4 hst4
    have hHlt:H.length<H3.length:=(hs3.dom _ _ hφ3).1
    rw [ng _ hHlt] at hs4 hst4
    have hst14:=(hst1.trans hst2).trans (hst3.trans hst4)
    have hW4:oL N φ₀ I₀ H₀ w₀ φ3 I3 T (H3.set H.length none) (w3.putObj (w.heap.size+1) (.loop { r3 with state:= .exhausted })) { a with defers:=[tB w.heap.size]++a.defers }:=by
     refine ⟨(hW.t).step hW.s hst14,hs4,hW.st.trans hst14,?_,bi hW.n hst14.size⟩
     exact ((hdf2'.step hs2 hst3).step hs3 hst4)
    rw [←hlr3.2.1] at hq
    split at hq
    ·rename_i x hx
     cases hpe:r3.pending with
     |none=>
      rw [hpe] at hx hW4
      simp [Kd] at hx;subst hx;exact ⟨.normal,rfl,φ3,I3,T,_,hW4,hq⟩
     |some c=>
      rw [hpe] at hx hW4
      exact LK hx ⟨x,rfl,φ3,I3,T,_,hW4,hq⟩
    ·exact hq.elim
   ·exact hq.elim
 ·exact h.elim
def r8:Code→Bool
 | .seq a b=>r8 a&&r8 b
 | .cond c a b=>oK c&&r8 a&&r8 b
 | .block _ c=>r8 c
 | .loop c=>r8 c
 | .rangeFunc f _ _ _=>oK f
 |_=>true
theorem vz (hm:P.follows .mixedOrders=true) {ro:Option Nat} {n N:Nat} {φ₀:Nat→Option Loc} {I₀:Nat→Prop} {H₀:Hp} {w₀:World}:∀ (c:Code) (lc:LC),mf c=some lc→r8 c=true→(ro=none∨rD lc=true)→
 ∀ {φ:Nat→Option Loc} {I:Nat→Prop} {T:List V} {H:Hp} {w:World} {a:Act} {Q:kF},oL N φ₀ I₀ H₀ w₀ φ I T H w a→wpL P lc T H Q→c.wpIn (FR ro) n P (AtX N φ₀ I₀ H₀ w₀ Q) a w:=by
 intro c
 induction c with
 |skip=>intro lc hl _ _ φ I T H w a Q hW h;cases hl;exact wpIn_skip ⟨.normal,rfl,φ,I,T,H,hW,h⟩
 |region id ops draw=>
  intro lc hl _ _ φ I T H w a Q hW h
  exact LA hm hl hW h
 |seq x y ihx ihy=>
  intro lc hl hr hn φ I T H w a Q hW h
  simp only [mf] at hl
  split at hl
  ·rename_i lx ly h1 h2
   cases hl
   simp only [r8,Bool.and_eq_true] at hr
   have hnx:ro=none∨rD lx=true:=hn.imp id (fun h=>by simp [rD] at h;exact h.1)
   have hny:ro=none∨rD ly=true:=hn.imp id (fun h=>by simp [rD] at h;exact h.2)
   refine wpIn_seq (wpIn_mono (ihx lx h1 hr.1 hnx hW h) ?_)
   rintro e a' w' ⟨x,rfl,φ',I',T',H',hW',hq⟩
   cases x with
   |normal=>exact ihy ly h2 hr.2 hny hW' hq
   |exit id=>exact ⟨.exit id,rfl,φ',I',T',H',hW',hq⟩
   |goto id=>exact ⟨.goto id,rfl,φ',I',T',H',hW',hq⟩
   |ret=>exact ⟨.ret,rfl,φ',I',T',H',hW',hq⟩
  ·cases hl
 |cond c x y ihx ihy=>
  intro lc hl hr hn φ I T H w a Q hW h
  simp only [mf] at hl
  split at hl
  ·rename_i lx ly h1 h2
   cases hl
   simp only [r8,Bool.and_eq_true] at hr
   have hnx:ro=none∨rD lx=true:=hn.imp id (fun h=>by simp [rD] at h;exact h.1)
   have hny:ro=none∨rD ly=true:=hn.imp id (fun h=>by simp [rD] at h;exact h.2)
   have hc:=ia hW.t c hr.1.1
   unfold wpL at h
   split at h
   ·rename_i t ht
    rw [ht] at hc
    have hcv:a.eval c= .bool t:=by generalize a.eval c=v at hc;cases hc;rfl
    exact wpIn_cond_split hcv (fun e=>ihx lx h1 hr.1.2 hnx hW (h.1 e)) (fun e=>ihy ly h2 hr.2 hny hW (h.2 e))
   ·exact h.elim
  ·cases hl
 |block id c ih=>
  intro lc hl hr hn φ I T H w a Q hW h
  simp only [mf] at hl
  obtain ⟨l,h1,h2⟩:=Option.map_eq_some_iff.1 hl
  cases h2
  refine wpIn_block (wpIn_mono (ih l h1 hr hn hW h) ?_)
  rintro e a' w' ⟨x,rfl,φ',I',T',H',hW',hq⟩
  cases x with
  |normal=>exact ⟨.normal,rfl,φ',I',T',H',hW',hq⟩
  |exit i=>
   simp only [X.out,Exit.inBlock]
   simp only at hq
   split
   ·rename_i e;rw [if_pos e] at hq;exact ⟨.normal,rfl,φ',I',T',H',hW',hq⟩
   ·rename_i e;rw [if_neg e] at hq;exact ⟨.exit i,rfl,φ',I',T',H',hW',hq⟩
  |goto id=>exact ⟨.goto id,rfl,φ',I',T',H',hW',hq⟩
  |ret=>exact ⟨.ret,rfl,φ',I',T',H',hW',hq⟩
 |loop c ih=>
  intro lc hl hr hn φ I T H w a Q hW h
  simp only [mf] at hl
  obtain ⟨l,h1,h2⟩:=Option.map_eq_some_iff.1 hl
  cases h2
  obtain ⟨k,hk⟩:∃ k,wx (wpL P l) Q k T H:=h
  refine FL (fun k a w=>∃ φ I T H,oL N φ₀ I₀ H₀ w₀ φ I T H w a∧wx (wpL P l) Q k T H) ?_ (j:=k) ⟨φ,I,T,H,hW,hk⟩
  rintro j a w ⟨φ,I,T,H,hW,hj⟩
  cases j with
  |zero=>exact hj.elim
  |succ j=>
   refine ⟨j,Nat.lt_succ_self _,wpIn_mono (ih l h1 hr hn hW hj) ?_⟩
   rintro e a' w' ⟨x,rfl,φ',I',T',H',hW',hq⟩
   cases x with
   |normal=>exact ⟨φ',I',T',H',hW',hq⟩
   |exit id=>exact ⟨.exit id,rfl,φ',I',T',H',hW',hq⟩
   |goto id=>exact ⟨.goto id,rfl,φ',I',T',H',hW',hq⟩
   |ret=>exact ⟨.ret,rfl,φ',I',T',H',hW',hq⟩
 |rangeFunc f ps assign body _ _=>
  intro lc hl hr hn φ I T H w a Q hW h
  simp only [mf,bu] at hl
  subst hl
  rcases hn with rfl|hn
  ·exact zi hr hW h
  ·simp [rD] at hn
 |exit id=>intro lc hl _ _ φ I T H w a Q hW h;cases hl;exact wpIn_exit ⟨.exit id,rfl,φ,I,T,H,hW,h⟩
 |goto id=>intro lc hl _ _ φ I T H w a Q hW h;cases hl;exact wpIn_goto ⟨.goto id,rfl,φ,I,T,H,hW,h⟩
 |label id=>intro lc hl _ _ φ I T H w a Q hW h;cases hl;exact wpIn_label ⟨.normal,rfl,φ,I,T,H,hW,h⟩
 |ret=>intro lc hl _ _ φ I T H w a Q hW h;cases hl;exact wpIn_ret ⟨.ret,rfl,φ,I,T,H,hW,h⟩
 |scope c _=>intro lc hl;simp [mf] at hl
 |refuse s=>intro lc hl;simp [mf] at hl
end Go.Av
namespace Go.Av
open Go.RowKit
variable {P:Program} {φ φ' φ'':Nat→Option Loc} {I I' I'' J:Nat→Prop} {H H' H'':Hp} {w w' w'':World}
def qT (ty:TypeId→Option TyI) (T:List V) (H:Hp):ResultVar→Option V
 | .tmp t=>some (T.getD t cW)
 | .cell a t=>evL ty T H (.load t (.tmp a))
def lB (ty:TypeId→Option TyI) (T:List V) (H:Hp):List ResultVar→Option (List V)
 |[]=>some []
 |r::rs=>match qT ty T H r,lB ty T H rs with
  |some v,some vs=>some (v::vs)
  |_,_=>none
def pH:List V→V
 |[v]=>v
 |vs=> .tup vs
def ru (P:Program) (rs:List ResultVar) (Q:V→Hp→Prop):kF:=fun x T H=>
 match x with
 | .normal| .ret=>match lB (aD P) T H rs with
  |some vs=>Q (pH vs) H
  |none=>False
 |_=>False
theorem QI {T:List V} {xs:Array Value} (h:VRs φ I w T xs) (t:Nat):VR φ I w (T.getD t cW) (xs.getD t undef):=by
 have hl:=h.len
 rcases am t T.length with hlt|hge
 ·have h2:t<xs.size:=by omega
  rw [ae,af hlt,bG]
  have e:xs.getD t undef=xs[t]:=by simp [Array.getD,h2]
  rw [e]
  exact h.at_ t _ _ (af hlt) (Array.getElem?_eq_getElem h2)
 ·have h2:¬t<xs.size:=by omega
  rw [ae,List.getElem?_eq_none hge]
  have e:xs.getD t undef=undef:=by simp [Array.getD,h2]
  rw [e];exact nQ
def Lo (tmps:Array Value):ResultVar→Sem Value
 | .tmp t=>pure (tmps.getD t undef)
 | .cell a t=>do loadVar t (←asAddr (tmps.getD a undef))
theorem Qb {T:List V} {a:Act} (hT:VRs φ I w T a.tmps) (hS:SR φ I H w) {r:ResultVar} {v:V} (h:qT (aD P) T H r=some v):∃ x,(Lo a.tmps r).run P w= .ok x w∧VR φ I w v x:=by
 cases r with
 |tmp t=>
  simp only [qT,bu] at h;subst h
  exact ⟨a.tmps.getD t undef,by simp [Lo],QI hT t⟩
 |cell d t=>
  simp only [qT] at h
  have hv:=ia hT (.tmp d) rfl
  have hg0:a.eval (.tmp d)=a.tmps.getD d undef:=rfl
  unfold evL at h
  simp only at h
  split at h
  ·rename_i i b k j ht hx
   rw [hx] at hv
   obtain ⟨L,hL,hy⟩:=hv.ptr_inv
   rw [hg0] at hy
   split at h
   ·rename_i sz m es hg
    split at h
    ·rename_i e he
     obtain ⟨r1,_,_,r5,_⟩:=hS.row hL hg
     obtain ⟨x,hx1,hx2⟩:=vZ ht (e:=e) (B:=L.B) (o:=L.off+k*sz) (fun q v hq=>r5 k e q v he hq) h
     exact ⟨x,by simp [Lo,hy,asAddr,r1,hx1],hx2⟩
    ·cases h
   ·cases h
  ·rename_i i e j ht hx
   rw [hx] at hv
   obtain ⟨B,o,hy,val,hI,hc1,hv1⟩:=hv.ivp_inv
   rw [hg0] at hy
   obtain ⟨x,hx1,hx2⟩:=vZ ht (e:=e) (B:=B) (o:=o) (fun q v hq=>⟨_,hc1 q v hq,(hv1 q v hq).any⟩) h
   exact ⟨x,by simp [Lo,hy,asAddr,hx1],hx2⟩
  ·cases h
theorem JH {T:List V} {a:Act} (hT:VRs φ I w T a.tmps) (hS:SR φ I H w):∀ (rs:List ResultVar) (vs:List V),lB (aD P) T H rs=some vs→∃ xs:List Value,(rs.mapM (Lo a.tmps)).run P w= .ok xs w∧VRs φ I w vs xs.toArray
 |[],vs,h=>by
  simp only [lB,bu] at h;subst h
  exact ⟨[],by simp,VRs.nil⟩
 |r::rs,vs,h=>by
  unfold lB at h
  split at h
  ·rename_i v vs' h1 h2
   cases h
   obtain ⟨x,hx,hv⟩:=Qb hT hS h1
   obtain ⟨xs,hxs,hvs⟩:=JH hT hS rs vs' h2
   refine ⟨x::xs,by simp [List.mapM_cons,Sem.run_bind,hx,hxs,Result.andThen],⟨by simp [hvs.len],fun k u y hu hy=> ?_⟩⟩
   cases k with
   |zero=>simp at hu hy;subst hu;subst hy;exact hv
   |succ k=>simp at hu hy;exact hvs.at_ k u y hu (by simpa using hy)
  ·cases h
theorem Gi {fn:Func} {T:List V} {a:Act} {vs:List V} (hT:VRs φ I w T a.tmps) (hS:SR φ I H w) (h:lB (aD P) T H fn.results.toList=some vs):
 ∃ x,(results fn a.tmps).run P w= .ok x w∧VR φ I w (pH vs) x:=by
 obtain ⟨xs,hxs,hvs⟩:=JH hT hS _ _ h
 have e:results fn a.tmps=(do let vs ←fn.results.mapM (Lo a.tmps);pure (if h:vs.size=1 then vs[0] else .tuple vs)):=rfl
 rw [e,Array.mapM_eq_mapM_toList]
 simp only [Sem.run_bind,map_eq_pure_bind,hxs,aQ,Sem.run_pure]
 refine ⟨_,rfl,?_⟩
 have hl:=hvs.len
 match vs,hvs,hl with
 |[v],hvs,hl=>
  have h1:xs.toArray.size=1:=by simpa using hl.symm
  rw [dif_pos h1]
  exact hvs.at_ 0 v _ rfl (by simp)
 |[],hvs,hl=>rw [dif_neg (by rw [←hl];simp)];exact .tup hvs.len hvs.at_
 |_::_::_,hvs,hl=>rw [dif_neg (by rw [←hl];simp)];exact .tup hvs.len hvs.at_
theorem oL.shut {N:Nat} {φ₀:Nat→Option Loc} {I₀:Nat→Prop} {H₀:Hp} {w₀:World} {T:List V} {tmps:Array Value} {D:Nat} {Ds:List Nat} (hN:N=w₀.heap.size) (hW:oL N φ₀ I₀ H₀ w₀ φ I T H w ⟨tmps,(D::Ds).map tB⟩):
 (Instr.takeDeferred D).run P w= .ok [] (w.putObj D (.deferred none))∧oL N φ₀ I₀ H₀ w₀ φ I T H (w.putObj D (.deferred none)) ⟨tmps,Ds.map tB⟩:=by
 obtain ⟨hT,hS,hst,⟨Ds',h1,h2,h3⟩,hn⟩:=hW
 have hDs:D::Ds=Ds':=by
  have inj:∀ (l l':List Nat),l.map tB=l'.map tB→l=l':=by
   intro l
   induction l with
   |nil=>intro l' h;cases l' with
    |nil=>rfl
    |cons _ _=>simp at h
   |cons x l ih=>intro l' h;cases l' with
    |nil=>simp at h
    |cons y l'=>
     simp only [aY,List.cons.injEq] at h
     have hxy:x=y:=by have:=h.1;simp [tB] at this;exact this
     rw [hxy,ih l' h.2]
  exact inj _ _ h2
 subst hDs
 obtain ⟨q1,hD,q2⟩:=h3 D (ah ..)
 have hne:∀ B,B≠D→(w.putObj D (.deferred none)).heap[B]? =w.heap[B]? :=fun B h=>World.putObj_heap_other h
 have hIs:∀ B,I B→(w.putObj D (.deferred none)).heap[B]? =w.heap[B]? :=fun B hB=>hne B (by rintro rfl;exact q2 hB)
 have hsh:∀ B s,w.shape? B=some s→(w.putObj D (.deferred none)).shape? B=some s:=by
  intro B s h
  by_cases e:B=D
  ·subst e;simp [World.shape?,hD] at h
  ·rw [js (hne B e)];exact h
 refine ⟨run_takeDeferred hD,hT.mono (fun _ _ h=>h) (fun _ h=>h) hIs hsh,?_,?_,⟨Ds,(cV.1 h1).2,rfl,fun E hE=> ?_⟩,by rw [World.putObj_size];exact hn⟩
 ·refine ⟨fun b L hb=>by rw [World.putObj_size];exact hS.dom b L hb,fun B hB=>by rw [World.putObj_size];exact hS.imm B hB,fun b L k hb hk=> ?_,hS.inj⟩
  have hbk:=hS.blk b L k hb hk
  refine hbk.mono (fun _ _ h=>h) (fun _ h=>h) hIs hsh (hne _ ?_) (fun h=>h)
  rintro rfl
  cases k with
  |row sz m es=>obtain ⟨c,t,q,_⟩:=hbk.2.1;rw [hD] at q;cases q
  |loop l=>obtain ⟨_,r,q,_⟩:=hbk;rw [hD] at q;cases q
  |mp l=>obtain ⟨_,r,clock,q,_⟩:=hbk;rw [hD] at q;cases q
 ·refine ⟨hst.os,hst.tape,hst.output,by rw [World.putObj_size];exact hst.size,fun B hB hO=> ?_,fun B s h=>hsh B s (hst.shape B s h),hst.phi,hst.new,hst.imm,hst.inew,hst.own⟩
  rw [hne B (by omega)];exact hst.same B hB hO
 ·obtain ⟨a1,a2,a3⟩:=h3 E (ag _ hE)
  refine ⟨a1,?_,a3⟩
  rw [hne E (by rintro rfl;exact (cV.1 h1).1 hE)];exact a2
theorem yD {N:Nat} {φ₀:Nat→Option Loc} {I₀:Nat→Prop} {H₀:Hp} {w₀:World} {T:List V} {fn:Func} {vs:List V} {Q:V→Hp→Prop} (hN:N=w₀.heap.size) (hr:lB (aD P) T H fn.results.toList=some vs) (hq:Q (pH vs) H) {tmps:Array Value} {n:Nat}:
 ∀ (Ds:List Nat) (w:World),oL N φ₀ I₀ H₀ w₀ φ I T H w ⟨tmps,Ds.map tB⟩→LeavesInM Fence.wide n P fn tmps (FF φ₀ I₀ H₀ w₀ Q) (Ds.map tB) .returning w
 |[],w,hW=>by
  obtain ⟨x,hx,hv⟩:=Gi (a:=⟨tmps,_⟩) hW.t hW.s hr
  exact ⟨x,hx,x,pH vs,H,φ,I,rfl,hq,hv,hW.s,hW.st⟩
 |D::Ds,w,hW=>by
  obtain ⟨h1,h2⟩:=hW.shut (P:=P) hN
  exact ⟨by simp,.inl ⟨D,_,rfl,h1,yD hN hr hq Ds _ h2⟩⟩
structure FnD (P:Program) (f:FuncId) (k:Nat) (rs:List ResultVar) (lc:LC):Prop where
 ex:∃ fn c,P.funcs[f]? =some fn∧fn.body=some c∧mf c=some lc∧r8 c=true∧(fn.name== "runtime.NumGoroutine")=false∧fn.ntmps=k∧fn.results.toList=rs
theorem FnD.call {f:FuncId} {k:Nat} {rs:List ResultVar} {lc:LC} (h:FnD P f k rs lc) (xs:Array Value) (W:World):(callFunc f xs).run P W= .ok (.enter f xs) W:=by
 obtain ⟨fn,c,h1,h2,_,_,h5,_⟩:=h.ex
 simp [callFunc,Sem.run_bind,h1,h2]
 simpa using h5
def vu (k:Nat) (args:List V):List V:=args++List.replicate (k-args.length) cW
theorem HG (hm:P.follows .mixedOrders=true) {f:FuncId} {k:Nat} {rs:List ResultVar} {lc:LC} (hf:FnD P f k rs lc) {args:List V} {Q:V→Hp→Prop} (h:wpL P lc (vu k args) H (ru P rs Q)):SC P f args H Q:=by
 intro φ I w xs hS hxs
 refine ⟨hf.call xs,(callsIn_wide (n:=0)).1 ?_⟩
 ·obtain ⟨fn,c,h1,h2,h3,h4,h5,h6,h7⟩:=hf.ex
  refine callsIn_of_wp_marks h1 h2 trivial ?_
  have hW:oL w.heap.size φ I H w φ I (vu k args) H w ⟨xs++Array.replicate (fn.ntmps-xs.size) undef,[]⟩:=by
   refine ⟨⟨?_,fun i v x hv hx=> ?_⟩,hS,iC.refl,⟨[],List.nodup_nil,rfl,by simp⟩,ax _⟩
   ·simp [vu,hxs.len,h6]
   ·simp only [vu] at hv
    rw [List.getElem?_append] at hv
    rw [Array.getElem?_append] at hx
    rw [hxs.len] at hv
    split at hv
    ·rename_i hlt;rw [if_pos hlt] at hx;exact hxs.at_ i v x hv hx
    ·rename_i hlt;rw [if_neg hlt] at hx
     rw [List.getElem?_replicate] at hv
     split at hv
     ·cases hv
      rw [Array.getElem?_replicate] at hx
      split at hx
      ·cases hx;exact nQ
      ·cases hx
     ·cases hv
  have:=vz hm (ro:=none) (n:=0) c lc h3 h4 (.inl rfl) hW h
  refine wpIn_mono this ?_
  rintro e a' w' ⟨x,rfl,φ',I',T',H',hW',hq⟩
  have fin:(∃ vs,lB (aD P) T' H' fn.results.toList=some vs∧Q (pH vs) H')→LeavesInM Fence.wide 0 P fn a'.tmps (FF φ I H w Q) a'.defers .returning w':=by
   rintro ⟨vs,hv,hq⟩
   obtain ⟨Ds,q1,q2,q3⟩:=hW'.d
   have e:a'=⟨a'.tmps,Ds.map tB⟩:=by rw [←q2]
   rw [q2]
   exact yD rfl hv hq Ds w' (by rw [e] at hW';exact hW')
  unfold ru at hq
  rw [h7] at fin
  cases x with
  |normal=>
   simp only at hq
   split at hq
   ·rename_i vs hv;exact fin ⟨vs,hv,hq⟩
   ·exact hq.elim
  |ret=>
   simp only at hq
   split at hq
   ·rename_i vs hv;exact fin ⟨vs,hv,hq⟩
   ·exact hq.elim
  |exit id=>exact hq.elim
  |goto l=>exact hq.elim
theorem PS {f:FuncId} {args:List V} {r:V} (h:SC P f args [] fun v H=>view H 9 v=some r):PC P f args r:=by
 intro I w xs hI hxs
 have hS:SR (fun _=>none) I [] w:=⟨fun _ _ h=>(by cases h),hI,fun _ _ _ h=>(by cases h),fun _ _ _ _ _ _ h=>(by cases h)⟩
 obtain ⟨h1,h2⟩:=h _ I w xs hS hxs
 refine ⟨h1,h2.mono ?_⟩
 rintro e w' ⟨x,v,H',φ',I',rfl,hq,hv,hS',hst⟩
 have nown:∀ B,¬Own (fun _=>none) [] B:=by rintro B ⟨b,L,k,h,_⟩;cases h
 refine ⟨x,rfl,?_,⟨hst.os,hst.tape,hst.output,hst.size,fun B hB=>hst.same B hB (nown B)⟩⟩
 refine vP (fun B hB=> ?_) hS' 9 v r x hq hv (.inr fun b L k hb _=> ?_)
 ·rcases am B w.heap.size with hlt|hge
  ·exact .inl ((hst.inew B hB hlt).elim id (fun h=>(nown B h).elim))
  ·exact .inr ⟨hge,hS'.imm B hB⟩
 ·right
  refine ⟨?_,(hS'.dom b L hb).2⟩
  rcases hst.new b L hb with h|h|h
  ·cases h
  ·exact h
  ·exact (nown _ h).elim
theorem BR (hm:P.follows .mixedOrders=true) {f:FuncId} {k:Nat} {rs:List ResultVar} {lc:LC} (hf:FnD P f k rs lc) {args:List V} {r:V} (h:wpL P lc (vu k args) [] (ru P rs fun v H=>view H 9 v=some r)):PC P f args r:=
 PS (HG hm hf h)
end Go.Av
namespace Go.Av
open Go.RowKit
variable {P:Program} {φ φ' φ'':Nat→Option Loc} {I I' I'' J:Nat→Prop} {H H' H'':Hp} {w w' w'':World}
def pZ (T:List V) (ps:List Tmp) (args:List V):List V:=(ps.zip args).foldl (fun T p=>T.set p.1 p.2) T
theorem CB:∀ (ps:List Tmp) (args:List V) (xs:List Value) {T:List V} {ts:Array Value},VRs φ I w T ts→VRs φ I w args xs.toArray→VRs φ I w (pZ T ps args) ((ps.zip xs).foldl (fun tmps p=>tmps.setIfInBounds p.1 p.2) ts)
 |[],args,xs,T,ts,h,_=>by simpa [pZ] using h
 |p::ps,args,xs,T,ts,h,hx=>by
  cases args with
  |nil=>
   have:xs=[]:=by have:=hx.len;simpa using this.symm
   subst this
   simpa [pZ] using h
  |cons a args=>
   cases xs with
   |nil=>have:=hx.len;simp at this
   |cons x xs=>
    have h0:VR φ I w a x:=hx.at_ 0 a x rfl (by simp)
    have ht:VRs φ I w args xs.toArray:=⟨by have:=hx.len;simpa using this,fun k v y hv hy=>hx.at_ (k+1) v y (by simpa using hv) (by simpa using hy)⟩
    simp only [pZ,List.zip_cons_cons,List.foldl_cons]
    have:=VRs.putT (a:=⟨ts,[]⟩) (d:=some p) h h0
    exact CB ps args xs this ht
def isN:X→Bool
 | .normal=>true
 |_=>false
def H9 (b:Nat) (Q:V→Hp→Prop):kF:=fun x _ H3=>match get H3 b with
 |some (.loop l3)=>Q (.prim (.bool (isN x))) (H3.set b (some (.loop { l3 with st:=if isN x then .ready else .done,pend:=zN x })))
 |_=>False
def I9 (P:Program) (b:Nat) (lb:LC) (Q:V→Hp→Prop):kF:=fun x T2 H2=>match x,get H2 b with
 | .normal,some (.loop l2)=>l2.st= .ready∧wpL P lb T2 (H2.set b (some (.loop { l2 with st:= .busy }))) (H9 b Q)
 |_,_=>False
theorem PL (hm:P.follows .mixedOrders=true) {b:Nat} {args:List V} {l:Lp} {la lb:LC} {Q:V→Hp→Prop} (hg:get H b=some (.loop l)) (hps:args.length=l.params.size)
 (h1:mf l.assign=some la) (h2:mf l.body=some lb) (h3:r8 l.assign=true) (h4:r8 l.body=true) (h5:rD la=true) (h6:rD lb=true)
 (h:wpL P la (pZ l.T l.params.toList args) H (I9 P b lb Q)):YC P b args H Q:=by
 intro φ I w xs L hL hS hxs
 obtain ⟨_,r,hr,hlr⟩:=hS.blk b L _ hL hg
 have hsz:xs.size=r.params.size:=by rw [hlr.2.2.2.1,←hps,hxs.len]
 refine ⟨_,_,_,_,run_yield hr hsz,?_⟩
 refine roundIn_of_wpIn trivial ?_
 rw [hlr.2.2.2.2.1,hlr.2.2.2.2.2]
 have hW:oL 0 φ I H w φ I (pZ l.T l.params.toList args) H w ⟨(r.params.zip xs).foldl (fun tmps (t,a)=>tmps.setIfInBounds t a) r.tmps,[]⟩:=by
  refine ⟨?_,hS,iC.refl,⟨[],List.nodup_nil,rfl,by simp⟩,bh _⟩
  have:=CB l.params.toList args xs.toList hlr.2.2.1 (by simpa using hxs)
  try simp only
  rw [hlr.2.2.2.1,←Array.foldl_toList,Array.toList_zip]
  exact this
 have hA:=vz hm (ro:=some L.B) (n:=0) l.assign la h1 h3 (.inr h5) hW h
 refine wpIn_mono (F:=Fw.inRound L.B) hA ?_
 rintro e a1 w1 ⟨x,rfl,φ1,I1,T1,H1,hW1,hq⟩
 unfold I9 at hq
 split at hq
 ·rename_i l2 hg1
  obtain ⟨hst,hq⟩:=hq
  have hL1:φ1 b=some L:=hW1.st.phi b L hL
  obtain ⟨_,r1,hr1,hlr1⟩:=hW1.s.blk b L _ hL1 hg1
  have hbegin:=run_beginRound (P:=P) hr1 (by rw [hlr1.1];exact hst)
  refine ⟨_,hbegin,?_⟩
  obtain ⟨hs2,hst2⟩:=hW1.s.putLoop (o:=some { l2 with st:= .busy }) (r':={ r1 with state:= .busy }) hL1 hg1 (fun l' he=>by
   cases he;exact ⟨rfl,hlr1.2.1,hlr1.2.2.1,hlr1.2.2.2.1,hlr1.2.2.2.2.1,hlr1.2.2.2.2.2⟩)
  simp only [bj] at hs2 hst2
  have hbl:=(hW1.s.dom b L hL1).1
  rw [ng _ hbl] at hs2 hst2
  have hW2:oL 0 φ I H w φ1 I1 T1 (H1.set b (some (.loop { l2 with st:= .busy }))) (w1.putObj L.B (.loop { r1 with state:= .busy })) a1:=
   ⟨hW1.t.step hW1.s hst2,hs2,hW1.st.trans hst2,hW1.d.step hW1.s hst2,bh _⟩
  have hB:=vz hm (ro:=some L.B) (n:=0) l.body lb h2 h4 (.inr h6) hW2 hq
  refine wpIn_mono (F:=Fw.inRound L.B) hB ?_
  rintro e a3 w3 ⟨x,rfl,φ3,I3,T3,H3,hW3,hq3⟩
  unfold H9 at hq3
  split at hq3
  ·rename_i l3 hg3
   have hL3:φ3 b=some L:=hW3.st.phi b L hL
   obtain ⟨_,r3,hr3,hlr3⟩:=hW3.s.blk b L _ hL3 hg3
   have hend:=run_endRound (P:=P) (zN x) hr3
   have hn:(zN x).isNone=isN x:=by cases x<;>rfl
   rw [hn] at hend
   obtain ⟨hs4,hst4⟩:=hW3.s.putLoop (o:=some { l3 with st:=if isN x then .ready else .done,pend:=zN x }) (r':={ r3 with state:=if isN x then .ready else .done,pending:=zN x }) hL3 hg3 (fun l' he=>by
    cases he;exact ⟨rfl,rfl,hlr3.2.2.1,hlr3.2.2.2.1,hlr3.2.2.2.2.1,hlr3.2.2.2.2.2⟩)
   simp only [bj] at hs4 hst4
   have hbl3:=(hW3.s.dom b L hL3).1
   rw [ng _ hbl3] at hs4 hst4
   have fin:∃ v w',(Instr.endRound L.B (zN x)).run P w3= .ok v w'∧FF φ I H w Q (.returned v) w':=
    ⟨_,_,hend,_,_,_,φ3,I3,rfl,hq3,.prim rfl,hs4,hW3.st.trans hst4⟩
   cases x<;>exact fin
  ·exact hq3.elim
 ·exact hq.elim
end Go.Av
