/- Helping texts: As14, As15, As16, As17. -/
import Derived.Test.YtkmlhdfpcjkekaaGreatKAs11
import Derived.RangeFuncRecord
set_option linter.unusedSimpArgs false
set_option linter.unusedVariables false
set_option maxRecDepth 100000
set_option maxHeartbeats 16000000
namespace Go.Av
open Go.RowKit
variable {P:Program} {φ φ' φ'':Nat→Option Loc} {I I' I'' J:Nat→Prop} {H H' H'':Hp} {w w' w'':World}
theorem LpR.mono {l:Lp} {r:Loop} (h:LpR φ I w l r) (hf:∀ b L,φ b=some L→φ' b=some L) (hI:∀ B,I B→I' B) (hh:∀ B,I B→w'.heap[B]? =w.heap[B]?) (hs:∀ B s,w.shape? B=some s→w'.shape? B=some s):LpR φ' I' w' l r:=
 ⟨h.1,h.2.1,h.2.2.1.mono hf hI hh hs,h.2.2.2⟩
theorem SR.allocLoop (hS:SR φ I H w) {r:Loop} {l:Lp} (hl:LpR φ I w l r):
 SR (phiSet φ H.length ⟨w.heap.size,0,0⟩) I (setH H H.length (some (.loop l))) (w.alloc (.loop r))∧Step φ I H w (phiSet φ H.length ⟨w.heap.size,0,0⟩) I (setH H H.length (some (.loop l))) (w.alloc (.loop r)):=by
 have hn:φ H.length=none:=hS.fresh
 generalize hnid:H.length=nid at hn ⊢
 have hsz':(w.alloc (.loop r)).heap.size=w.heap.size+1:=by rw [World.size_alloc]
 have hold:∀ B,B<w.heap.size→(w.alloc (.loop r)).heap[B]? =w.heap[B]? :=fun B hB=>Below.heap_alloc w _ B hB
 have hnew:(w.alloc (.loop r)).heap[w.heap.size]? =some (.loop r):=World.alloc_heap_new w (.loop r)
 have hIs:∀ B,I B→(w.alloc (.loop r)).heap[B]? =w.heap[B]? :=fun B hB=>hold B (hS.imm B hB)
 have hsh:∀ B s,w.shape? B=some s→(w.alloc (.loop r)).shape? B=some s:=fun B s hs=>by
  have hB:B<w.heap.size:=by
   rcases Nat.lt_or_ge B w.heap.size with h|h
   ·exact h
   ·simp [World.shape?,Array.getElem?_eq_none h] at hs
  rw [shape_of_block (hold B hB)];exact hs
 have hm:=phiSet_mono (L:=⟨w.heap.size,0,0⟩) hn
 refine ⟨⟨?_,?_,?_,?_⟩,?_⟩
 ·intro b L hb
  rw [length_setH,hsz']
  by_cases e:b=nid
  ·subst e;rw [phiSet_same] at hb;cases hb;exact ⟨by omega,by simp⟩
  ·rw [phiSet_ne _ _ e] at hb;have:=hS.dom b L hb;exact ⟨by omega,by omega⟩
 ·intro B hB;have:=hS.imm B hB;omega
 ·intro b L k hb hk
  by_cases e:b=nid
  ·subst e
   rw [phiSet_same] at hb;cases hb
   rw [get_setH_same] at hk;cases hk
   exact ⟨fun h=>absurd (hS.imm _ h) (Nat.lt_irrefl _),r,hnew,hl.mono hm (fun _ h=>h) hIs hsh⟩
  ·rw [phiSet_ne _ _ e] at hb
   rw [get_setH_ne _ _ e] at hk
   exact (hS.blk b L k hb hk).mono hm (fun _ h=>h) hIs hsh (hold _ (hS.dom b L hb).2) (fun h=>h)
 ·intro b b' L L' k k' h1 h2 h3 h4 h5 h6 h7
  by_cases e:b=nid<;>by_cases e':b'=nid
  ·rw [e,e']
  ·exfalso
   subst e;rw [phiSet_same] at h1;cases h1;rw [phiSet_ne _ _ e'] at h2
   have:=(hS.dom b' L' h2).2;simp at h7;omega
  ·exfalso
   subst e';rw [phiSet_same] at h2;cases h2;rw [phiSet_ne _ _ e] at h1
   have:=(hS.dom b L h1).2;simp at h7;omega
  ·rw [phiSet_ne _ _ e] at h1;rw [phiSet_ne _ _ e'] at h2;rw [get_setH_ne _ _ e] at h3;rw [get_setH_ne _ _ e'] at h4
   exact hS.inj b b' L L' k k' h1 h2 h3 h4 h5 h6 h7
 ·refine ⟨rfl,rfl,rfl,by omega,fun B hB _=>hold B hB,hsh,hm,?_,fun _ h=>h,fun _ h _=> .inl h,?_⟩
  ·intro b L hb
   by_cases e:b=nid
   ·subst e;rw [phiSet_same] at hb;cases hb;exact .inr (.inl (Nat.le_refl _))
   ·rw [phiSet_ne _ _ e] at hb;exact .inl hb
  ·rintro B hlt ⟨b,L,k,h1,h2,h3,rfl⟩
   by_cases e:b=nid
   ·subst e;rw [phiSet_same] at h1;cases h1;exact absurd hlt (Nat.lt_irrefl _)
   ·rw [phiSet_ne _ _ e] at h1;rw [get_setH_ne _ _ e] at h2;exact ⟨b,L,k,h1,h2,h3,rfl⟩
theorem SR.putLoop (hS:SR φ I H w) {b:Nat} {L:Loc} {l:Lp} {o:Option Lp} {r':Loop} (hb:φ b=some L) (hk:get H b=some (.loop l)) (hl:∀ l',o=some l'→LpR φ I w l' r'):
 SR φ I (setH H b (o.map .loop)) (w.putObj L.B (.loop r'))∧Step φ I H w φ I (setH H b (o.map .loop)) (w.putObj L.B (.loop r')):=by
 have hne:∀ B,B≠L.B→(w.putObj L.B (.loop r')).heap[B]? =w.heap[B]? :=fun B h=>World.putObj_heap_other h
 have hlt:=(hS.dom b L hb).2
 have hnew:(w.putObj L.B (.loop r')).heap[L.B]? =some (.loop r'):=World.putObj_heap_same hlt
 have hnI:¬I L.B:=hS.own_notI ⟨b,L,_,hb,hk,rfl,rfl⟩
 have hIs:∀ B,I B→(w.putObj L.B (.loop r')).heap[B]? =w.heap[B]? :=fun B hB=>hne B (by rintro rfl;exact hnI hB)
 obtain ⟨_,r,hr,_⟩:=hS.blk b L _ hb hk
 have hsh:∀ B s,w.shape? B=some s→(w.putObj L.B (.loop r')).shape? B=some s:=by
  intro B s h
  by_cases e:B=L.B
  ·subst e;simp [World.shape?,hr] at h
  ·rw [shape_of_block (hne B e)];exact h
 have hsize:(w.putObj L.B (.loop r')).heap.size=w.heap.size:=World.putObj_size
 have hbl:=(hS.dom b L hb).1
 constructor
 ·refine ⟨fun d M hd=>⟨by have:=(hS.dom d M hd).1;rw [length_setH];omega,by rw [hsize];exact (hS.dom d M hd).2⟩,fun B hB=>by rw [hsize];exact hS.imm B hB,?_,?_⟩
  ·intro d M k hd hk'
   by_cases e:d=b
   ·subst e
    rw [hb] at hd;cases hd
    rw [get_setH_same] at hk'
    cases o with
    |none=>cases hk'
    |some l'=>cases hk';exact ⟨hnI,r',hnew,(hl l' rfl).mono (fun _ _ h=>h) (fun _ h=>h) hIs hsh⟩
   ·rw [get_setH_ne _ _ e] at hk'
    by_cases hB:M.B=L.B
    ·exfalso
     have h1:=hS.blk d M k hd hk'
     cases k with
     |row sz' m es2=>
      obtain ⟨c,t,h2,_⟩:=h1.2.1
      rw [hB,hr] at h2;cases h2
     |loop l2=>exact e (hS.inj d b M L _ _ hd hb hk' hk rfl rfl hB)
     |mp l2=>exact e (hS.inj d b M L _ _ hd hb hk' hk rfl rfl hB)
    ·exact (hS.blk d M k hd hk').mono (fun _ _ h=>h) (fun _ h=>h) hIs hsh (hne _ hB) (fun h=>h)
  ·intro d d' M M' k k' h1 h2 h3 h4 h5 h6 h7
   have own':∀ {d:Nat} {k:Blk},get (setH H b (o.map .loop)) d=some k→k.own=true→∃ k0,get H d=some k0∧k0.own=true:=by
    intro d k h h'
    by_cases e:d=b
    ·subst e;exact ⟨_,hk,rfl⟩
    ·rw [get_setH_ne _ _ e] at h;exact ⟨k,h,h'⟩
   obtain ⟨k0,a0,a1⟩:=own' h3 h5
   obtain ⟨k1,b0,b1⟩:=own' h4 h6
   exact hS.inj d d' M M' k0 k1 h1 h2 a0 b0 a1 b1 h7
 ·refine ⟨rfl,rfl,rfl,by omega,fun B hB ho=>hne B (by rintro rfl;exact ho ⟨b,L,_,hb,hk,rfl,rfl⟩),hsh,fun _ _ h=>h,fun _ _ h=> .inl h,fun _ h=>h,fun _ h _=> .inl h,?_⟩
  rintro B hlt ⟨d,M,k,h1,h2,h3,rfl⟩
  by_cases e:d=b
  ·subst e;rw [hb] at h1;cases h1;exact ⟨d,L,_,hb,hk,rfl,rfl⟩
  ·rw [get_setH_ne _ _ e] at h2;exact ⟨d,M,k,h1,h2,h3,rfl⟩
def mark (D:Nat):Deferred:={ target:= .collected D,args:=#[] }
def DF (N:Nat) (I:Nat→Prop) (w:World) (ds:List Deferred):Prop:=∃ Ds:List Nat,Ds.Nodup∧ds=Ds.map mark∧∀ D∈Ds,N≤D∧w.heap[D]? =some (.deferred (some []))∧¬I D
theorem own_not_deferred (hS:SR φ I H w) {B:Nat} {x:Option (List Deferred)} (h:w.heap[B]? =some (.deferred x)):¬Own φ H B:=by
 rintro ⟨b,L,k,h1,h2,h3,rfl⟩
 have:=hS.blk b L k h1 h2
 cases k with
 |row sz m es=>obtain ⟨c,t,q,_⟩:=this.2.1;rw [h] at q;cases q
 |loop l=>obtain ⟨_,r,q,_⟩:=this;rw [h] at q;cases q
 |mp l=>obtain ⟨_,r,clock,q,_⟩:=this;rw [h] at q;cases q
theorem DF.step {N:Nat} {ds:List Deferred} (h:DF N I w ds) (hS:SR φ I H w) (hst:Step φ I H w φ' I' H' w'):DF N I' w' ds:=by
 obtain ⟨Ds,h1,h2,h3⟩:=h
 refine ⟨Ds,h1,h2,fun D hD=> ?_⟩
 obtain ⟨q1,hh,q2⟩:=h3 D hD
 have hlt:=(Array.getElem?_eq_some_iff.1 hh).1
 refine ⟨q1,?_,fun hI=>(hst.inew D hI hlt).elim q2 (own_not_deferred hS hh)⟩
 rw [hst.same D hlt (own_not_deferred hS hh)];exact hh
def X.out:X→Exit
 | .normal=> .normal
 | .exit id=> .exit id
 | .goto l=> .goto l
 | .ret=> .ret
def noRF:LC→Bool
 | .seq a b=>noRF a&&noRF b
 | .cond _ a b=>noRF a&&noRF b
 | .block _ c=>noRF c
 | .loop c=>noRF c
 | .rangeFunc .. =>false
 |_=>true
theorem least {p:Nat→Prop}:∀ k,p k→∃ k,p k∧∀ j,p j→k≤j:=by
 intro k
 induction k using Nat.strongRecOn with
 |ind k ih=>
  intro hk
  by_cases h:∃ j,j<k∧p j
  ·obtain ⟨j,hj,hp⟩:=h;exact ih j hj hp
  ·exact ⟨k,hk,fun j hj=>Nat.le_of_not_lt fun hlt=>h ⟨j,hlt,hj⟩⟩
theorem wpIn_loop_n {F:Fence} {n:Nat} {c:Code} {Q:Exit→Act→World→Prop} (R:Nat→Act→World→Prop)
 (round:∀ j a w,R j a w→∃ j',j'<j∧c.wpIn F n P (Exit.then (R j') Q) a w) {j:Nat} {a:Act} {w:World} (h:R j a w):(Code.loop c).wpIn F n P Q a w:=by
 classical
 let m:Act→World→Nat:=fun a w=>if h:∃ k,R k a w∧∀ j,R j a w→k≤j then Classical.choose h else 0
 have hm:∀ a w,(∃ k,R k a w)→R (m a w) a w∧∀ j,R j a w→m a w≤j:=by
  rintro a w ⟨k,hk⟩
  have hex:=least (p:=fun k=>R k a w) k hk
  have:m a w=Classical.choose hex:=by simp only [m];rw [dif_pos hex]
  rw [this];exact Classical.choose_spec hex
 refine wpIn_loop (fun a w=>∃ k,R k a w) m ⟨j,h⟩ ?_
 intro a w hk
 obtain ⟨h1,_⟩:=hm a w hk
 obtain ⟨j',hj',hc⟩:=round _ a w h1
 refine wpIn_mono hc ?_
 intro e a' w' hq
 cases e with
 |normal=>exact ⟨⟨j',hq⟩,Nat.lt_of_le_of_lt ((hm a' w' ⟨j',hq⟩).2 j' hq) hj'⟩
 |_=>exact hq
structure Within (N:Nat) (φ₀:Nat→Option Loc) (I₀:Nat→Prop) (H₀:Hp) (w₀:World) (φ:Nat→Option Loc) (I:Nat→Prop) (T:List V) (H:Hp) (w:World) (a:Act):Prop where
 t:VRs φ I w T a.tmps
 s:SR φ I H w
 st:Step φ₀ I₀ H₀ w₀ φ I H w
 d:DF N I w a.defers
 n:N≤w.heap.size
def At (N:Nat) (φ₀:Nat→Option Loc) (I₀:Nat→Prop) (H₀:Hp) (w₀:World) (Q:List V→Hp→Prop) (a:Act) (w:World):Prop:=
 ∃ φ I T H,Within N φ₀ I₀ H₀ w₀ φ I T H w a∧Q T H
def AtX (N:Nat) (φ₀:Nat→Option Loc) (I₀:Nat→Prop) (H₀:Hp) (w₀:World) (Q:Post) (e:Exit) (a:Act) (w:World):Prop:=
 ∃ x,e=X.out x∧At N φ₀ I₀ H₀ w₀ (Q x) a w
theorem AtX.mk {N:Nat} {φ₀:Nat→Option Loc} {I₀:Nat→Prop} {H₀:Hp} {w₀:World} {Q:Post} {a:Act} (x:X) (h:At N φ₀ I₀ H₀ w₀ (Q x) a w):AtX N φ₀ I₀ H₀ w₀ Q x.out a w:=⟨x,rfl,h⟩
theorem jump_code {c:Code} {x:X} (h:jumpX (some c)=some x) {F:Fence} {n:Nat} {Q:Exit→Act→World→Prop} {a:Act} (hq:Q x.out a w):c.wpIn F n P Q a w:=by
 cases c<;>simp [jumpX] at h<;>subst h
 ·exact wpIn_exit hq
 ·exact wpIn_goto hq
 ·exact wpIn_ret hq
theorem ops_sound (hm:P.follows .mixedOrders=true) {ro:Option Nat} {n id N:Nat} {ops:Array Oper} {draw:Bool} {lc:LC} {φ₀:Nat→Option Loc} {I₀:Nat→Prop} {H₀:Hp} {w₀:World} {T:List V} {a:Act} {Q:Post}
 (hl:lite (.region id ops draw)=some lc) (hW:Within N φ₀ I₀ H₀ w₀ φ I T H w a) (h:wpL P lc T H Q):
 (Code.region id ops draw).wpIn (FR ro) n P (AtX N φ₀ I₀ H₀ w₀ Q) a w:=by
 have fin:∀ T' H' φ' I' w' a',Q .normal T' H'→VRs φ' I' w' T' a'.tmps→SR φ' I' H' w'→Step φ I H w φ' I' H' w'→a'.defers=a.defers→AtX N φ₀ I₀ H₀ w₀ Q .normal a' w':=by
  intro T' H' φ' I' w' a' hq ht hs hst hd
  refine ⟨.normal,rfl,φ',I',T',H',⟨ht,hs,hW.st.trans hst,?_,Nat.le_trans hW.n hst.size⟩,hq⟩
  rw [hd];exact hW.d.step hW.s hst
 unfold lite at hl
 split at hl
 ·cases hl
 ·rename_i hc
  cases draw with
  |false=>
   obtain ⟨l',h1,h2⟩:=Option.map_eq_some_iff.1 hl
   subst h2
   exact region_sound (bs:=#[]) (by simpa using h1) h hW.t hW.s fin
  |true=>
   obtain ⟨l',h1,h2⟩:=Option.map_eq_some_iff.1 hl
   subst h2
   simp only [if_true] at h1
   exact draw_sound hm (by simpa using hc) h1 (tailFrom_le _ _) (fun i j h1 h2 h3=>tailFrom_ok _ _ i j h1 h2 h3) h hW.t hW.s fin
end Go.Av
namespace Go.Av
open Go.RowKit
variable {P:Program} {φ φ' φ'':Nat→Option Loc} {I I' I'' J:Nat→Prop} {H H' H'':Hp} {w w' w'':World}
theorem rangeFunc_sound {n N:Nat} {f:Operand} {ps:Array Tmp} {assign body:Code} {φ₀:Nat→Option Loc} {I₀:Nat→Prop} {H₀:Hp} {w₀:World} {T:List V} {a:Act} {Q:Post} (hf:goodOp f=true)
 (hW:Within N φ₀ I₀ H₀ w₀ φ I T H w a) (h:wpL P (.rangeFunc f ps assign body) T H Q):
 (Code.rangeFunc f ps assign body).wpIn (FR none) n P (AtX N φ₀ I₀ H₀ w₀ Q) a w:=by
 unfold wpL at h
 split at h
 ·rename_i g first cap hg
  have hfv:=ev_VR hW.t f hf
  rw [hg] at hfv
  obtain ⟨xs,ys,hy,hx1,hx2⟩:=clo_inv hfv
  refine wpIn_rangeFunc ?_
  intro fn hfn
  obtain ⟨hs1,hst1⟩:=hW.s.below (I':=I) (((Below.refl w.heap.size w).alloc (Nat.le_refl _) (.deferred (some [])))) (fun _ h=>h) (fun _ h=> .inl h)
  have hT1:=hW.t.step hW.s hst1
  have hD1:=hW.d.step hW.s hst1
  have hdf1:(w.alloc (.deferred (some []))).heap[w.heap.size]? =some (.deferred (some [])):=World.alloc_heap_new w _
  generalize hw1:w.alloc (.deferred (some []))=w1 at*
  have hsz1:w1.heap.size=w.heap.size+1:=by rw [←hw1,World.size_alloc]
  generalize hrec:({ state:= .ready,pending:=none,fn,tmps:=a.tmps,params:=ps,assign,body,defers:=w.heap.size }:Loop)=rec
  have hlr:LpR φ I w1 ⟨.ready,none,T,ps,assign,body⟩ rec:=by rw [←hrec];exact ⟨rfl,rfl,hT1,rfl,rfl,rfl⟩
  obtain ⟨hs2,hst2⟩:=hs1.allocLoop hlr
  have hD2:=hD1.step hs1 hst2
  have hT2:=hT1.step hs1 hst2
  have hdf2:(w1.alloc (.loop rec)).heap[w.heap.size]? =some (.deferred (some [])):=by rw [Below.heap_alloc w1 _ w.heap.size (by omega)];exact hdf1
  have hdf2':DF N I (w1.alloc (.loop rec)) (mark w.heap.size::a.defers):=by
   obtain ⟨Ds,q1,q2,q3⟩:=hD2
   refine ⟨w.heap.size::Ds,List.nodup_cons.2 ⟨fun hmem=> ?_,q1⟩,by rw [q2];rfl,?_⟩
   ·obtain ⟨Ds',p1,p2,p3⟩:=hW.d
    have:Ds=Ds':=by
     have e:Ds.map mark=Ds'.map mark:=by rw [←q2,p2]
     have inj:∀ (l l':List Nat),l.map mark=l'.map mark→l=l':=by
      intro l
      induction l with
      |nil=>intro l' h;cases l' with
       |nil=>rfl
       |cons _ _=>simp at h
      |cons x l ih=>intro l' h;cases l' with
       |nil=>simp at h
       |cons y l'=>
        simp only [List.map_cons,List.cons.injEq] at h
        have hxy:x=y:=by have:=h.1;simp [mark] at this;exact this
        rw [hxy,ih l' h.2]
     exact inj _ _ e
    rw [this] at hmem
    have:=(Array.getElem?_eq_some_iff.1 (p3 _ hmem).2.1).1
    exact Nat.lt_irrefl _ this
   ·intro D hD
    rcases List.mem_cons.1 hD with rfl|hD
    ·exact ⟨hW.n,hdf2,fun h=>absurd (hW.s.imm _ h) (Nat.lt_irrefl _)⟩
    ·exact q3 D hD
  rw [setH_len] at hs2 hst2
  generalize hw2:w1.alloc (.loop rec)=w2 at*
  generalize hφ2:phiSet φ H.length ⟨w1.heap.size,0,0⟩=φ2 at*
  have hb2:φ2 H.length=some ⟨w1.heap.size,0,0⟩:=by rw [←hφ2];exact phiSet_same ..
  have hx1':VRs φ2 I w2 first xs:=(hx1.step hW.s hst1).step hs1 hst2
  have hx2':VRs φ2 I w2 cap ys:=(hx2.step hW.s hst1).step hs1 hst2
  have hyl:VRs φ2 I w2 [.yld H.length] #[.func (.yield (w.heap.size+1)) #[] #[]]:=by
   refine ⟨rfl,fun k v x hk hx=> ?_⟩
   cases k with
   |zero=>
    simp only [List.getElem?_cons_zero,Option.some.injEq] at hk;subst hk
    simp at hx;subst hx
    have:=VR.yld (I:=I) (w:=w2) hb2
    rwa [hsz1] at this
   |succ k=>simp at hk
  obtain ⟨hc,hcalls⟩:=h φ2 I w2 (xs++#[.func (.yield (w.heap.size+1)) #[] #[]]++ys) hs2 ((hx1'.append hyl).append hx2')
  refine ⟨w.heap.size+1,[mark w.heap.size],w2,{ target:= .fn (.func g) ys,args:=xs++#[.func (.yield (w.heap.size+1)) #[] #[]] },w2,g,xs++#[.func (.yield (w.heap.size+1)) #[] #[]]++ys,w2,?_,?_,fun _ _=>trivial,?_,fun h=>by simp [FR,Fence.wide] at h,?_⟩
  ·have:=run_enterLoop_outer (P:=P) (w:=w) fn a.tmps ps assign body
   rw [hw1,hrec,hw2] at this
   exact this
  ·simp only [resolve,hy,Deferred.ofValue]
   simp [go_sem,Act.eval]
  ·simp only [invoke];exact hc w2
  ·refine (callsIn_FR hcalls).mono ?_
   rintro e w3 ⟨x,r,H3,φ3,I3,rfl,hq,hv,hs3,hst3⟩
   split at hq
   ·rename_i l hgl
    obtain ⟨hnb,hq⟩:=hq
    have hφ3:=hst3.phi _ _ hb2
    obtain ⟨_,r3,hr3,hlr3⟩:=hs3.blk _ _ _ hφ3 hgl
    have hend:=run_endLoop (P:=P) (by rw [hsz1] at hr3;exact hr3) (by rw [hlr3.1];exact hnb)
    refine ⟨r3.pending,_,hend,?_⟩
    obtain ⟨hs4,hst4⟩:=hs3.putLoop (o:=none) (r':={ r3 with state:= .exhausted }) hφ3 hgl (fun _ h=>by cases h)
    simp only [hsz1,Option.map_none] at hs4 hst4
    have hHlt:H.length<H3.length:=(hs3.dom _ _ hφ3).1
    rw [setH_lt _ hHlt] at hs4 hst4
    have hst14:=(hst1.trans hst2).trans (hst3.trans hst4)
    have hW4:Within N φ₀ I₀ H₀ w₀ φ3 I3 T (H3.set H.length none) (w3.putObj (w.heap.size+1) (.loop { r3 with state:= .exhausted })) { a with defers:=[mark w.heap.size]++a.defers }:=by
     refine ⟨(hW.t).step hW.s hst14,hs4,hW.st.trans hst14,?_,Nat.le_trans hW.n hst14.size⟩
     exact ((hdf2'.step hs2 hst3).step hs3 hst4)
    rw [←hlr3.2.1] at hq
    split at hq
    ·rename_i x hx
     cases hpe:r3.pending with
     |none=>
      rw [hpe] at hx hW4
      simp [jumpX] at hx;subst hx;exact ⟨.normal,rfl,φ3,I3,T,_,hW4,hq⟩
     |some c=>
      rw [hpe] at hx hW4
      exact jump_code hx ⟨x,rfl,φ3,I3,T,_,hW4,hq⟩
    ·exact hq.elim
   ·exact hq.elim
 ·exact h.elim
def rfOk:Code→Bool
 | .seq a b=>rfOk a&&rfOk b
 | .cond c a b=>goodOp c&&rfOk a&&rfOk b
 | .block _ c=>rfOk c
 | .loop c=>rfOk c
 | .rangeFunc f _ _ _=>goodOp f
 |_=>true
theorem code_sound (hm:P.follows .mixedOrders=true) {ro:Option Nat} {n N:Nat} {φ₀:Nat→Option Loc} {I₀:Nat→Prop} {H₀:Hp} {w₀:World}:∀ (c:Code) (lc:LC),lite c=some lc→rfOk c=true→(ro=none∨noRF lc=true)→
 ∀ {φ:Nat→Option Loc} {I:Nat→Prop} {T:List V} {H:Hp} {w:World} {a:Act} {Q:Post},Within N φ₀ I₀ H₀ w₀ φ I T H w a→wpL P lc T H Q→c.wpIn (FR ro) n P (AtX N φ₀ I₀ H₀ w₀ Q) a w:=by
 intro c
 induction c with
 |skip=>intro lc hl _ _ φ I T H w a Q hW h;cases hl;exact wpIn_skip ⟨.normal,rfl,φ,I,T,H,hW,h⟩
 |region id ops draw=>
  intro lc hl _ _ φ I T H w a Q hW h
  exact ops_sound hm hl hW h
 |seq x y ihx ihy=>
  intro lc hl hr hn φ I T H w a Q hW h
  simp only [lite] at hl
  split at hl
  ·rename_i lx ly h1 h2
   cases hl
   simp only [rfOk,Bool.and_eq_true] at hr
   have hnx:ro=none∨noRF lx=true:=hn.imp id (fun h=>by simp [noRF] at h;exact h.1)
   have hny:ro=none∨noRF ly=true:=hn.imp id (fun h=>by simp [noRF] at h;exact h.2)
   refine wpIn_seq (wpIn_mono (ihx lx h1 hr.1 hnx hW h) ?_)
   rintro e a' w' ⟨x,rfl,φ',I',T',H',hW',hq⟩
   cases x with
   |normal=>exact ihy ly h2 hr.2 hny hW' hq
   |exit id=>exact ⟨.exit id,rfl,φ',I',T',H',hW',hq⟩
   |goto id=>exact ⟨.goto id,rfl,φ',I',T',H',hW',hq⟩
   |ret=>exact ⟨.ret,rfl,φ',I',T',H',hW',hq⟩
  ·cases hl
 |cond c x y ihx ihy=>
  intro lc hl hr hn φ I T H w a Q hW h
  simp only [lite] at hl
  split at hl
  ·rename_i lx ly h1 h2
   cases hl
   simp only [rfOk,Bool.and_eq_true] at hr
   have hnx:ro=none∨noRF lx=true:=hn.imp id (fun h=>by simp [noRF] at h;exact h.1)
   have hny:ro=none∨noRF ly=true:=hn.imp id (fun h=>by simp [noRF] at h;exact h.2)
   have hc:=ev_VR hW.t c hr.1.1
   unfold wpL at h
   split at h
   ·rename_i t ht
    rw [ht] at hc
    have hcv:a.eval c= .bool t:=by generalize a.eval c=v at hc;cases hc;rfl
    exact wpIn_cond_split hcv (fun e=>ihx lx h1 hr.1.2 hnx hW (h.1 e)) (fun e=>ihy ly h2 hr.2 hny hW (h.2 e))
   ·exact h.elim
  ·cases hl
 |block id c ih=>
  intro lc hl hr hn φ I T H w a Q hW h
  simp only [lite] at hl
  obtain ⟨l,h1,h2⟩:=Option.map_eq_some_iff.1 hl
  cases h2
  refine wpIn_block (wpIn_mono (ih l h1 hr hn hW h) ?_)
  rintro e a' w' ⟨x,rfl,φ',I',T',H',hW',hq⟩
  cases x with
  |normal=>exact ⟨.normal,rfl,φ',I',T',H',hW',hq⟩
  |exit i=>
   simp only [X.out,Exit.inBlock]
   simp only at hq
   split
   ·rename_i e;rw [if_pos e] at hq;exact ⟨.normal,rfl,φ',I',T',H',hW',hq⟩
   ·rename_i e;rw [if_neg e] at hq;exact ⟨.exit i,rfl,φ',I',T',H',hW',hq⟩
  |goto id=>exact ⟨.goto id,rfl,φ',I',T',H',hW',hq⟩
  |ret=>exact ⟨.ret,rfl,φ',I',T',H',hW',hq⟩
 |loop c ih=>
  intro lc hl hr hn φ I T H w a Q hW h
  simp only [lite] at hl
  obtain ⟨l,h1,h2⟩:=Option.map_eq_some_iff.1 hl
  cases h2
  obtain ⟨k,hk⟩:∃ k,iterL (wpL P l) Q k T H:=h
  refine wpIn_loop_n (fun k a w=>∃ φ I T H,Within N φ₀ I₀ H₀ w₀ φ I T H w a∧iterL (wpL P l) Q k T H) ?_ (j:=k) ⟨φ,I,T,H,hW,hk⟩
  rintro j a w ⟨φ,I,T,H,hW,hj⟩
  cases j with
  |zero=>exact hj.elim
  |succ j=>
   refine ⟨j,Nat.lt_succ_self _,wpIn_mono (ih l h1 hr hn hW hj) ?_⟩
   rintro e a' w' ⟨x,rfl,φ',I',T',H',hW',hq⟩
   cases x with
   |normal=>exact ⟨φ',I',T',H',hW',hq⟩
   |exit id=>exact ⟨.exit id,rfl,φ',I',T',H',hW',hq⟩
   |goto id=>exact ⟨.goto id,rfl,φ',I',T',H',hW',hq⟩
   |ret=>exact ⟨.ret,rfl,φ',I',T',H',hW',hq⟩
 |rangeFunc f ps assign body _ _=>
  intro lc hl hr hn φ I T H w a Q hW h
  simp only [lite,Option.some.injEq] at hl
  subst hl
  rcases hn with rfl|hn
  ·exact rangeFunc_sound hr hW h
  ·simp [noRF] at hn
 |exit id=>intro lc hl _ _ φ I T H w a Q hW h;cases hl;exact wpIn_exit ⟨.exit id,rfl,φ,I,T,H,hW,h⟩
 |goto id=>intro lc hl _ _ φ I T H w a Q hW h;cases hl;exact wpIn_goto ⟨.goto id,rfl,φ,I,T,H,hW,h⟩
 |label id=>intro lc hl _ _ φ I T H w a Q hW h;cases hl;exact wpIn_label ⟨.normal,rfl,φ,I,T,H,hW,h⟩
 |ret=>intro lc hl _ _ φ I T H w a Q hW h;cases hl;exact wpIn_ret ⟨.ret,rfl,φ,I,T,H,hW,h⟩
 |scope c _=>intro lc hl;simp [lite] at hl
 |refuse s=>intro lc hl;simp [lite] at hl
end Go.Av
namespace Go.Av
open Go.RowKit
variable {P:Program} {φ φ' φ'':Nat→Option Loc} {I I' I'' J:Nat→Prop} {H H' H'':Hp} {w w' w'':World}
def resV (ty:TypeId→Option TyI) (T:List V) (H:Hp):ResultVar→Option V
 | .tmp t=>some (T.getD t undefV)
 | .cell a t=>evL ty T H (.load t (.tmp a))
def resVs (ty:TypeId→Option TyI) (T:List V) (H:Hp):List ResultVar→Option (List V)
 |[]=>some []
 |r::rs=>match resV ty T H r,resVs ty T H rs with
  |some v,some vs=>some (v::vs)
  |_,_=>none
def retV:List V→V
 |[v]=>v
 |vs=> .tup vs
def retP (P:Program) (rs:List ResultVar) (Q:V→Hp→Prop):Post:=fun x T H=>
 match x with
 | .normal| .ret=>match resVs (tyOf P) T H rs with
  |some vs=>Q (retV vs) H
  |none=>False
 |_=>False
theorem getD_VR {T:List V} {xs:Array Value} (h:VRs φ I w T xs) (t:Nat):VR φ I w (T.getD t undefV) (xs.getD t undef):=by
 have hl:=h.len
 rcases Nat.lt_or_ge t T.length with hlt|hge
 ·have h2:t<xs.size:=by omega
  rw [List.getD_eq_getElem?_getD,List.getElem?_eq_getElem hlt,Option.getD_some]
  have e:xs.getD t undef=xs[t]:=by simp [Array.getD,h2]
  rw [e]
  exact h.at_ t _ _ (List.getElem?_eq_getElem hlt) (Array.getElem?_eq_getElem h2)
 ·have h2:¬t<xs.size:=by omega
  rw [List.getD_eq_getElem?_getD,List.getElem?_eq_none hge]
  have e:xs.getD t undef=undef:=by simp [Array.getD,h2]
  rw [e];exact undef_VR
def resM (tmps:Array Value):ResultVar→Sem Value
 | .tmp t=>pure (tmps.getD t undef)
 | .cell a t=>do loadVar t (←asAddr (tmps.getD a undef))
theorem res_one {T:List V} {a:Act} (hT:VRs φ I w T a.tmps) (hS:SR φ I H w) {r:ResultVar} {v:V} (h:resV (tyOf P) T H r=some v):∃ x,(resM a.tmps r).run P w= .ok x w∧VR φ I w v x:=by
 cases r with
 |tmp t=>
  simp only [resV,Option.some.injEq] at h;subst h
  exact ⟨a.tmps.getD t undef,by simp [resM],getD_VR hT t⟩
 |cell d t=>
  simp only [resV] at h
  have hv:=ev_VR hT (.tmp d) rfl
  have hg0:a.eval (.tmp d)=a.tmps.getD d undef:=rfl
  unfold evL at h
  simp only at h
  split at h
  ·rename_i i b k j ht hx
   rw [hx] at hv
   obtain ⟨L,hL,hy⟩:=hv.ptr_inv
   rw [hg0] at hy
   split at h
   ·rename_i sz m es hg
    split at h
    ·rename_i e he
     obtain ⟨r1,_,_,r5,_⟩:=hS.row hL hg
     obtain ⟨x,hx1,hx2⟩:=run_read ht (e:=e) (B:=L.B) (o:=L.off+k*sz) (fun q v hq=>r5 k e q v he hq) h
     exact ⟨x,by simp [resM,hy,asAddr,r1,hx1],hx2⟩
    ·cases h
   ·cases h
  ·rename_i i e j ht hx
   rw [hx] at hv
   obtain ⟨B,o,hy,val,hI,hc1,hv1⟩:=hv.ivp_inv
   rw [hg0] at hy
   obtain ⟨x,hx1,hx2⟩:=run_read ht (e:=e) (B:=B) (o:=o) (fun q v hq=>⟨_,hc1 q v hq,(hv1 q v hq).any⟩) h
   exact ⟨x,by simp [resM,hy,asAddr,hx1],hx2⟩
  ·cases h
theorem res_run {T:List V} {a:Act} (hT:VRs φ I w T a.tmps) (hS:SR φ I H w):∀ (rs:List ResultVar) (vs:List V),resVs (tyOf P) T H rs=some vs→∃ xs:List Value,(rs.mapM (resM a.tmps)).run P w= .ok xs w∧VRs φ I w vs xs.toArray
 |[],vs,h=>by
  simp only [resVs,Option.some.injEq] at h;subst h
  exact ⟨[],by simp,VRs.nil⟩
 |r::rs,vs,h=>by
  unfold resVs at h
  split at h
  ·rename_i v vs' h1 h2
   cases h
   obtain ⟨x,hx,hv⟩:=res_one hT hS h1
   obtain ⟨xs,hxs,hvs⟩:=res_run hT hS rs vs' h2
   refine ⟨x::xs,by simp [List.mapM_cons,Sem.run_bind,hx,hxs,Result.andThen],⟨by simp [hvs.len],fun k u y hu hy=> ?_⟩⟩
   cases k with
   |zero=>simp at hu hy;subst hu;subst hy;exact hv
   |succ k=>simp at hu hy;exact hvs.at_ k u y hu (by simpa using hy)
  ·cases h
theorem results_run {fn:Func} {T:List V} {a:Act} {vs:List V} (hT:VRs φ I w T a.tmps) (hS:SR φ I H w) (h:resVs (tyOf P) T H fn.results.toList=some vs):
 ∃ x,(results fn a.tmps).run P w= .ok x w∧VR φ I w (retV vs) x:=by
 obtain ⟨xs,hxs,hvs⟩:=res_run hT hS _ _ h
 have e:results fn a.tmps=(do let vs ←fn.results.mapM (resM a.tmps);pure (if h:vs.size=1 then vs[0] else .tuple vs)):=rfl
 rw [e,Array.mapM_eq_mapM_toList]
 simp only [Sem.run_bind,map_eq_pure_bind,hxs,Result.andThen_ok,Sem.run_pure]
 refine ⟨_,rfl,?_⟩
 have hl:=hvs.len
 match vs,hvs,hl with
 |[v],hvs,hl=>
  have h1:xs.toArray.size=1:=by simpa using hl.symm
  rw [dif_pos h1]
  exact hvs.at_ 0 v _ rfl (by simp)
 |[],hvs,hl=>rw [dif_neg (by rw [←hl];simp)];exact .tup hvs.len hvs.at_
 |_::_::_,hvs,hl=>rw [dif_neg (by rw [←hl];simp)];exact .tup hvs.len hvs.at_
theorem Within.shut {N:Nat} {φ₀:Nat→Option Loc} {I₀:Nat→Prop} {H₀:Hp} {w₀:World} {T:List V} {tmps:Array Value} {D:Nat} {Ds:List Nat} (hN:N=w₀.heap.size) (hW:Within N φ₀ I₀ H₀ w₀ φ I T H w ⟨tmps,(D::Ds).map mark⟩):
 (Instr.takeDeferred D).run P w= .ok [] (w.putObj D (.deferred none))∧Within N φ₀ I₀ H₀ w₀ φ I T H (w.putObj D (.deferred none)) ⟨tmps,Ds.map mark⟩:=by
 obtain ⟨hT,hS,hst,⟨Ds',h1,h2,h3⟩,hn⟩:=hW
 have hDs:D::Ds=Ds':=by
  have inj:∀ (l l':List Nat),l.map mark=l'.map mark→l=l':=by
   intro l
   induction l with
   |nil=>intro l' h;cases l' with
    |nil=>rfl
    |cons _ _=>simp at h
   |cons x l ih=>intro l' h;cases l' with
    |nil=>simp at h
    |cons y l'=>
     simp only [List.map_cons,List.cons.injEq] at h
     have hxy:x=y:=by have:=h.1;simp [mark] at this;exact this
     rw [hxy,ih l' h.2]
  exact inj _ _ h2
 subst hDs
 obtain ⟨q1,hD,q2⟩:=h3 D (List.mem_cons_self ..)
 have hne:∀ B,B≠D→(w.putObj D (.deferred none)).heap[B]? =w.heap[B]? :=fun B h=>World.putObj_heap_other h
 have hIs:∀ B,I B→(w.putObj D (.deferred none)).heap[B]? =w.heap[B]? :=fun B hB=>hne B (by rintro rfl;exact q2 hB)
 have hsh:∀ B s,w.shape? B=some s→(w.putObj D (.deferred none)).shape? B=some s:=by
  intro B s h
  by_cases e:B=D
  ·subst e;simp [World.shape?,hD] at h
  ·rw [shape_of_block (hne B e)];exact h
 refine ⟨run_takeDeferred hD,hT.mono (fun _ _ h=>h) (fun _ h=>h) hIs hsh,?_,?_,⟨Ds,(List.nodup_cons.1 h1).2,rfl,fun E hE=> ?_⟩,by rw [World.putObj_size];exact hn⟩
 ·refine ⟨fun b L hb=>by rw [World.putObj_size];exact hS.dom b L hb,fun B hB=>by rw [World.putObj_size];exact hS.imm B hB,fun b L k hb hk=> ?_,hS.inj⟩
  have hbk:=hS.blk b L k hb hk
  refine hbk.mono (fun _ _ h=>h) (fun _ h=>h) hIs hsh (hne _ ?_) (fun h=>h)
  rintro rfl
  cases k with
  |row sz m es=>obtain ⟨c,t,q,_⟩:=hbk.2.1;rw [hD] at q;cases q
  |loop l=>obtain ⟨_,r,q,_⟩:=hbk;rw [hD] at q;cases q
  |mp l=>obtain ⟨_,r,clock,q,_⟩:=hbk;rw [hD] at q;cases q
 ·refine ⟨hst.os,hst.tape,hst.output,by rw [World.putObj_size];exact hst.size,fun B hB hO=> ?_,fun B s h=>hsh B s (hst.shape B s h),hst.phi,hst.new,hst.imm,hst.inew,hst.own⟩
  rw [hne B (by omega)];exact hst.same B hB hO
 ·obtain ⟨a1,a2,a3⟩:=h3 E (List.mem_cons_of_mem _ hE)
  refine ⟨a1,?_,a3⟩
  rw [hne E (by rintro rfl;exact (List.nodup_cons.1 h1).1 hE)];exact a2
theorem leave_sound {N:Nat} {φ₀:Nat→Option Loc} {I₀:Nat→Prop} {H₀:Hp} {w₀:World} {T:List V} {fn:Func} {vs:List V} {Q:V→Hp→Prop} (hN:N=w₀.heap.size) (hr:resVs (tyOf P) T H fn.results.toList=some vs) (hq:Q (retV vs) H) {tmps:Array Value} {n:Nat}:
 ∀ (Ds:List Nat) (w:World),Within N φ₀ I₀ H₀ w₀ φ I T H w ⟨tmps,Ds.map mark⟩→LeavesInM Fence.wide n P fn tmps (Ends φ₀ I₀ H₀ w₀ Q) (Ds.map mark) .returning w
 |[],w,hW=>by
  obtain ⟨x,hx,hv⟩:=results_run (a:=⟨tmps,_⟩) hW.t hW.s hr
  exact ⟨x,hx,x,retV vs,H,φ,I,rfl,hq,hv,hW.s,hW.st⟩
 |D::Ds,w,hW=>by
  obtain ⟨h1,h2⟩:=hW.shut (P:=P) hN
  exact ⟨by simp,.inl ⟨D,_,rfl,h1,leave_sound hN hr hq Ds _ h2⟩⟩
structure FnD (P:Program) (f:FuncId) (k:Nat) (rs:List ResultVar) (lc:LC):Prop where
 ex:∃ fn c,P.funcs[f]? =some fn∧fn.body=some c∧lite c=some lc∧rfOk c=true∧(fn.name== "runtime.NumGoroutine")=false∧fn.ntmps=k∧fn.results.toList=rs
theorem FnD.call {f:FuncId} {k:Nat} {rs:List ResultVar} {lc:LC} (h:FnD P f k rs lc) (xs:Array Value) (W:World):(callFunc f xs).run P W= .ok (.enter f xs) W:=by
 obtain ⟨fn,c,h1,h2,_,_,h5,_⟩:=h.ex
 simp [callFunc,Sem.run_bind,h1,h2]
 simpa using h5
def entryT (k:Nat) (args:List V):List V:=args++List.replicate (k-args.length) undefV
theorem SC_intro (hm:P.follows .mixedOrders=true) {f:FuncId} {k:Nat} {rs:List ResultVar} {lc:LC} (hf:FnD P f k rs lc) {args:List V} {Q:V→Hp→Prop} (h:wpL P lc (entryT k args) H (retP P rs Q)):SC P f args H Q:=by
 intro φ I w xs hS hxs
 refine ⟨hf.call xs,(callsIn_wide (n:=0)).1 ?_⟩
 ·obtain ⟨fn,c,h1,h2,h3,h4,h5,h6,h7⟩:=hf.ex
  refine callsIn_of_wp_marks h1 h2 trivial ?_
  have hW:Within w.heap.size φ I H w φ I (entryT k args) H w ⟨xs++Array.replicate (fn.ntmps-xs.size) undef,[]⟩:=by
   refine ⟨⟨?_,fun i v x hv hx=> ?_⟩,hS,Step.refl,⟨[],List.nodup_nil,rfl,by simp⟩,Nat.le_refl _⟩
   ·simp [entryT,hxs.len,h6]
   ·simp only [entryT] at hv
    rw [List.getElem?_append] at hv
    rw [Array.getElem?_append] at hx
    rw [hxs.len] at hv
    split at hv
    ·rename_i hlt;rw [if_pos hlt] at hx;exact hxs.at_ i v x hv hx
    ·rename_i hlt;rw [if_neg hlt] at hx
     rw [List.getElem?_replicate] at hv
     split at hv
     ·cases hv
      rw [Array.getElem?_replicate] at hx
      split at hx
      ·cases hx;exact undef_VR
      ·cases hx
     ·cases hv
  have:=code_sound hm (ro:=none) (n:=0) c lc h3 h4 (.inl rfl) hW h
  refine wpIn_mono this ?_
  rintro e a' w' ⟨x,rfl,φ',I',T',H',hW',hq⟩
  have fin:(∃ vs,resVs (tyOf P) T' H' fn.results.toList=some vs∧Q (retV vs) H')→LeavesInM Fence.wide 0 P fn a'.tmps (Ends φ I H w Q) a'.defers .returning w':=by
   rintro ⟨vs,hv,hq⟩
   obtain ⟨Ds,q1,q2,q3⟩:=hW'.d
   have e:a'=⟨a'.tmps,Ds.map mark⟩:=by rw [←q2]
   rw [q2]
   exact leave_sound rfl hv hq Ds w' (by rw [e] at hW';exact hW')
  unfold retP at hq
  rw [h7] at fin
  cases x with
  |normal=>
   simp only at hq
   split at hq
   ·rename_i vs hv;exact fin ⟨vs,hv,hq⟩
   ·exact hq.elim
  |ret=>
   simp only at hq
   split at hq
   ·rename_i vs hv;exact fin ⟨vs,hv,hq⟩
   ·exact hq.elim
  |exit id=>exact hq.elim
  |goto l=>exact hq.elim
theorem PC_of_SC {f:FuncId} {args:List V} {r:V} (h:SC P f args [] fun v H=>view H 9 v=some r):PC P f args r:=by
 intro I w xs hI hxs
 have hS:SR (fun _=>none) I [] w:=⟨fun _ _ h=>(by cases h),hI,fun _ _ _ h=>(by cases h),fun _ _ _ _ _ _ h=>(by cases h)⟩
 obtain ⟨h1,h2⟩:=h _ I w xs hS hxs
 refine ⟨h1,h2.mono ?_⟩
 rintro e w' ⟨x,v,H',φ',I',rfl,hq,hv,hS',hst⟩
 have nown:∀ B,¬Own (fun _=>none) [] B:=by rintro B ⟨b,L,k,h,_⟩;cases h
 refine ⟨x,rfl,?_,⟨hst.os,hst.tape,hst.output,hst.size,fun B hB=>hst.same B hB (nown B)⟩⟩
 refine view_VR (fun B hB=> ?_) hS' 9 v r x hq hv (.inr fun b L k hb _=> ?_)
 ·rcases Nat.lt_or_ge B w.heap.size with hlt|hge
  ·exact .inl ((hst.inew B hB hlt).elim id (fun h=>(nown B h).elim))
  ·exact .inr ⟨hge,hS'.imm B hB⟩
 ·right
  refine ⟨?_,(hS'.dom b L hb).2⟩
  rcases hst.new b L hb with h|h|h
  ·cases h
  ·exact h
  ·exact (nown _ h).elim
theorem PC_intro (hm:P.follows .mixedOrders=true) {f:FuncId} {k:Nat} {rs:List ResultVar} {lc:LC} (hf:FnD P f k rs lc) {args:List V} {r:V} (h:wpL P lc (entryT k args) [] (retP P rs fun v H=>view H 9 v=some r)):PC P f args r:=
 PC_of_SC (SC_intro hm hf h)
end Go.Av
namespace Go.Av
open Go.RowKit
variable {P:Program} {φ φ' φ'':Nat→Option Loc} {I I' I'' J:Nat→Prop} {H H' H'':Hp} {w w' w'':World}
def yieldT (T:List V) (ps:List Tmp) (args:List V):List V:=(ps.zip args).foldl (fun T p=>T.set p.1 p.2) T
theorem yieldT_VR:∀ (ps:List Tmp) (args:List V) (xs:List Value) {T:List V} {ts:Array Value},VRs φ I w T ts→VRs φ I w args xs.toArray→VRs φ I w (yieldT T ps args) ((ps.zip xs).foldl (fun tmps p=>tmps.setIfInBounds p.1 p.2) ts)
 |[],args,xs,T,ts,h,_=>by simpa [yieldT] using h
 |p::ps,args,xs,T,ts,h,hx=>by
  cases args with
  |nil=>
   have:xs=[]:=by have:=hx.len;simpa using this.symm
   subst this
   simpa [yieldT] using h
  |cons a args=>
   cases xs with
   |nil=>have:=hx.len;simp at this
   |cons x xs=>
    have h0:VR φ I w a x:=hx.at_ 0 a x rfl (by simp)
    have ht:VRs φ I w args xs.toArray:=⟨by have:=hx.len;simpa using this,fun k v y hv hy=>hx.at_ (k+1) v y (by simpa using hv) (by simpa using hy)⟩
    simp only [yieldT,List.zip_cons_cons,List.foldl_cons]
    have:=VRs.putT (a:=⟨ts,[]⟩) (d:=some p) h h0
    exact yieldT_VR ps args xs this ht
def isN:X→Bool
 | .normal=>true
 |_=>false
def roundQ (b:Nat) (Q:V→Hp→Prop):Post:=fun x _ H3=>match get H3 b with
 |some (.loop l3)=>Q (.prim (.bool (isN x))) (H3.set b (some (.loop { l3 with st:=if isN x then .ready else .done,pend:=xJump x })))
 |_=>False
def beginQ (P:Program) (b:Nat) (lb:LC) (Q:V→Hp→Prop):Post:=fun x T2 H2=>match x,get H2 b with
 | .normal,some (.loop l2)=>l2.st= .ready∧wpL P lb T2 (H2.set b (some (.loop { l2 with st:= .busy }))) (roundQ b Q)
 |_,_=>False
theorem YC_intro (hm:P.follows .mixedOrders=true) {b:Nat} {args:List V} {l:Lp} {la lb:LC} {Q:V→Hp→Prop} (hg:get H b=some (.loop l)) (hps:args.length=l.params.size)
 (h1:lite l.assign=some la) (h2:lite l.body=some lb) (h3:rfOk l.assign=true) (h4:rfOk l.body=true) (h5:noRF la=true) (h6:noRF lb=true)
 (h:wpL P la (yieldT l.T l.params.toList args) H (beginQ P b lb Q)):YC P b args H Q:=by
 intro φ I w xs L hL hS hxs
 obtain ⟨_,r,hr,hlr⟩:=hS.blk b L _ hL hg
 have hsz:xs.size=r.params.size:=by rw [hlr.2.2.2.1,←hps,hxs.len]
 refine ⟨_,_,_,_,run_yield hr hsz,?_⟩
 refine roundIn_of_wpIn trivial ?_
 rw [hlr.2.2.2.2.1,hlr.2.2.2.2.2]
 have hW:Within 0 φ I H w φ I (yieldT l.T l.params.toList args) H w ⟨(r.params.zip xs).foldl (fun tmps (t,a)=>tmps.setIfInBounds t a) r.tmps,[]⟩:=by
  refine ⟨?_,hS,Step.refl,⟨[],List.nodup_nil,rfl,by simp⟩,Nat.zero_le _⟩
  have:=yieldT_VR l.params.toList args xs.toList hlr.2.2.1 (by simpa using hxs)
  try simp only
  rw [hlr.2.2.2.1,←Array.foldl_toList,Array.toList_zip]
  exact this
 have hA:=code_sound hm (ro:=some L.B) (n:=0) l.assign la h1 h3 (.inr h5) hW h
 refine wpIn_mono (F:=Fw.inRound L.B) hA ?_
 rintro e a1 w1 ⟨x,rfl,φ1,I1,T1,H1,hW1,hq⟩
 unfold beginQ at hq
 split at hq
 ·rename_i l2 hg1
  obtain ⟨hst,hq⟩:=hq
  have hL1:φ1 b=some L:=hW1.st.phi b L hL
  obtain ⟨_,r1,hr1,hlr1⟩:=hW1.s.blk b L _ hL1 hg1
  have hbegin:=run_beginRound (P:=P) hr1 (by rw [hlr1.1];exact hst)
  refine ⟨_,hbegin,?_⟩
  obtain ⟨hs2,hst2⟩:=hW1.s.putLoop (o:=some { l2 with st:= .busy }) (r':={ r1 with state:= .busy }) hL1 hg1 (fun l' he=>by
   cases he;exact ⟨rfl,hlr1.2.1,hlr1.2.2.1,hlr1.2.2.2.1,hlr1.2.2.2.2.1,hlr1.2.2.2.2.2⟩)
  simp only [Option.map_some] at hs2 hst2
  have hbl:=(hW1.s.dom b L hL1).1
  rw [setH_lt _ hbl] at hs2 hst2
  have hW2:Within 0 φ I H w φ1 I1 T1 (H1.set b (some (.loop { l2 with st:= .busy }))) (w1.putObj L.B (.loop { r1 with state:= .busy })) a1:=
   ⟨hW1.t.step hW1.s hst2,hs2,hW1.st.trans hst2,hW1.d.step hW1.s hst2,Nat.zero_le _⟩
  have hB:=code_sound hm (ro:=some L.B) (n:=0) l.body lb h2 h4 (.inr h6) hW2 hq
  refine wpIn_mono (F:=Fw.inRound L.B) hB ?_
  rintro e a3 w3 ⟨x,rfl,φ3,I3,T3,H3,hW3,hq3⟩
  unfold roundQ at hq3
  split at hq3
  ·rename_i l3 hg3
   have hL3:φ3 b=some L:=hW3.st.phi b L hL
   obtain ⟨_,r3,hr3,hlr3⟩:=hW3.s.blk b L _ hL3 hg3
   have hend:=run_endRound (P:=P) (xJump x) hr3
   have hn:(xJump x).isNone=isN x:=by cases x<;>rfl
   rw [hn] at hend
   obtain ⟨hs4,hst4⟩:=hW3.s.putLoop (o:=some { l3 with st:=if isN x then .ready else .done,pend:=xJump x }) (r':={ r3 with state:=if isN x then .ready else .done,pending:=xJump x }) hL3 hg3 (fun l' he=>by
    cases he;exact ⟨rfl,rfl,hlr3.2.2.1,hlr3.2.2.2.1,hlr3.2.2.2.2.1,hlr3.2.2.2.2.2⟩)
   simp only [Option.map_some] at hs4 hst4
   have hbl3:=(hW3.s.dom b L hL3).1
   rw [setH_lt _ hbl3] at hs4 hst4
   have fin:∃ v w',(Instr.endRound L.B (xJump x)).run P w3= .ok v w'∧Ends φ I H w Q (.returned v) w':=
    ⟨_,_,hend,_,_,_,φ3,I3,rfl,hq3,.prim rfl,hs4,hW3.st.trans hst4⟩
   cases x<;>exact fin
  ·exact hq3.elim
 ·exact hq.elim
end Go.Av
