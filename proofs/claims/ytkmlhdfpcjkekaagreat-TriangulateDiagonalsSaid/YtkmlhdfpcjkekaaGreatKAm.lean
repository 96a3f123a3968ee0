/- Helping texts: Am. -/
import Derived.Test.YtkmlhdfpcjkekaaGreatKAv
set_option linter.unusedSimpArgs false
set_option linter.unusedVariables false
set_option maxRecDepth 100000
set_option maxHeartbeats 16000000
namespace Go.Av
open Go.RowKit
variable {P:Program} {φ φ' φ'':Nat→Option Loc} {I I' I'':Nat→Prop} {H H' H'':Hp} {w w' w'':World}
theorem E7 {r:Nat} {es:Array MapEntry} {clock:Nat} (hb:w.heap[r]? =some (.map es clock)):(getObj r).run P w= .ok (.map es clock) w:=by
 simp [getObj,Sem.run,hb]
theorem Sl {r:Nat} {es:Array MapEntry} {clock:Nat} (o:Obj) (hb:w.heap[r]? =some (.map es clock)):(setObj r o).run P w= .ok () (w.putObj r o):=by
 simp [setObj,Sem.run,hb,World.putObj]
theorem J6 {b:Nat} {x:Value} (h:VR φ I w (.mpr b) x):∃ L,φ b=some L∧x= .map (some L.B):=by
 cases h with|mpr h=>exact ⟨_,h,rfl⟩
theorem zr {t kt et:TypeId} {i:TyI} (h:aD P t=some i) (hk:i.k= .map kt et):P.underlying t=some (.map kt et):=by
 obtain ⟨j,d,z,h1,h2,h3,h4,h5,h6,h7,h8,_⟩:=g9 h
 rw [h8] at hk
 cases d<;>simp at hk
 obtain ⟨rfl,rfl⟩:=hk;exact h2
theorem PV {t:TypeId} {i:TyI} (h:aD P t=some i):∃ z,VR φ I w (Jk i) z∧∀ W,(zeroValue t).run P W= .ok z W:=by
 have hx:∃ (j:TypeInfo) (z:Value),P.info? t=some j∧j.zero=some z∧i.zero=z.cells.toList∧i.k.zOk z=true∧∀ x∈i.zero,uQ x=true:=by
  unfold aD at h
  cases h1:P.info? t with
  |none=>simp [h1] at h
  |some j=>
   cases h2:P.underlying t with
   |none=>simp [h1,h2] at h
   |some d=>
    cases h3:j.zero with
    |none=>simp [h1,h2,h3] at h
    |some z=>
     simp only [h1,h2,h3] at h
     split at h
     ·rename_i hc
      simp only [bu] at h
      subst h
      simp only [Bool.and_eq_true,List.all_eq_true,beq_iff_eq] at hc
      exact ⟨j,z,rfl,h3,rfl,hc.2,hc.1.1.1⟩
     ·cases h
 obtain ⟨j,z,h1,h2,h3,h4,h5⟩:=hx
 refine ⟨z,?_,fun W=>by simp [zeroValue,typeInfo,h1,h2]⟩
 unfold Jk
 cases z with
 |agg xs=>
  simp only [TK.zOk] at h4
  rw [h4]
  simp only [if_true]
  have:=VRs.prims (φ:=φ) (I:=I) (w:=w) (cs:=xs.toList) (by rw [h3] at h5;exact h5)
  rw [h3]
  exact VR.agg this.len this.at_
 |tuple xs=>simp [TK.zOk] at h4
 |_=>
  simp only [TK.zOk,Bool.not_eq_true'] at h4
  rw [h4,h3]
  exact .prim (h5 _ (by rw [h3];simp [Value.cells]))
theorem QQ {n:Nat} {t:TypeId} {u v:V} {x y:Value} {c:Bool} {d:TypeDesc} (h:eqA (aD P) (n+1) t u v=some c) (hu:VR φ I w u x) (hv:VR φ I w v y) (hd:P.underlying t=some d):
 Instr.sameNow d x y=some c∨Instr.sameNow d x y=none:=by
 unfold eqA at h
 cases ht:aD P t with
 |none=>simp [ht] at h
 |some i=>
  simp only [ht] at h
  split at h
  ·rename_i hk
   obtain ⟨rfl,_⟩:=hu.prim_inv;obtain ⟨rfl,_⟩:=hv.prim_inv
   rw [zY ht hk] at hd;cases hd
   exact .inl (by simpa [Instr.sameNow] using h)
  ·rename_i hk
   obtain ⟨rfl,_⟩:=hu.prim_inv;obtain ⟨rfl,_⟩:=hv.prim_inv
   rw [uk ht hk] at hd;cases hd
   split at h
   ·rename_i e;subst e
    exact .inl (by simpa [Instr.sameNow] using h)
   ·cases h
  ·rename_i hk
   obtain ⟨rfl,_⟩:=hu.prim_inv;obtain ⟨rfl,_⟩:=hv.prim_inv
   rw [qt ht hk] at hd;cases hd
   exact .inl (by rw [←beq_toListBytes] at h;simpa [Instr.sameNow] using h)
  ·rename_i hk
   obtain ⟨rfl,_⟩:=hv.prim_inv
   exact .inr (by cases d<;>cases x<;>rfl)
  ·rename_i hk
   obtain ⟨rfl,_⟩:=hv.prim_inv
   exact .inr (by cases d<;>cases x<;>rfl)
  ·obtain ⟨rfl,_⟩:=hv.prim_inv
   exact .inr (by cases d<;>cases x<;>rfl)
  ·obtain ⟨x,rfl,hxs⟩:=hu.agg_inv
   exact .inr (by cases d<;>rfl)
  ·cases h
theorem sF:∀ (n:Nat) (t:TypeId) (u v:V) (x:Value) (m:Nat) (b:Bool),eqA (aD P) n t u v=some true→VR φ I w u x→n≤m→∀ W,(Instr.checkKey b m t x).run P W= .ok () W:=by
 intro n
 induction n with
 |zero=>intro t u v x m b h;simp [eqA] at h
 |succ n ih=>
  intro t u v x m b h hu hm W
  obtain ⟨m,rfl⟩:∃ e,m=e+1:=⟨m-1,by omega⟩
  unfold eqA at h
  cases ht:aD P t with
  |none=>simp [ht] at h
  |some i=>
   simp only [ht] at h
   unfold Instr.checkKey
   split at h
   ·rename_i hk
    obtain ⟨rfl,_⟩:=hu.prim_inv
    simp [run_underlying (zY ht hk)]
   ·rename_i hk
    obtain ⟨rfl,_⟩:=hu.prim_inv
    simp [run_underlying (uk ht hk)]
   ·rename_i hk
    obtain ⟨rfl,_⟩:=hu.prim_inv
    simp [run_underlying (qt ht hk)]
   ·rename_i hk;simp [run_underlying (gD ht hk)]
   ·rename_i hk;simp [run_underlying (gD ht hk)]
   ·rename_i hk;simp [run_underlying (gD ht hk)]
   ·rename_i fs xs ys hk
    split at h
    ·cases h
    ·obtain ⟨x,rfl,hxs⟩:=hu.agg_inv
     obtain ⟨gs,hgs,rfl⟩:=p7 ht hk
     simp only [Sem.run_bind,run_underlying hgs,aQ]
     rw [←Array.forIn_toList]
     clear hgs hk
     generalize gs.toList=gl at h
     clear gs
     induction gl with
     |nil=>simp
     |cons f fl ihf=>
      simp only [aY,eqA.eqFs] at h
      split at h
      ·cases h
      ·rename_i hnm
       cases htf:aD P f.type with
       |none=>simp [htf] at h
       |some fi=>
        simp only [htf] at h
        cases hra:eS fi xs f.offset with
        |none=>simp [hra] at h
        |some a=>
         cases hrb:eS fi ys f.offset with
         |none=>simp [hra,hrb] at h
         |some c=>
          simp only [hra,hrb] at h
          obtain ⟨xa,hxa,hva⟩:=m7 htf hxs hra W
          cases hc:eqA (aD P) n f.type a c with
          |none=>simp [hc] at h
          |some cc=>
           cases cc with
           |false=>simp [hc] at h
           |true=>
            simp only [hc] at h
            have hrun:=ih f.type a c xa m b hc hva (by omega) W
            have hrest:=ihf h
            simp only [Sem.run_bind,Sem.run_map,Sem.run_pure] at hrest
            simp only [List.forIn_cons,hnm,ne_eq,not_false_eq_true,if_true,if_false,Sem.run_bind,hxa,aQ,hrun,Sem.run_pure,Sem.run_ite]
            simpa using hrest
   ·cases h
theorem LY {kt:TypeId} {d:TypeDesc} {u:V} {x:Value} (hd:P.underlying kt=some d) (hu:VR φ I w u x):∀ (es:List (V×V)) (l:List MapEntry) (i:Nat) (r:Option (Nat×V)),
 es.length=l.length→(∀ (i:Nat) (p:V×V) (e:MapEntry),es[i]? =some p→l[i]? =some e→VR φ I w p.1 e.key∧VR φ I w p.2 e.val)→sL (aD P) kt u es i=some r→
 (r=none∧(∀ W,(Instr.findAsking kt x l i).run P W= .ok none W)∧(Instr.findNow d x l i=some none∨Instr.findNow d x l i=none))∨
 ∃ j p e,r=some (i+j,p.2)∧es[j]? =some p∧l[j]? =some e∧(∀ W,(Instr.findAsking kt x l i).run P W= .ok (some (i+j,e.val)) W)∧(Instr.findNow d x l i=some (some (i+j,e.val))∨Instr.findNow d x l i=none):=by
 intro es
 induction es with
 |nil=>
  intro l i r hl _ h
  cases l with
  |nil=>simp only [sL,bu] at h;subst h;exact .inl ⟨rfl,fun W=>by simp [Instr.findAsking],.inl rfl⟩
  |cons _ _=>simp at hl
 |cons p es ih=>
  intro l i r hl hp h
  cases l with
  |nil=>simp at hl
  |cons e l=>
   have h0:=hp 0 p e rfl rfl
   unfold sL at h
   cases hc:eqA (aD P) 9 kt u p.1 with
   |none=>simp [hc] at h
   |some c=>
    have hrun:=fun W=>Kk 9 kt u p.1 x e.key c 10000 hc hu h0.1 (by omega) W
    have hnow:=QQ hc hu h0.1 hd
    cases c with
    |true=>
     simp only [hc,bu] at h
     subst h
     refine .inr ⟨0,p,e,rfl,rfl,rfl,fun W=>by simp [Instr.findAsking,Op.equal,Op.maxDepth,hrun],?_⟩
     rcases hnow with q|q
     ·exact .inl (by simp [Instr.findNow,q])
     ·exact .inr (by simp [Instr.findNow,q])
    |false=>
     simp only [hc] at h
     rcases ih l (i+1) r (by simpa using hl) (fun k p' e' h1 h2=>hp (k+1) p' e' (by simpa using h1) (by simpa using h2)) h with ⟨q1,q2,q3⟩|⟨j,p',e',q1,q2,q3,q4,q5⟩
     ·refine .inl ⟨q1,fun W=>by simp [Instr.findAsking,Op.equal,Op.maxDepth,hrun,q2],?_⟩
      rcases hnow with q|q
      ·simpa [Instr.findNow,q] using q3
      ·exact .inr (by simp [Instr.findNow,q])
     ·refine .inr ⟨j+1,p',e',by rw [q1,Nat.add_right_comm,Nat.add_assoc],by simpa using q2,by simpa using q3,fun W=>by simp [Instr.findAsking,Op.equal,Op.maxDepth,hrun,q4];omega,?_⟩
      rcases hnow with q|q
      ·have e3:i+1+j=i+(j+1):=by omega
       rw [e3] at q5
       simpa [Instr.findNow,q] using q5
      ·exact .inr (by simp [Instr.findNow,q])
theorem tQ {kt:TypeId} {d:TypeDesc} {u:V} {x:Value} {es:List (V×V)} {ents:Array MapEntry} {r:Option (Nat×V)} (hd:P.underlying kt=some d) (hu:VR φ I w u x) (hm:MpR φ I w es ents) (h:sL (aD P) kt u es 0=some r):
 (r=none∧∀ W,(Instr.findKey kt x ents.toList).run P W= .ok none W)∨
 ∃ j p e,r=some (j,p.2)∧es[j]? =some p∧ents[j]? =some e∧∀ W,(Instr.findKey kt x ents.toList).run P W= .ok (some (j,e.val)) W:=by
 rcases LY hd hu es ents.toList 0 r (by simpa using hm.1) (fun i p e h1 h2=>hm.2 i p e h1 (by simpa using h2)) h with ⟨q1,q2,q3⟩|⟨j,p,e,q1,q2,q3,q4,q5⟩
 ·refine .inl ⟨q1,fun W=> ?_⟩
  unfold Instr.findKey
  simp only [Sem.run_bind,run_underlying hd,aQ]
  rcases q3 with q|q
  ·simp [q]
  ·simp [q,q2]
 ·refine .inr ⟨j,p,e,by rw [q1,aX],q2,by simpa using q3,fun W=> ?_⟩
  rw [aX] at q5
  unfold Instr.findKey
  simp only [Sem.run_bind,run_underlying hd,aQ]
  rcases q5 with q|q
  ·simp [q]
  ·simp [q,q4]
theorem E9 {n:Nat} {t:TypeId} {u v:V} {c:Bool} (h:eqA (aD P) n t u v=some c):∃ d,P.underlying t=some d:=by
 cases n with
 |zero=>simp [eqA] at h
 |succ n=>
  unfold eqA at h
  cases ht:aD P t with
  |none=>simp [ht] at h
  |some i=>obtain ⟨j,d,z,h1,h2,_⟩:=g9 ht;exact ⟨d,h2⟩
theorem Ir {t kt et:TypeId} {i:TyI} {u v:V} {x:Value} {B:Nat} {ok:Bool} {es:List (V×V)} {ents:Array MapEntry} {clock:Nat} (ht:aD P t=some i) (hk:i.k= .map kt et)
 (h:GK (aD P) kt et u ok es=some v) (hu:VR φ I w u x) (hb:w.heap[B]? =some (.map ents clock)) (hm:MpR φ I w es ents):
 ∃ y,(Instr.lookup t (.map (some B)) x ok).run P w= .ok y w∧VR φ I w v y:=by
 unfold GK at h
 have two:∀ {a:V} {b:Value} (c:Bool),VR φ I w a b→VR φ I w (.tup [a,.prim (.bool c)]) (.tuple #[b,.bool c]):=by
  intro a b c hab
  refine .tup rfl fun k v x h1 h2=> ?_
  match k with
  |0=>simp at h1 h2;subst h1;subst h2;exact hab
  |1=>simp at h1 h2;subst h1;subst h2;exact .prim rfl
  |k+2=>simp at h1
 split at h
 ·rename_i j p hei hq hf
  obtain ⟨d,hd⟩:=E9 hq
  have hck:=sF 9 kt u u x 10000 ents.isEmpty hq hu (by omega) w
  rcases tQ hd hu hm hf with ⟨q1,_⟩|⟨j',p',e,q1,q2,q3,q4⟩
  ·cases q1
  ·simp only [bu,Prod.mk.injEq] at q1
   obtain ⟨rfl,rfl⟩:=q1
   have hv:=(hm.2 j p' e q2 q3).2
   refine ⟨if ok then .tuple #[e.val,.bool true] else e.val,?_,?_⟩
   ·unfold Instr.lookup
    simp [run_underlying (zr ht hk),E7 hb,hck,q4]
   ·simp only [bu] at h
    subst h
    cases ok
    ·exact hv
    ·exact two true hv
 ·rename_i ei hei hq hf
  obtain ⟨d,hd⟩:=E9 hq
  have hck:=sF 9 kt u u x 10000 ents.isEmpty hq hu (by omega) w
  obtain ⟨z,hz,hzr⟩:=PV (φ:=φ) (I:=I) (w:=w) hei
  rcases tQ hd hu hm hf with ⟨_,q⟩|⟨j',p',e,q1,_⟩
  ·refine ⟨if ok then .tuple #[z,.bool false] else z,?_,?_⟩
   ·unfold Instr.lookup
    simp [run_underlying (zr ht hk),E7 hb,hck,q,hzr]
   ·simp only [bu] at h
    subst h
    cases ok
    ·exact hz
    ·exact two false hz
  ·cases q1
 ·cases h
theorem Lu {u:V} {x y:Value} (h:yv u=true) (hx:VR φ I w u x) (hy:VR φ I w u y):Instr.sameBits 10000 x y=true:=by
 have one:∀ (n:Nat) (u:V) (x y:Value),(match u with| .prim (.bool _)| .prim (.int ..)| .prim (.string _)=>true|_=>false)=true→VR φ I w u x→VR φ I w u y→Instr.sameBits n x y=true:=by
  intro n u x y h hx hy
  split at h
  ·obtain ⟨rfl,_⟩:=hx.prim_inv;obtain ⟨rfl,_⟩:=hy.prim_inv;cases n<;>simp [Instr.sameBits]
  ·obtain ⟨rfl,_⟩:=hx.prim_inv;obtain ⟨rfl,_⟩:=hy.prim_inv;cases n<;>simp [Instr.sameBits]
  ·obtain ⟨rfl,_⟩:=hx.prim_inv;obtain ⟨rfl,_⟩:=hy.prim_inv;cases n<;>simp [Instr.sameBits,beq_toListBytes]
  ·cases h
 cases u with
 |agg cs=>
  obtain ⟨xs,rfl,hxs⟩:=hx.agg_inv
  obtain ⟨ys,rfl,hys⟩:=hy.agg_inv
  show Instr.sameBits (9999+1) _ _=true
  simp only [Instr.sameBits,Bool.and_eq_true,beq_iff_eq,List.all_eq_true]
  refine ⟨by rw [←hxs.len,←hys.len],?_⟩
  rintro ⟨a,b⟩ hab
  obtain ⟨k,hk⟩:=List.mem_iff_getElem?.1 hab
  simp only [List.getElem?_zip_eq_some,Array.getElem?_toList] at hk
  obtain ⟨v,hv⟩:∃ v,cs[k]? =some v:=⟨_,af (by rw [hxs.len];exact (Array.getElem?_eq_some_iff.1 hk.1).1)⟩
  exact one 9999 v a b (by simp only [yv,List.all_eq_true] at h;exact h v (List.mem_of_getElem? hv)) (hxs.at_ k v a hv hk.1) (hys.at_ k v b hv hk.2)
 |prim v=>exact one 10000 (.prim v) x y (by cases v<;>first|rfl|(simp [yv] at h)) hx hy
 |_=>simp [yv] at h
theorem SR.allocMap (hS:SR φ I H w) {nid:Nat} (hn:φ nid=none) (hd:get H nid=none) (hnl:nid≤H.length):
 SR (nk φ nid ⟨w.heap.size,0,0⟩) I (j4 H nid (some (.mp []))) (w.alloc (.map #[] 0))∧iC φ I H w (nk φ nid ⟨w.heap.size,0,0⟩) I (j4 H nid (some (.mp []))) (w.alloc (.map #[] 0)):=by
 have hsz':(w.alloc (.map #[] 0)).heap.size=w.heap.size+1:=by rw [World.size_alloc]
 have hold:∀ B,B<w.heap.size→(w.alloc (.map #[] 0)).heap[B]? =w.heap[B]? :=fun B hB=>Below.heap_alloc w _ B hB
 have hnew:(w.alloc (.map #[] 0)).heap[w.heap.size]? =some (.map #[] 0):=World.alloc_heap_new w (.map #[] 0)
 have hIs:∀ B,I B→(w.alloc (.map #[] 0)).heap[B]? =w.heap[B]? :=fun B hB=>hold B (hS.imm B hB)
 have hsh:∀ B s,w.shape? B=some s→(w.alloc (.map #[] 0)).shape? B=some s:=fun B s hs=>by
  have hB:B<w.heap.size:=by
   rcases am B w.heap.size with h|h
   ·exact h
   ·simp [World.shape?,Array.getElem?_eq_none h] at hs
  rw [js (hold B hB)];exact hs
 have hm:=qw (L:=⟨w.heap.size,0,0⟩) hn
 refine ⟨⟨?_,?_,?_,?_⟩,?_⟩
 ·intro b L hb
  rw [jG,hsz']
  by_cases e:b=nid
  ·subst e;rw [cd] at hb;cases hb;exact ⟨by omega,by simp⟩
  ·rw [cz _ _ e] at hb;have:=hS.dom b L hb;exact ⟨by omega,by omega⟩
 ·intro B hB;have:=hS.imm B hB;omega
 ·intro b L k hb hk
  by_cases e:b=nid
  ·subst e
   rw [cd] at hb;cases hb
   rw [eT] at hk;cases hk
   exact ⟨fun h=>absurd (hS.imm _ h) (Nat.lt_irrefl _),_,_,hnew,rfl,fun i p e h1=>by simp at h1⟩
  ·rw [cz _ _ e] at hb
   rw [ct _ _ e] at hk
   exact (hS.blk b L k hb hk).mono hm (fun _ h=>h) hIs hsh (hold _ (hS.dom b L hb).2) (fun h=>h)
 ·intro b b' L L' k k' h1 h2 h3 h4 h5 h6 h7
  by_cases e:b=nid<;>by_cases e':b'=nid
  ·rw [e,e']
  ·exfalso
   subst e;rw [cd] at h1;cases h1;rw [cz _ _ e'] at h2
   have:=(hS.dom b' L' h2).2;simp at h7;omega
  ·exfalso
   subst e';rw [cd] at h2;cases h2;rw [cz _ _ e] at h1
   have:=(hS.dom b L h1).2;simp at h7;omega
  ·rw [cz _ _ e] at h1;rw [cz _ _ e'] at h2;rw [ct _ _ e] at h3;rw [ct _ _ e'] at h4
   exact hS.inj b b' L L' k k' h1 h2 h3 h4 h5 h6 h7
 ·refine ⟨rfl,rfl,rfl,by omega,fun B hB _=>hold B hB,hsh,hm,?_,fun _ h=>h,fun _ h _=> .inl h,?_⟩
  ·intro b L hb
   by_cases e:b=nid
   ·subst e;rw [cd] at hb;cases hb;exact .inr (.inl (ax _))
   ·rw [cz _ _ e] at hb;exact .inl hb
  ·rintro B hlt ⟨b,L,k,h1,h2,h3,rfl⟩
   by_cases e:b=nid
   ·subst e;rw [cd] at h1;cases h1;exact absurd hlt (Nat.lt_irrefl _)
   ·rw [cz _ _ e] at h1;rw [ct _ _ e] at h2;exact ⟨b,L,k,h1,h2,h3,rfl⟩
theorem SR.putMap (hS:SR φ I H w) {b:Nat} {L:Loc} {es es':List (V×V)} {ents':Array MapEntry} {clock':Nat} (hb:φ b=some L) (hk:get H b=some (.mp es)) (hl:MpR φ I w es' ents'):
 SR φ I (j4 H b (some (.mp es'))) (w.putObj L.B (.map ents' clock'))∧iC φ I H w φ I (j4 H b (some (.mp es'))) (w.putObj L.B (.map ents' clock')):=by
 have hne:∀ B,B≠L.B→(w.putObj L.B (.map ents' clock')).heap[B]? =w.heap[B]? :=fun B h=>World.putObj_heap_other h
 have hlt:=(hS.dom b L hb).2
 have hnew:(w.putObj L.B (.map ents' clock')).heap[L.B]? =some (.map ents' clock'):=World.putObj_heap_same hlt
 have hnI:¬I L.B:=hS.own_notI ⟨b,L,_,hb,hk,rfl,rfl⟩
 have hIs:∀ B,I B→(w.putObj L.B (.map ents' clock')).heap[B]? =w.heap[B]? :=fun B hB=>hne B (by rintro rfl;exact hnI hB)
 obtain ⟨_,r,clock,hr,_⟩:=hS.blk b L _ hb hk
 have hsh:∀ B s,w.shape? B=some s→(w.putObj L.B (.map ents' clock')).shape? B=some s:=by
  intro B s h
  by_cases e:B=L.B
  ·subst e;simp [World.shape?,hr] at h
  ·rw [js (hne B e)];exact h
 have hsize:(w.putObj L.B (.map ents' clock')).heap.size=w.heap.size:=World.putObj_size
 have hbl:=(hS.dom b L hb).1
 constructor
 ·refine ⟨fun d M hd=>⟨by have:=(hS.dom d M hd).1;rw [jG];omega,by rw [hsize];exact (hS.dom d M hd).2⟩,fun B hB=>by rw [hsize];exact hS.imm B hB,?_,?_⟩
  ·intro d M k hd hk'
   by_cases e:d=b
   ·subst e
    rw [hb] at hd;cases hd
    rw [eT] at hk'
    cases hk'
    exact ⟨hnI,ents',clock',hnew,hl.mono (fun _ _ h=>h) (fun _ h=>h) hIs hsh⟩
   ·rw [ct _ _ e] at hk'
    by_cases hB:M.B=L.B
    ·exfalso
     have h1:=hS.blk d M k hd hk'
     cases k with
     |row sz' m es2=>
      obtain ⟨c,t,h2,_⟩:=h1.2.1
      rw [hB,hr] at h2;cases h2
     |loop l2=>exact e (hS.inj d b M L _ _ hd hb hk' hk rfl rfl hB)
     |mp l2=>exact e (hS.inj d b M L _ _ hd hb hk' hk rfl rfl hB)
    ·exact (hS.blk d M k hd hk').mono (fun _ _ h=>h) (fun _ h=>h) hIs hsh (hne _ hB) (fun h=>h)
  ·intro d d' M M' k k' h1 h2 h3 h4 h5 h6 h7
   have own':∀ {d:Nat} {k:Blk},get (j4 H b (some (.mp es'))) d=some k→k.own=true→∃ k0,get H d=some k0∧k0.own=true:=by
    intro d k h h'
    by_cases e:d=b
    ·subst e;exact ⟨_,hk,rfl⟩
    ·rw [ct _ _ e] at h;exact ⟨k,h,h'⟩
   obtain ⟨k0,a0,a1⟩:=own' h3 h5
   obtain ⟨k1,b0,b1⟩:=own' h4 h6
   exact hS.inj d d' M M' k0 k1 h1 h2 a0 b0 a1 b1 h7
 ·refine ⟨rfl,rfl,rfl,by omega,fun B hB ho=>hne B (by rintro rfl;exact ho ⟨b,L,_,hb,hk,rfl,rfl⟩),hsh,fun _ _ h=>h,fun _ _ h=> .inl h,fun _ h=>h,fun _ h _=> .inl h,?_⟩
  rintro B hlt ⟨d,M,k,h1,h2,h3,rfl⟩
  by_cases e:d=b
  ·subst e;rw [hb] at h1;cases h1;exact ⟨d,L,_,hb,hk,rfl,rfl⟩
  ·rw [ct _ _ e] at h2;exact ⟨d,M,k,h1,h2,h3,rfl⟩
theorem B3 {t kt et:TypeId} {i:TyI} {u v:V} {x y:Value} {b:Nat} {L:Loc} {es:List (V×V)} {r:Option (Nat×V)} (ht:aD P t=some i) (hk:i.k= .map kt et) (hq:eqA (aD P) 9 kt u u=some true)
 (hf:sL (aD P) kt u es 0=some r) (hr:∀ j v,r=some (j,v)→es[j]? =some (u,v)∧yv u=true) (hu:VR φ I w u x) (hv:VR φ I w v y) (hS:SR φ I H w) (hL:φ b=some L) (hg:get H b=some (.mp es)):
 ∃ w',(Instr.mapUpdate t (.map (some L.B)) x y).run P w= .ok () w'∧
  SR φ I (j4 H b (some (.mp (Sf u v es r)))) w'∧
  iC φ I H w φ I (j4 H b (some (.mp (Sf u v es r)))) w':=by
 obtain ⟨_,ents,clock,hb,hm⟩:=hS.blk b L _ hL hg
 obtain ⟨d,hd⟩:=E9 hq
 have hck:=fun W=>sF 9 kt u u x 10000 false hq hu (by omega) W
 have hset:∀ o,(setObj L.B o).run P w= .ok () (w.putObj L.B o):=fun o=>Sl o hb
 rcases tQ hd hu hm hf with ⟨rfl,q⟩|⟨j,p,e,rfl,q2,q3,q4⟩
 ·have hm':MpR φ I w (es++[(u,v)]) (ents.push { key:=x,val:=y,born:=clock }):=by
   refine ⟨by simp [hm.1],fun k p e h1 h2=> ?_⟩
   rcases am k es.length with hk|hk
   ·rw [bB hk] at h1
    rw [Array.getElem?_push,if_neg (by rw [←hm.1];omega)] at h2
    exact hm.2 k p e h1 h2
   ·rw [bv hk] at h1
    have hk0:k-es.length=0:=by have:=(aH.1 h1).1;simp at this;omega
    rw [hk0] at h1
    rw [Array.getElem?_push,if_pos (by rw [←hm.1];omega)] at h2
    simp at h1 h2;subst h1;subst h2
    exact ⟨hu,hv⟩
  obtain ⟨g1,g2⟩:=hS.putMap (clock':=clock+1) hL hg hm'
  refine ⟨_,?_,g1,g2⟩
  unfold Instr.mapUpdate
  simp [run_underlying (zr ht hk),E7 hb,hck,q,hset]
 ·obtain ⟨h1,h2⟩:=hr j p.2 rfl
  rw [q2] at h1
  have hp:p=(u,p.2):=by simpa using h1
  have he:=hm.2 j p e q2 q3
  have hsame:=Lu h2 (by have:=he.1;rw [hp] at this;exact this) hu
  have hjl:j<ents.size:=(Array.getElem?_eq_some_iff.1 q3).1
  have hm':MpR φ I w (es.set j (u,v)) (ents.modify j fun e=>{ e with key:=x,val:=y }):=by
   refine ⟨by simp [hm.1],fun k p' e' h1 h2=> ?_⟩
   rw [Array.getElem?_modify] at h2
   by_cases ejk:j=k
   ·subst ejk
    rw [if_pos rfl,q3] at h2
    rw [List.getElem?_set_self (by rw [hm.1];exact hjl)] at h1
    simp at h1 h2;subst h1;subst h2
    exact ⟨hu,hv⟩
   ·rw [if_neg ejk] at h2
    rw [List.getElem?_set_ne ejk] at h1
    exact hm.2 k p' e' h1 h2
  obtain ⟨g1,g2⟩:=hS.putMap (clock':=clock) hL hg hm'
  refine ⟨_,?_,g1,g2⟩
  unfold Instr.mapUpdate
  simp [run_underlying (zr ht hk),E7 hb,hck,q4,hset,q3,Instr.keyThatStays,hsame]
end Go.Av
