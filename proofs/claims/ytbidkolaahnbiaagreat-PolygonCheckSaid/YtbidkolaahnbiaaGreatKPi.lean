/- Helping texts: Pi, Pj. -/
import Derived.Test.YtbidkolaahnbiaaGreatKFd
import Derived.Test.YtbidkolaahnbiaaGreatKMb
import Derived.Test.YtbidkolaahnbiaaGreatKSo
import Derived.Test.YtbidkolaahnbiaaGreatKFa
set_option linter.unusedSimpArgs false
set_option linter.unusedVariables false
set_option maxRecDepth 100000
set_option maxHeartbeats 16000000
namespace Go.Av
open Go.RowKit
open Go.Proofs.Tryz (prog)
theorem Rp.le_up {p:Rp} {a b:Nat} (h:p.le a) (hab:a≤b):p.le b:=⟨⟨Nat.le_trans h.1.1 hab,Nat.le_trans h.1.2 hab⟩,⟨Nat.le_trans h.2.1 hab,Nat.le_trans h.2.2 hab⟩⟩
def badAt (l:List Pt) (i:Nat):Bool:=decide (l.getD i default=nx l i)||flatAt l i
def redL:Nat→List Pt→List Pt
 |0,l=>l
 |n+1,l=>if 3≤l.length∧0≤idxP l.length (badAt l) then redL n (l.eraseIdx (idxP l.length (badAt l)).toNat) else l
def simpL (l:List Pt):List Pt:=redL l.length l
theorem simp_step {l:List Pt} {i:Nat} (h3:3≤l.length) (hi:i<l.length) (hb:badAt l i=true) (hf:∀ j,j<i→badAt l j=false):simpL l=simpL (l.eraseIdx i):=by
 have e:=idxP_found hi hb hf
 unfold simpL
 rw [List.length_eraseIdx_of_lt hi]
 obtain ⟨n,hn⟩:∃ n,l.length=n+1:=⟨l.length-1,by omega⟩
 rw [hn] at e h3 ⊢
 rw [Nat.add_sub_cancel]
 conv=>lhs;unfold redL
 rw [hn,e,if_pos ⟨h3,by omega⟩,Int.toNat_natCast]
theorem simp_stop {l:List Pt} (h:l.length<3∨∀ i,i<l.length→badAt l i=false):simpL l=l:=by
 unfold simpL
 cases hn:l.length with
 |zero=>rfl
 |succ n=>
  unfold redL
  rw [if_neg]
  rintro ⟨h1,h2⟩
  rcases h with h|h
  ·omega
  ·rw [idxP_none h] at h2;omega
theorem redL_mem {p:Pt}:∀ {n:Nat} {l:List Pt},p∈redL n l→p∈l
 |0,l,h=>h
 |n+1,l,h=>by
  unfold redL at h
  split at h
  ·exact List.mem_of_mem_eraseIdx (redL_mem h)
  ·exact h
theorem redL_le:∀ (n:Nat) (l:List Pt),(redL n l).length≤l.length
 |0,l=>Nat.le_refl _
 |n+1,l=>by
  unfold redL
  split
  ·refine Nat.le_trans (redL_le n _) ?_
   rw [List.length_eraseIdx];split<;>omega
  ·exact Nat.le_refl _
theorem simp_mem {l:List Pt} {p:Pt} (h:p∈simpL l):p∈l:=redL_mem h
theorem simp_le (l:List Pt):(simpL l).length≤l.length:=redL_le _ _
theorem redL_keep:∀ (n:Nat) (l:List Pt),l.length≤n→3≤(redL n l).length→keepAll (redL n l)
 |0,l,h,h3=>by
  have h3:3≤l.length:=h3
  omega
 |n+1,l,h,h3=>by
  unfold redL at h3 ⊢
  by_cases hc:3≤l.length∧0≤idxP l.length (badAt l)
  ·rw [if_pos hc] at h3 ⊢
   refine redL_keep n _ ?_ h3
   obtain ⟨h0,h1⟩:=hc
   have hlt:(idxP l.length (badAt l)).toNat<l.length:=by
    unfold idxP at h1 ⊢
    cases hf:(List.range l.length).find? (badAt l) with
    |none=>rw [hf] at h1;simp at h1
    |some i=>exact List.mem_range.1 (List.mem_of_find?_eq_some hf)
   rw [List.length_eraseIdx_of_lt hlt];omega
  ·rw [if_neg hc] at h3 ⊢
   have hn:=idxP_neg (p:=badAt l) (n:=l.length) fun k=>hc ⟨h3,k⟩
   intro i hi
   have:=hn i hi
   unfold badAt at this
   rw [Bool.or_eq_false_iff,decide_eq_false_iff_not] at this
   exact this
theorem simp_keep {l:List Pt} (h:3≤(simpL l).length):keepAll (simpL l):=redL_keep _ _ (Nat.le_refl _) h
def canE (l:List Rp):Int:=if 64<l.length then 4 else if allOk l=false then 1 else if (simpL (pts l)).length<3 then 12 else if crossB (simpL (pts l))=true then 13 else 0
def canL (l:List Rp):List Pt:=canonL (simpL (pts l))
def canV (l:List Rp):V:= .tup [if canE l=0 then psV (canL l) else .prim (.slice none 0 0),.prim (.int .i64 (canE l))]
theorem canE_ok {l:List Rp} (h:canE l=0) (hl0:∀ p∈l,p.le (2^16)):l.length≤64∧allOk l=true∧Can (simpL (pts l)):=by
 unfold canE at h
 split at h
 ·cases h
 ·split at h
  ·cases h
  ·split at h
   ·cases h
   ·split at h
    ·cases h
    ·rename_i h1 h2 h3 h4
     have ok:allOk l=true:=by simpa using h2
     have hle:=simp_le (pts l)
     rw [pts_length] at hle
     exact ⟨by omega,ok,by omega,by omega,fun p hp=>hl_pts ok hl0 (by omega) p (simp_mem hp),simp_keep (by omega),by simpa using h4⟩
theorem cmpH_anti {a b:List Pt}:cmpH a b<0↔0<cmpH b a:=by
 constructor
 ·intro h
  rcases Int.lt_or_le 0 (cmpH b a) with k|k
  ·exact k
  ·exfalso
   rcases Int.lt_or_eq_of_le k with k|k
   ·have:=cmpH_trans h k
    rw [show cmpH a a=0 from cmpH_zero.2 rfl] at this
    exact absurd this (by decide)
   ·have:=cmpH_zero.2 (cmpH_zero.1 k).symm;omega
 ·intro h
  exact cmpH_flip (by omega) (by omega)
theorem swapH_at (A B:List (List Pt)) (a h:List Pt):swapH (A++a::h::B) A.length=A++h::a::B:=by
 unfold swapH
 have e1:(A++a::h::B).getD A.length []=a:=by rw [List.getD_eq_getElem?_getD,List.getElem?_append_right (Nat.le_refl _),Nat.sub_self];rfl
 have e2:(A++a::h::B).getD (A.length+1) []=h:=by rw [List.getD_eq_getElem?_getD,List.getElem?_append_right (by omega),show A.length+1-A.length=1 by omega];rfl
 rw [e1,e2,List.set_append_right _ _ (by omega),show A.length+1-A.length=1 by omega,List.set_append_right _ _ (Nat.le_refl _),Nat.sub_self]
 rfl
theorem bubble_ins (S rest:List (List Pt)) (h:List Pt):∀ j,j≤S.length→bubbleH (S.take j++h::(S.drop j++rest)) j=S.take (insK S h j)++h::(S.drop (insK S h j)++rest)
 |0,_=>rfl
 |j+1,hj=>by
  have hlt:j<S.length:=by omega
  have hA:(S.take j).length=j:=by rw [List.length_take];omega
  have e0:S.take (j+1)++h::(S.drop (j+1)++rest)=S.take j++S.getD j []::h::(S.drop (j+1)++rest):=by
   rw [List.take_add_one,List.getElem?_eq_getElem hlt,List.getD_eq_getElem?_getD,List.getElem?_eq_getElem hlt,List.append_assoc];rfl
  have eg1:(S.take j++S.getD j []::h::(S.drop (j+1)++rest)).getD (j+1) []=h:=by rw [List.getD_eq_getElem?_getD,List.getElem?_append_right (by omega),show j+1-(S.take j).length=1 by omega];rfl
  have eg2:(S.take j++S.getD j []::h::(S.drop (j+1)++rest)).getD j []=S.getD j []:=by rw [List.getD_eq_getElem?_getD,List.getElem?_append_right (by omega),show j-(S.take j).length=0 by omega];rfl
  rw [e0]
  unfold bubbleH insK
  rw [eg1,eg2]
  by_cases hc:cmpH h (S.getD j [])<0
  ·rw [if_pos hc,if_pos (cmpH_anti.1 hc)]
   have sw:=swapH_at (S.take j) (S.drop (j+1)++rest) (S.getD j []) h
   rw [hA] at sw
   rw [sw]
   have e1:S.getD j []::(S.drop (j+1)++rest)=S.drop j++rest:=by
    rw [List.drop_eq_getElem_cons hlt,List.getD_eq_getElem?_getD,List.getElem?_eq_getElem hlt];rfl
   rw [e1]
   exact bubble_ins S rest h j (by omega)
  ·rw [if_neg hc,if_neg (fun k=>hc (cmpH_anti.2 k)),e0]
theorem isort_take (X:List (List Pt)):∀ i,i<X.length→isortH X i=(X.take (i+1)).foldl insH []++X.drop (i+1)
 |0,h=>by
  match X,h with
  |a::t,_=>rfl
 |i+1,h=>by
  have ih:=isort_take X i (by omega)
  have hl:((X.take (i+1)).foldl insH []).length=i+1:=by
   have:∀ (Y S:List (List Pt)),(Y.foldl insH S).length=S.length+Y.length:=by
    intro Y
    induction Y with
    |nil=>intro S;rfl
    |cons a Y ih=>intro S;rw [List.foldl_cons,ih,insH_length,List.length_cons];omega
   rw [this,List.length_take];simp only [List.length_nil];omega
  rw [isortH,ih,List.take_add_one (i:=i+1),List.getElem?_eq_getElem h,List.foldl_append,List.drop_eq_getElem_cons h]
  generalize (X.take (i+1)).foldl insH []=S at*
  have b:=bubble_ins S (X.drop (i+1+1)) X[i+1] S.length (Nat.le_refl _)
  rw [List.take_length,List.drop_length,List.nil_append,hl] at b
  rw [b]
  show _=insH S X[i+1]++_
  unfold insH
  rw [hl,List.append_assoc];rfl
theorem isort_ins (X:List (List Pt)):isortH X (X.length-1)=X.foldl insH []:=by
 match X with
 |[]=>rfl
 |a::t=>
  rw [isort_take (a::t) _ (by simp),List.take_of_length_le (by simp),List.drop_of_length_le (by simp),List.append_nil]
end Go.Av
namespace Go.Av
open Go.RowKit
def jumpQ (l:Nat) (J:Act→World→Prop) (Q:Exit→Act→World→Prop):Exit→Act→World→Prop
 | .goto l',a,w=>l'=l∧J a w
 |e,a,w=>Q e a w
theorem wpIn_jumps {F:Fence} {n:Nat} {P:Program} {Q:Exit→Act→World→Prop} {a:Act} {w:World} {c rest:Code} {l:Nat} (hf:findLabel c l=some rest) (J:Nat→Act→World→Prop)
 (first:c.wpIn F n P (jumpQ l (fun a w=>∃ m,J m a w) Q) a w)
 (pass:∀ m a w,J m a w→rest.wpIn F n P (jumpQ l (fun a w=>∃ m',m'<m∧J m' a w) Q) a w):(Code.scope c).wpIn F n P Q a w:=by
 intro b k cs hro hb hr
 have h0:(lone (b.atR a (.code (.scope c)::k)) cs w).fenced P F:=fenced_calm hb hr rfl
 have hg:gotoIn l (.inScope c::k)=some (.code rest:: .inScope c::k):=by simp [gotoIn,hf]
 have key:∀ m a w,J m a w→∃ e a' w',Q e a' w'∧ArrivesIn (Machine.fenced P F) P (lone (b.atR a (.code rest:: .inScope c::k)) cs w) b k cs e a' w':=by
  intro m
  induction m using Nat.strongRecOn with
  |_ m ih=>
   intro a w hJ
   obtain ⟨e,a₁,w₁,hq,harr⟩:=pass m a w hJ b (.inScope c::k) cs hro hb hr
   cases e with
   |normal=>exact ⟨.normal,a₁,w₁,hq,StepsIn.trans harr (.one (fenced_calm hb hr rfl) stepR_inScope)⟩
   |exit id=>
    have hx:exitTo id (.inScope c::k)=exitTo id k:=by simp [exitTo]
    exact ⟨.exit id,a₁,w₁,hq,fun k' hk=>harr.1 k' (by rw [hx];exact hk),fun hr' hk=>harr.2 hr' (by rw [hx];exact hk)⟩
   |goto l'=>
    obtain ⟨rfl,m',hm,hJ'⟩:=hq
    obtain ⟨e₂,a₂,w₂,hq₂,harr₂⟩:=ih m' hm a₁ w₁ hJ'
    exact ⟨e₂,a₂,w₂,hq₂,.of_steps (harr.1 _ hg) harr₂⟩
   |ret=>exact ⟨_,a₁,w₁,hq,harr⟩
   |panic ch=>exact ⟨_,a₁,w₁,hq,harr⟩
   |outgrown=>exact ⟨_,a₁,w₁,hq,harr⟩
 obtain ⟨e,a₁,w₁,hq,harr⟩:=first b (.inScope c::k) cs hro hb hr
 cases e with
 |normal=>exact ⟨.normal,a₁,w₁,hq,.head h0 stepR_scope (StepsIn.trans harr (.one (fenced_calm hb hr rfl) stepR_inScope))⟩
 |exit id=>
  have hx:exitTo id (.inScope c::k)=exitTo id k:=by simp [exitTo]
  exact ⟨.exit id,a₁,w₁,hq,fun k' hk=> .head h0 stepR_scope (harr.1 k' (by rw [hx];exact hk)),
   fun hr' hk=>let ⟨k₁,h1,h2⟩:=harr.2 hr' (by rw [hx];exact hk);⟨k₁,h1,.head h0 stepR_scope h2⟩⟩
 |goto l'=>
  obtain ⟨rfl,m',hJ'⟩:=hq
  obtain ⟨e₂,a₂,w₂,hq₂,harr₂⟩:=key m' a₁ w₁ hJ'
  exact ⟨e₂,a₂,w₂,hq₂,.of_steps (.head h0 stepR_scope (harr.1 _ hg)) harr₂⟩
 |ret=>exact ⟨_,a₁,w₁,hq,.of_steps (.one h0 stepR_scope) harr⟩
 |panic ch=>exact ⟨_,a₁,w₁,hq,.of_steps (.one h0 stepR_scope) harr⟩
 |outgrown=>exact ⟨_,a₁,w₁,hq,.of_steps (.one h0 stepR_scope) harr⟩
variable {P:Program} {H:Hp}
def jI {S:Type} (st:S→(Nat→V)→List V) (Inv:S→Hp→Prop) (μ:S→Nat) (n:Nat):List V→Hp→Prop:=fun T H=>∃ s,T=st s (fun k=>T.getD k undefV)∧Inv s H∧μ s<n
def gQ (P:Program) (rs:List ResultVar) (Q:V→Hp→Prop) (l:Nat) (J:List V→Hp→Prop):Post:=fun x T H=>match x with
 | .goto l'=>l'=l∧J T H
 |x=>retP P rs Q x T H
def jS (P:Program) (y:LC) (rs:List ResultVar) (Q:V→Hp→Prop) (l:Nat) (J:List V→Hp→Prop):Post:=fun x T H=>match x with
 | .normal=>wpL P y T H (gQ P rs Q l J)
 |x=>retP P rs Q x T H
variable {rs:List ResultVar} {Q:V→Hp→Prop} {l:Nat} {J:List V→Hp→Prop} {T:List V} {y:LC}
theorem gQ_normal:gQ P rs Q l J .normal T H=retP P rs Q .normal T H:=rfl
theorem goto_next {S:Type} {st:S→(Nat→V)→List V} {Inv:S→Hp→Prop} {μ:S→Nat} {n:Nat} (s:S) (h1:T=st s (fun k=>T.getD k undefV)) (h2:Inv s H) (h3:μ s<n):gQ P rs Q l (jI st Inv μ n) (.goto l) T H:=⟨rfl,s,h1,h2,h3⟩
structure FnJ (P:Program) (f:FuncId) (k:Nat) (rs:List ResultVar) (x y z:LC) (l:Nat):Prop where
 ex:∃ fn c d r,P.funcs[f]? =some fn∧fn.body=some (.seq c (.scope d))∧findLabel d l=some r∧lite c=some x∧lite d=some y∧lite r=some z∧rfOk c=true∧rfOk d=true∧rfOk r=true∧(fn.name== "runtime.NumGoroutine")=false∧fn.ntmps=k∧fn.results.toList=rs
theorem SC_introK (hm:P.follows .mixedOrders=true) {f:FuncId} {k:Nat} {x z:LC} (hf:FnJ P f k rs x y z l) {args:List V} {S:Type} (st:S→(Nat→V)→List V) (Inv:S→Hp→Prop) (μ:S→Nat)
 (h:wpL P x (entryT k args) H (jS P y rs Q l (fun T H=>∃ s,T=st s (fun k=>T.getD k undefV)∧Inv s H)))
 (pass:∀ s J H,Inv s H→wpL P z (st s J) H (gQ P rs Q l (jI st Inv μ (μ s)))):SC P f args H Q:=by
 intro φ I w xs hS hxs
 obtain ⟨fn,c,d,r,h1,h2,hl,h3,h4,h4',h5,h6,h6',h7,h8,h9⟩:=hf.ex
 refine ⟨?_,(callsIn_wide (n:=0)).1 ?_⟩
 ·simp [callFunc,Sem.run_bind,h1,h2]
  simpa using h7
 refine callsIn_of_wp_marks h1 h2 trivial ?_
 have hW:Within w.heap.size φ I H w φ I (entryT k args) H w ⟨xs++Array.replicate (fn.ntmps-xs.size) undef,[]⟩:=by
  refine ⟨⟨?_,fun i v x hv hx=> ?_⟩,hS,Step.refl,⟨[],List.nodup_nil,rfl,by simp⟩,Nat.le_refl _⟩
  ·simp [entryT,hxs.len,h8]
  ·simp only [entryT] at hv
   rw [List.getElem?_append] at hv
   rw [Array.getElem?_append] at hx
   rw [hxs.len] at hv
   split at hv
   ·rename_i hlt;rw [if_pos hlt] at hx;exact hxs.at_ i v x hv hx
   ·rename_i hlt;rw [if_neg hlt] at hx
    rw [List.getElem?_replicate] at hv
    split at hv
    ·cases hv
     rw [Array.getElem?_replicate] at hx
     split at hx
     ·cases hx;exact undef_VR
     ·cases hx
    ·cases hv
 have fin:∀ {φ' I' T' H'} {a':Act} {w':World},Within w.heap.size φ I H w φ' I' T' H' w' a'→(∃ vs,resVs (tyOf P) T' H' fn.results.toList=some vs∧Q (retV vs) H')→LeavesInM Fence.wide 0 P fn a'.tmps (Ends φ I H w Q) a'.defers .returning w':=by
  rintro φ' I' T' H' a' w' hW' ⟨vs,hv,hq⟩
  obtain ⟨Ds,q1,q2,q3⟩:=hW'.d
  have e:a'=⟨a'.tmps,Ds.map mark⟩:=by rw [←q2]
  rw [q2]
  exact leave_sound rfl hv hq Ds w' (by rw [e] at hW';exact hW')
 have ret:∀ {z:X} {φ' I' T' H'} {a':Act} {w':World},Within w.heap.size φ I H w φ' I' T' H' w' a'→retP P rs Q z T' H'→(z= .normal∨z= .ret)∧∃ vs,resVs (tyOf P) T' H' fn.results.toList=some vs∧Q (retV vs) H':=by
  intro z φ' I' T' H' a' w' hW' hq
  unfold retP at hq
  rw [←h9] at hq
  cases z with
  |normal=>
   simp only at hq
   split at hq
   ·rename_i vs hv;exact ⟨.inl rfl,vs,hv,hq⟩
   ·exact hq.elim
  |ret=>
   simp only at hq
   split at hq
   ·rename_i vs hv;exact ⟨.inr rfl,vs,hv,hq⟩
   ·exact hq.elim
  |exit id=>exact hq.elim
  |goto l=>exact hq.elim
 refine wpIn_seq (wpIn_mono (code_sound hm (ro:=none) (n:=0) c x h3 h5 (.inl rfl) hW h) ?_)
 rintro e a' w' ⟨zx,rfl,φ',I',T',H',hW',hq⟩
 cases zx with
 |normal=>
  have hq:wpL P y T' H' (gQ P rs Q l (fun T H=>∃ s,T=st s (fun k=>T.getD k undefV)∧Inv s H)):=hq
  refine wpIn_jumps hl (fun m a w₁=>∃ φ' I' T' H' s,Within w.heap.size φ I H w φ' I' T' H' w₁ a∧T'=st s (fun k=>T'.getD k undefV)∧Inv s H'∧μ s=m) (wpIn_mono (code_sound hm (ro:=none) (n:=0) d y h4 h6 (.inl rfl) hW' hq) ?_) ?_
  ·rintro e a' w' ⟨zx,rfl,φ',I',T',H',hW',hq⟩
   cases zx with
   |normal=>exact fin hW' (ret (z:= .normal) hW' hq).2
   |ret=>exact fin hW' (ret (z:= .ret) hW' hq).2
   |exit id=>exact (show False from hq).elim
   |goto l'=>
    obtain ⟨e,s,e1,e2⟩:=hq
    exact ⟨e,μ s,φ',I',T',H',s,hW',e1,e2,rfl⟩
  ·rintro m a w₁ ⟨φ',I',T',H',s,hW',e1,e2,rfl⟩
   have hp:=pass s (fun k=>T'.getD k undefV) H' e2
   rw [←e1] at hp
   refine wpIn_mono (code_sound hm (ro:=none) (n:=0) r z h4' h6' (.inl rfl) hW' hp) ?_
   rintro e a' w' ⟨zx,rfl,φ',I',T',H',hW',hq⟩
   cases zx with
   |normal=>exact fin hW' (ret (z:= .normal) hW' hq).2
   |ret=>exact fin hW' (ret (z:= .ret) hW' hq).2
   |exit id=>exact (show False from hq).elim
   |goto l'=>
    obtain ⟨e,s',e1,e2,e3⟩:=hq
    exact ⟨e,μ s',e3,φ',I',T',H',s',hW',e1,e2,rfl⟩
 |ret=>exact fin hW' (ret (z:= .ret) hW' hq).2
 |exit id=>exact (show False from hq).elim
 |goto l'=>exact (show False from hq).elim
def xJ (P:Program) (f:FuncId):LC:=match P.funcs[f]? with
 |some fn=>match fn.body with
  |some (.seq c (.scope _))=>liteF c
  |_=> .skip
 |none=> .skip
def yJ (P:Program) (f:FuncId):LC:=match P.funcs[f]? with
 |some fn=>match fn.body with
  |some (.seq _ (.scope d))=>liteF d
  |_=> .skip
 |none=> .skip
def zJ (P:Program) (f:FuncId) (l:Nat):LC:=match P.funcs[f]? with
 |some fn=>match fn.body with
  |some (.seq _ (.scope d))=>match findLabel d l with
   |some r=>liteF r
   |none=> .skip
  |_=> .skip
 |none=> .skip
def fnJ (P:Program) (f:FuncId) (l:Nat):Bool:=match P.funcs[f]? with
 |some fn=>match fn.body with
  |some (.seq c (.scope d))=>match findLabel d l with
   |some r=>(lite c).isSome&&(lite d).isSome&&(lite r).isSome&&rfOk c&&rfOk d&&rfOk r&& !(fn.name== "runtime.NumGoroutine")
   |none=>false
  |_=>false
 |none=>false
theorem FnJ.of {f:FuncId} {l:Nat} (h:fnJ P f l=true):FnJ P f (ntOf P f) (rsOf P f) (xJ P f) (yJ P f) (zJ P f l) l:=by
 unfold fnJ at h
 split at h
 ·rename_i fn h1
  unfold ntOf rsOf xJ yJ zJ
  rw [h1]
  split at h
  ·rename_i c d h2
   split at h
   ·rename_i r hl
    simp only [Bool.and_eq_true,Bool.not_eq_true'] at h
    obtain ⟨⟨⟨⟨⟨⟨p1,p2⟩,p3⟩,p4⟩,p5⟩,p6⟩,p7⟩:=h
    obtain ⟨x,hx⟩:=Option.isSome_iff_exists.1 p1
    obtain ⟨y,hy⟩:=Option.isSome_iff_exists.1 p2
    obtain ⟨z,hz⟩:=Option.isSome_iff_exists.1 p3
    refine ⟨fn,c,d,r,h1,h2,hl,?_,?_,?_,p4,p5,p6,p7,rfl,rfl⟩
    ·simp only [h2,liteF_eq c x hx];exact hx
    ·simp only [h2,liteF_eq d y hy];exact hy
    ·simp only [h2,hl,liteF_eq r z hz];exact hz
   ·cases h
  ·cases h
 ·cases h
def cJ (P:Program) (f:FuncId):LC:=match yJ P f with
 | .seq c _=>c
 |_=> .skip
def entQ {S:Type} (st:S→(Nat→V)→List V) (Inv:S→Hp→Prop):Post:=fun x T H=>match x with
 | .normal=>∃ s,T=st s (fun k=>T.getD k undefV)∧Inv s H
 |_=>False
def eS {S:Type} (P:Program) (c:LC) (st:S→(Nat→V)→List V) (Inv:S→Hp→Prop):Post:=fun x T H=>match x with
 | .normal=>wpL P c T H (entQ st Inv)
 |_=>False
theorem eS_normal {S:Type} {c:LC} {st:S→(Nat→V)→List V} {Inv:S→Hp→Prop}:eS P c st Inv .normal T H=wpL P c T H (entQ st Inv):=rfl
theorem ent_end {S:Type} {st:S→(Nat→V)→List V} {Inv:S→Hp→Prop} (s:S) (h1:T=st s (fun k=>T.getD k undefV)) (h2:Inv s H):entQ st Inv .normal T H:=⟨s,h1,h2⟩
theorem gQ_mono {J':List V→Hp→Prop} (h:∀ T H,J T H→J' T H) {x:X} (hq:gQ P rs Q l J x T H):gQ P rs Q l J' x T H:=by
 cases x with
 |goto l'=>exact ⟨hq.1,h _ _ hq.2⟩
 |_=>exact hq
theorem SC_introL (hm:P.follows .mixedOrders=true) {f:FuncId} {k:Nat} (hf:FnJ P f k rs (xJ P f) (yJ P f) (zJ P f l) l) (hy:yJ P f= .seq (cJ P f) (zJ P f l)) {args:List V} {S:Type} (st:S→(Nat→V)→List V) (Inv:S→Hp→Prop) (μ:S→Nat)
 (h:wpL P (xJ P f) (entryT k args) H (eS P (cJ P f) st Inv))
 (pass:∀ s J H,Inv s H→wpL P (zJ P f l) (st s J) H (gQ P rs Q l (jI st Inv μ (μ s)))):SC P f args H Q:=by
 have any:∀ s J H,Inv s H→wpL P (zJ P f l) (st s J) H (gQ P rs Q l (fun T H=>∃ s,T=st s (fun k=>T.getD k undefV)∧Inv s H)):=fun s J H hI=>
  wpL_mono _ (fun x T H hq=>gQ_mono (fun T H ⟨s,e1,e2,_⟩=>⟨s,e1,e2⟩) hq) (pass s J H hI)
 refine SC_introK hm hf st Inv μ ?_ pass
 refine wpL_mono _ ?_ h
 intro x T H hq
 cases x with
 |normal=>
  show wpL P (yJ P f) T H _
  rw [hy]
  show wpL P (cJ P f) T H (seqQ P (zJ P f l) _)
  refine wpL_mono _ ?_ (show wpL P (cJ P f) T H (entQ st Inv) from hq)
  intro x T H hq
  cases x with
  |normal=>
   obtain ⟨s,e1,e2⟩:=hq
   show wpL P (zJ P f l) T H _
   rw [e1]
   exact any s _ _ e2
  |_=>exact hq.elim
 |_=>exact hq.elim
end Go.Av
