/- Helping texts: Fa, Fs, Fb, Fc, Ft. -/
import Derived.Test.YtbidkolaahnbiaaGreatKDj
import Derived.Test.YtbidkolaahnbiaaGreatKAx
import Derived.Test.YtbidkolaahnbiaaGreatKDs
import Derived.Test.YtbidkolaahnbiaaGreatKMe
set_option linter.unusedSimpArgs false
set_option linter.unusedVariables false
set_option maxRecDepth 100000
set_option maxHeartbeats 16000000
namespace Go.Av
open Go.RowKit
open Go.Proofs.Tryz (prog)
def NewL (H:Hp) (l:List Pt) (K:V→Hp→Prop):Prop:=∀ b H',Ext H H'→H.length≤b→get H' b=some (.row 6 true (l.map pc))→K (.sref b 0 l.length l.length 6 false) H'
theorem clone_sc (l:List Pt) (hne:l≠[]) (hn:l.length≤2^30) {H:Hp} {K:V→Hp→Prop} (hK:NewL H l K):SC prog 278 [psV l] H K:=by
 obtain ⟨p,t,rfl⟩:∃ p t,l=p::t:=by
  cases l with
  |nil=>exact absurd rfl hne
  |cons p t=>exact ⟨p,t,rfl⟩
 have e:∀ x,eqA (tyOf prog) 9 22 (.lst 6 (x::t.map pc)) (.prim (.slice none 0 0))=some false:=by
  intro x;unfold eqA;simp only [RT]
 refine SCi ?_
 conv in trip _ _=>cbv
 simp only [runT,RN,simprocAttr]
 simp (disch:=omega) only [↓RS,RZ,simprocAttr,psV,List.map_cons,e,nilP_some]
 refine ⟨fun y hy v hv=>by obtain ⟨s,_,rfl⟩:=List.mem_map.1 (show y∈(p::t).map pc from hy);simp only [pc,List.mem_cons,List.not_mem_nil,or_false] at hv;rcases hv with rfl|rfl|rfl|rfl|rfl|rfl<;>rfl,?_⟩
 simp only [get_app_len]
 have hl:((p::t).map pc).length=(p::t).length:=List.length_map ..
 refine ⟨trivial,by simp,.inr (.inl ⟨trivial,?_,?_,?_,?_⟩)⟩
 ·show 0<0+((p::t).map pc).length;rw [hl];simp
 ·show (0+((p::t).map pc).length)*80≤_;rw [hl];omega
 ·show 0+((p::t).map pc).length≤_;rw [hl];omega
 have:=hK (H++[some (Blk.row 6 true [])]).length (H++[some (Blk.row 6 true [])]++[some (Blk.row 6 true ((p::t).map pc))]) ((Ext.app _).trans (Ext.app _)) (by rw [List.length_append];omega) get_app_len
 have hl2:(pc p::List.map pc t).length=(p::t).length:=hl
 rw [hl2]
 simp only [List.map_cons] at this
 simp (disch:=omega) only [↓RS,RZ,simprocAttr]
 exact this
end Go.Av
namespace Go.Av
open Go.RowKit
def noGo (Q:Exit→Act→World→Prop):Exit→Act→World→Prop
 | .goto _,_,_=>False
 |e,a,w=>Q e a w
theorem stepR_scope {P:Program} {b:Frame} {a:Act} {k:List Item} {cs:List Frame} {w:World} {c:Code}:
 step P (lone (b.atR a (.code (.scope c)::k)) cs w)= .next (lone (b.atR a (.code c:: .inScope c::k)) cs w):=
 step_lone_go (by simp [stepG,stepG.exec,Frame.atR])
theorem stepR_inScope {P:Program} {b:Frame} {a:Act} {k:List Item} {cs:List Frame} {w:World} {c:Code}:
 step P (lone (b.atR a (.inScope c::k)) cs w)= .next (lone (b.atR a k) cs w):=
 step_lone_go (by simp [stepG,stepG.exec,Frame.atR])
theorem wpIn_scope {F:Fence} {n:Nat} {P:Program} {Q:Exit→Act→World→Prop} {a:Act} {w:World} {c:Code} (h:c.wpIn F n P (noGo Q) a w):(Code.scope c).wpIn F n P Q a w:=by
 intro b k cs hro hb hr
 have h0:(lone (b.atR a (.code (.scope c)::k)) cs w).fenced P F:=fenced_calm hb hr rfl
 obtain ⟨e,a₁,w₁,hq,harr⟩:=h b (.inScope c::k) cs hro hb hr
 cases e with
 |normal=>exact ⟨.normal,a₁,w₁,hq,.head h0 stepR_scope (StepsIn.trans harr (.one (fenced_calm hb hr rfl) stepR_inScope))⟩
 |exit id=>
  have hx:exitTo id (.inScope c::k)=exitTo id k:=by simp [exitTo]
  exact ⟨.exit id,a₁,w₁,hq,fun k' hk=> .head h0 stepR_scope (harr.1 k' (by rw [hx];exact hk)),
   fun hr' hk=>let ⟨k₁,h1,h2⟩:=harr.2 hr' (by rw [hx];exact hk);⟨k₁,h1,.head h0 stepR_scope h2⟩⟩
 |goto l=>exact hq.elim
 |ret=>exact ⟨_,a₁,w₁,hq,.of_steps (.one h0 stepR_scope) harr⟩
 |panic ch=>exact ⟨_,a₁,w₁,hq,.of_steps (.one h0 stepR_scope) harr⟩
 |outgrown=>exact ⟨_,a₁,w₁,hq,.of_steps (.one h0 stepR_scope) harr⟩
variable {P:Program} {H:Hp}
structure FnS (P:Program) (f:FuncId) (k:Nat) (rs:List ResultVar) (lc:LC):Prop where
 ex:∃ fn c d x y,P.funcs[f]? =some fn∧fn.body=some (.seq c (.scope d))∧lite c=some x∧lite d=some y∧rfOk c=true∧rfOk d=true∧(fn.name== "runtime.NumGoroutine")=false∧fn.ntmps=k∧fn.results.toList=rs∧lc= .seq x y
theorem FnS.call {f:FuncId} {k:Nat} {rs:List ResultVar} {lc:LC} (h:FnS P f k rs lc) (xs:Array Value) (W:World):(callFunc f xs).run P W= .ok (.enter f xs) W:=by
 obtain ⟨fn,c,d,x,y,h1,h2,_,_,_,_,h5,_⟩:=h.ex
 simp [callFunc,Sem.run_bind,h1,h2]
 simpa using h5
theorem SC_introS (hm:P.follows .mixedOrders=true) {f:FuncId} {k:Nat} {rs:List ResultVar} {lc:LC} (hf:FnS P f k rs lc) {args:List V} {Q:V→Hp→Prop} (h:wpL P lc (entryT k args) H (retP P rs Q)):SC P f args H Q:=by
 intro φ I w xs hS hxs
 refine ⟨hf.call xs,(callsIn_wide (n:=0)).1 ?_⟩
 obtain ⟨fn,c,d,x,y,h1,h2,h3,h3',h4,h4',h5,h6,h7,rfl⟩:=hf.ex
 refine callsIn_of_wp_marks h1 h2 trivial ?_
 have hW:Within w.heap.size φ I H w φ I (entryT k args) H w ⟨xs++Array.replicate (fn.ntmps-xs.size) undef,[]⟩:=by
  refine ⟨⟨?_,fun i v x hv hx=> ?_⟩,hS,Step.refl,⟨[],List.nodup_nil,rfl,by simp⟩,Nat.le_refl _⟩
  ·simp [entryT,hxs.len,h6]
  ·simp only [entryT] at hv
   rw [List.getElem?_append] at hv
   rw [Array.getElem?_append] at hx
   rw [hxs.len] at hv
   split at hv
   ·rename_i hlt;rw [if_pos hlt] at hx;exact hxs.at_ i v x hv hx
   ·rename_i hlt;rw [if_neg hlt] at hx
    rw [List.getElem?_replicate] at hv
    split at hv
    ·cases hv
     rw [Array.getElem?_replicate] at hx
     split at hx
     ·cases hx;exact undef_VR
     ·cases hx
    ·cases hv
 have fin:∀ {φ' I' T' H'} {a':Act} {w':World},Within w.heap.size φ I H w φ' I' T' H' w' a'→(∃ vs,resVs (tyOf P) T' H' fn.results.toList=some vs∧Q (retV vs) H')→LeavesInM Fence.wide 0 P fn a'.tmps (Ends φ I H w Q) a'.defers .returning w':=by
  rintro φ' I' T' H' a' w' hW' ⟨vs,hv,hq⟩
  obtain ⟨Ds,q1,q2,q3⟩:=hW'.d
  have e:a'=⟨a'.tmps,Ds.map mark⟩:=by rw [←q2]
  rw [q2]
  exact leave_sound rfl hv hq Ds w' (by rw [e] at hW';exact hW')
 rw [h7] at fin
 have h:wpL P x (entryT k args) H (fun z T H=>match z with| .normal=>wpL P y T H (retP P rs Q)|z=>retP P rs Q z T H):=h
 refine wpIn_seq (wpIn_mono (code_sound hm (ro:=none) (n:=0) c x h3 h4 (.inl rfl) hW h) ?_)
 rintro e a' w' ⟨z,rfl,φ',I',T',H',hW',hq⟩
 cases z with
 |normal=>
  refine wpIn_scope (wpIn_mono (code_sound hm (ro:=none) (n:=0) d y h3' h4' (.inl rfl) hW' hq) ?_)
  rintro e a' w' ⟨z,rfl,φ',I',T',H',hW',hq⟩
  unfold retP at hq
  cases z with
  |normal=>
   simp only at hq
   split at hq
   ·rename_i vs hv;exact fin hW' ⟨vs,hv,hq⟩
   ·exact hq.elim
  |ret=>
   simp only at hq
   split at hq
   ·rename_i vs hv;exact fin hW' ⟨vs,hv,hq⟩
   ·exact hq.elim
  |exit id=>exact hq.elim
  |goto l=>exact hq.elim
 |ret=>
  unfold retP at hq
  simp only at hq
  split at hq
  ·rename_i vs hv;exact fin hW' ⟨vs,hv,hq⟩
  ·exact hq.elim
 |exit id=>unfold retP at hq;exact hq.elim
 |goto l=>unfold retP at hq;exact hq.elim
def lcS (P:Program) (f:FuncId):LC:=match P.funcs[f]? with
 |some fn=>match fn.body with
  |some (.seq c (.scope d))=> .seq (liteF c) (liteF d)
  |_=> .skip
 |none=> .skip
def fnS (P:Program) (f:FuncId):Bool:=match P.funcs[f]? with
 |some fn=>match fn.body with
  |some (.seq c (.scope d))=>(lite c).isSome&&(lite d).isSome&&rfOk c&&rfOk d&& !(fn.name== "runtime.NumGoroutine")
  |_=>false
 |none=>false
theorem FnS.of {f:FuncId} (h:fnS P f=true):FnS P f (ntOf P f) (rsOf P f) (lcS P f):=by
 unfold fnS at h
 split at h
 ·rename_i fn h1
  unfold ntOf rsOf lcS
  rw [h1]
  split at h
  ·rename_i c d h2
   simp only [Bool.and_eq_true,Bool.not_eq_true'] at h
   obtain ⟨⟨⟨⟨p1,p2⟩,p3⟩,p4⟩,p5⟩:=h
   obtain ⟨x,hx⟩:=Option.isSome_iff_exists.1 p1
   obtain ⟨y,hy⟩:=Option.isSome_iff_exists.1 p2
   refine ⟨fn,c,d,x,y,h1,h2,hx,hy,p3,p4,p5,rfl,rfl,?_⟩
   simp only [h2,liteF_eq c x hx,liteF_eq d y hy]
  ·cases h
 ·cases h
end Go.Av
namespace Go.Av
open Go.RowKit
open Go.Proofs.Tryz (prog)
theorem pcr_get {l:List Pt} {i:Nat} (h:i<l.length):(l.map pc)[i]? =some (pc (l.getD i default)):=by
 rw [List.getElem?_map,List.getD_eq_getElem?_getD,List.getElem?_eq_getElem h];rfl
theorem eqA_pc (p q:Pt):eqA (tyOf prog) 9 31 (.agg [.prim (.bool (can p.x).neg),.prim (.string (bs ((can p.x).num))),.prim (.string (bs ((can p.x).den))),.prim (.bool (can p.y).neg),.prim (.string (bs ((can p.y).num))),.prim (.string (bs ((can p.y).den)))]) (.agg [.prim (.bool (can q.x).neg),.prim (.string (bs ((can q.x).num))),.prim (.string (bs ((can q.x).den))),.prim (.bool (can q.y).neg),.prim (.string (bs ((can q.y).num))),.prim (.string (bs ((can q.y).den)))])=some (decide (p=q)):=by
 rw [eqA_pt,can_eq]
theorem getD_setP {l:List Pt} {i j:Nat} {x:Pt} (hj:j<l.length):(l.set j x).getD i default=if i=j then x else l.getD i default:=by
 rw [List.getD_eq_getElem?_getD,List.getElem?_set,List.getD_eq_getElem?_getD]
 by_cases h:j=i
 ·subst h;simp [hj]
 ·rw [if_neg h,if_neg (fun e=>h e.symm)]
def swapE (l:List Pt) (k:Nat):List Pt:=(List.range l.length).map fun i=>if i<k∨l.length-k≤i then l.getD (l.length-1-i) default else l.getD i default
theorem swapE_length (l:List Pt) (k:Nat):(swapE l k).length=l.length:=by simp [swapE]
theorem swapE_get {l:List Pt} {k i:Nat} (h:i<l.length):(swapE l k).getD i default=if i<k∨l.length-k≤i then l.getD (l.length-1-i) default else l.getD i default:=by
 unfold swapE
 rw [List.getD_eq_getElem?_getD,List.getElem?_map,List.getElem?_range h];rfl
theorem swapE_zero (l:List Pt):swapE l 0=l:=by
 refine ext_getD (swapE_length l 0) fun i hi=> ?_
 rw [swapE_length] at hi
 rw [swapE_get hi,if_neg (by omega)]
theorem swapE_end {l:List Pt} {k:Nat} (h:l.length-1-k≤k):swapE l k=l.reverse:=by
 refine ext_getD (by rw [swapE_length,List.length_reverse]) fun i hi=> ?_
 rw [swapE_length] at hi
 rw [swapE_get hi,rev_getD hi]
 split
 ·rfl
 ·rw [show l.length-1-i=i by omega]
theorem swapE_step {l:List Pt} {k:Nat} (h:k<l.length-1-k):((swapE l k).set k (l.getD (l.length-1-k) default)).set (l.length-1-k) (l.getD k default)=swapE l (k+1):=by
 refine ext_getD (by simp [swapE_length]) fun i hi=> ?_
 simp only [List.length_set,swapE_length] at hi
 rw [getD_setP (by simp only [List.length_set,swapE_length];omega),getD_setP (by rw [swapE_length];omega),swapE_get hi,swapE_get hi]
 by_cases h1:i=l.length-1-k
 ·rw [if_pos h1,if_pos (by omega),h1,show l.length-1-(l.length-1-k)=k by omega]
 ·rw [if_neg h1]
  by_cases h2:i=k
  ·rw [if_pos h2,if_pos (by omega),h2]
  ·rw [if_neg h2]
   by_cases h3:i<k∨l.length-k≤i
   ·rw [if_pos h3,if_pos (by omega)]
   ·rw [if_neg h3,if_neg (by omega)]
end Go.Av
namespace Go.Av
open Go.RowKit
open Go.Proofs.Tryz (prog)
theorem pc_zero:pc pt0=[.prim (.bool false),.prim (.string (bs ([]))),.prim (.string (bs ([]))),.prim (.bool false),.prim (.string (bs ([]))),.prim (.string (bs ([])))]:=by simp only [pc,pt0,can_zero]
theorem rep_cell (n:Nat):∀ y∈List.replicate n (pc pt0),∀ v∈y,cellV v=true:=by
 intro y hy v hv
 rw [(List.mem_replicate.1 hy).2,pc_zero] at hv
 simp only [List.mem_cons,List.not_mem_nil,or_false] at hv
 rcases hv with rfl|rfl|rfl|rfl|rfl|rfl<;>rfl
theorem grow_sc (n:Nat) (h0:0<n) (hn:n≤2^30) {H:Hp} {K:V→Hp→Prop} (hK:∀ b H',Ext H H'→H.length≤b→get H' b=some (.row 6 true (List.replicate n (pc pt0)))→K (.sref b 0 0 n 6 false) H'):
 SC prog 239 [.prim (.slice none 0 0),.prim (.int .i64 ((n:Nat):Int))] H K:=by
 have fin:=hK H.length (H++[some (.row 6 true (List.replicate n (pc pt0)))]) (Ext.app _) (Nat.le_refl _) get_app_len
 have hr:=rep_cell n
 rw [pc_zero] at fin hr
 refine SCi ?_
 conv in trip _ _=>cbv
 simp only [runT,RN,simprocAttr]
 simp (disch:=omega) only [↓RS,RZ,simprocAttr,Nat.sub_zero]
 refine ⟨hr,⟨fun h=>absurd (congrArg List.length h) (by rw [List.length_replicate];simp;omega),fun _=> ?_⟩⟩
 rw [List.length_replicate]
 refine ⟨by show n*80≤_;omega,by omega,?_⟩
 simp (disch:=omega) only [↓RS,RZ,simprocAttr]
 exact fin
theorem elemsOf_keep {H H':Hp} {sz:Nat} {v:V} {es:List (List V)} (e:elemsOf H sz v=some es) (hk:∀ c k,get H c=some k→get H' c=some k):elemsOf H' sz v=some es:=by
 cases v with
 |sref b o n c s f=>
  simp only [elemsOf] at e ⊢
  cases hg:get H b with
  |none=>rw [hg] at e;cases e
  |some k=>rw [hg] at e;rw [hk _ _ hg];exact e
 |prim x=>unfold elemsOf at e ⊢;split at e<;>simp_all
 |_=>exact e
theorem splice_two {es xs ys:List (List V)} (h:es.length=xs.length+ys.length):splice (splice es 0 xs) xs.length ys=xs++ys:=by
 unfold splice
 simp only [List.take_zero,List.nil_append,Nat.zero_add]
 rw [List.take_left' rfl,List.drop_eq_nil_of_le (by simp;omega),List.append_nil]
theorem app_room {P:Program} {H:Hp} {ei:TyI} {b n c:Nat} {es ys:List (List V)} {K:V→Hp→Prop} (hg:get H b=some (.row ei.sz true es)) (hy:∀ y∈ys,∀ v∈y,cellV v=true) (h1:n+ys.length≤c) (h2:c≤es.length)
 (hK:K (.sref b 0 (n+ys.length) c ei.sz false) (H.set b (some (.row ei.sz true (splice es n ys))))):wpAppend P H ei (.sref b 0 n c ei.sz false) ys K:=by
 refine ⟨hy,?_⟩
 simp only [hg]
 exact ⟨trivial,by omega,.inl ⟨h1,by omega,trivial,by rw [Nat.zero_add];exact hK⟩⟩
theorem concat_sc (A B:List Pt) (h0:0<A.length+B.length) (hn:A.length+B.length≤2^30) {c:Nat} {fx:Bool} {v1 v2:V} {H:Hp} {K:V→Hp→Prop} (hc:get H c=some (.row 1 true [[v1],[v2]]))
 (e1:elemsOf H 6 v1=some (A.map pc)) (l1:lenV v1=some A.length) (e2:elemsOf H 6 v2=some (B.map pc)) (l2:lenV v2=some B.length) (hK:NewL H (A++B) K):
 SC prog 166 [.sref c 0 2 2 1 fx] H K:=by
 have hcl:=get_lt_len hc
 have e1':∀ {H'},Ext H H'→elemsOf H' 6 v1=some (A.map pc):=fun hE=>elemsOf_keep e1 (fun c k h=>hE.get h)
 have e2':∀ {H'},Ext H H'→elemsOf H' 6 v2=some (B.map pc):=fun hE=>elemsOf_keep e2 (fun c k h=>hE.get h)
 unfold lenV at l1 l2
 refine SCi ?_
 conv in trip _ _=>cbv
 simp only [runT,RN,simprocAttr]
 simp (disch:=omega) only [↓RS,RZ,simprocAttr]
 refine wp_iter 3 ?_
 simp (disch:=omega) only [↓RS,RZ,simprocAttr,iterL_s,itQ_normal,itQ_exit,itQ_ret,Int.reduceAdd,Int.zero_add,hc,l1,l2]
 refine call_sc (grow_sc (A.length+B.length) h0 hn ?_)
 intro b H' hE hb hg
 have hc':=hE.get hc
 have e1':=e1' hE
 have e2':∀ x,elemsOf (H'.set b x) 6 v2=some (B.map pc):=fun x=>elemsOf_keep e2 (fun c k h=>by
  have:=get_lt_len h
  rw [get_ne (by omega)];exact hE.get h)
 have hc2:∀ x,get (H'.set b x) c=some (.row 1 true [[v1],[v2]]):=fun x=>by rw [get_ne (by omega)];exact hc'
 have hb2:∀ x,get (H'.set b x) b=x:=fun x=>get_eq (get_lt_len hg)
 simp (disch:=omega) only [↓RS,RZ,simprocAttr] at e1' e2'
 simp (disch:=omega) only [↓RS,RZ,simprocAttr]
 refine wp_iter 3 ?_
 simp (disch:=omega) only [↓RS,RZ,simprocAttr,iterL_s,itQ_normal,itQ_exit,itQ_ret,Int.reduceAdd,Int.zero_add,hc',e1']
 refine app_room hg (prims_cell (pc_prims A)) ?_ ?_ ?_
 ·simp only [List.length_map];omega
 ·simp only [List.length_replicate];omega
 have hla:(A.map pc).length=A.length:=List.length_map ..
 have hlb:(B.map pc).length=B.length:=List.length_map ..
 rw [hla,Nat.zero_add]
 simp (disch:=omega) only [↓RS,RZ,simprocAttr,iterL_s,itQ_normal,itQ_exit,itQ_ret,Int.reduceAdd,Int.zero_add,hc2,e2']
 refine app_room (hb2 _) (prims_cell (pc_prims B)) ?_ ?_ ?_
 ·rw [hlb];exact Nat.le_refl _
 ·unfold splice;simp only [List.length_append,List.length_take,List.length_drop,List.length_replicate,hla];omega
 have hsp:splice (splice (List.replicate (A.length+B.length) (pc pt0)) 0 (A.map pc)) A.length (B.map pc)=(A++B).map pc:=by
  have:=splice_two (es:=List.replicate (A.length+B.length) (pc pt0)) (xs:=A.map pc) (ys:=B.map pc) (by rw [List.length_replicate,hla,hlb])
  rw [hla] at this
  rw [this,List.map_append]
 have hset:∀ x y,(H'.set b x).set b y=H'.set b y:=fun x y=>List.set_set ..
 rw [hlb,hset,hsp]
 have hcb:=get_lt_len hg
 have hE2:Ext H (H'.set b (some (.row 6 true ((A++B).map pc)))):=⟨by rw [List.length_set];exact hE.len,fun {c k} h=>by
  have:=get_lt_len h
  rw [get_ne (by omega)];exact hE.get h⟩
 have fin:=hK b _ hE2 hb (get_eq hcb)
 have hc3:=hc2 (some (.row 6 true ((A++B).map pc)))
 rw [List.length_append] at fin
 generalize H'.set b (some (Blk.row 6 true ((A++B).map pc)))=H3 at*
 simp (disch:=omega) only [↓RS,RZ,simprocAttr,iterL_s,itQ_normal,itQ_exit,itQ_ret,Int.reduceAdd,Int.zero_add,hc3]
 exact fin
end Go.Av
namespace Go.Av
open Go.RowKit
variable {P:Program} {H:Hp}
theorem SC_freeze1 {f:FuncId} {args us:List V} {r:V} {K:V→Hp→Prop} {b sz:Nat} {es:List (List V)} (hb:get H b=some (.row sz true es))
 (hv:viewArgs ((List.replicate H.length none).set b (some (.row sz true es))) args=some us) (hp:PC P f us r) (hK:K r (H.set b none)):SC P f args H K:=by
 intro φ I w xs hS hxs
 have hbl:=get_lt hb
 have gM:∀ c k,get ((List.replicate H.length none).set b (some (.row sz true es))) c=some k→c=b∧k= .row sz true es:=by
  intro c k h
  unfold get at h
  rw [List.getElem?_set] at h
  split at h
  ·rename_i e
   rw [if_pos (by rw [List.length_replicate];exact hbl)] at h
   exact ⟨e.symm,by cases h;rfl⟩
  ·rw [List.getElem?_replicate] at h
   split at h<;>cases h
 have hM:SR φ I ((List.replicate H.length none).set b (some (.row sz true es))) w:=by
  refine ⟨fun c L h=>⟨by simpa using (hS.dom c L h).1,(hS.dom c L h).2⟩,hS.imm,fun c L k h hk=> ?_,fun c c' L L' k k' _ _ h3 h4 _ _ _=> ?_⟩
  ·obtain ⟨rfl,rfl⟩:=gM c k hk
   exact hS.blk c L _ h hb
  ·rw [(gM c k h3).1,(gM c' k' h4).1]
 obtain ⟨q1,q2⟩:=viewArgs_get hv
 have key:∀ J:Nat→Prop,SR φ J (H.set b none) w→Step φ I H w φ J (H.set b none) w→(∀ B,I B→J B)→(∀ L,φ b=some L→J L.B)→
  (∀ W,(callFunc f xs).run P W= .ok (.enter f xs) W)∧Calls P f xs w (Ends φ I H w K):=by
  intro J hJ hst hIJ hJb
  have hargs:VRs (fun _=>none) J w us xs:=⟨by rw [q1,hxs.len],fun k v x h1 h2=>by
   obtain ⟨v1,hv1,hvv⟩:=get_back q1 q2 h1
   refine view_VR hIJ hM 9 v1 v x hvv (hxs.at_ k v1 x hv1 h2) (.inr fun c L k h hk=> ?_)
   obtain ⟨rfl,_⟩:=gM c k hk
   exact hJb L h⟩
  obtain ⟨h1,h2⟩:=hp J w xs hJ.imm hargs
  refine ⟨h1,h2.mono ?_⟩
  rintro e w' ⟨x,rfl,hx,hbelow⟩
  obtain ⟨p1,p2⟩:=hJ.below (I':=fun B=>J B∨(w.heap.size≤B∧B<w'.heap.size)) hbelow (fun _ h=> .inl h) (fun _ h=>h)
  exact ⟨x,r,_,φ,_,rfl,hK,hx.any,p1,hst.trans p2⟩
 cases hφ:φ b with
 |none=>
  have hse:H.set b none=setH H b none:=(setH_lt _ hbl).symm
  obtain ⟨k1,k2⟩:=hS.kill hbl
  rw [←hse] at k1 k2
  exact key I k1 k2 (fun _ h=>h) (fun L h=>by rw [hφ] at h;cases h)
 |some L=>
  obtain ⟨k1,k2⟩:=hS.freeze hφ hb
  exact key _ k1 k2 (fun _ h=> .inl h) (fun L' h=>by rw [hφ] at h;cases h;exact .inr rfl)
end Go.Av
