/- Helping texts: Se, Sf, Sg, Sh, Sj, Si, Sk, Sl, Sp, Sq. -/
import Derived.Test.YtbidkolaahnbiaaGreatKSc
import Derived.Test.YtbidkolaahnbiaaGreatKSo
import Derived.Test.YtbidkolaahnbiaaGreatKRq
import Derived.Test.YtbidkolaahnbiaaGreatKFh
import Derived.Test.YtbidkolaahnbiaaGreatKFd
set_option linter.unusedSimpArgs false
set_option linter.unusedVariables false
set_option maxRecDepth 100000
set_option maxHeartbeats 16000000
namespace Go.Av
open Go.RowKit
open Go.Proofs.Tryz (prog)
end Go.Av
namespace Go.Av
open Go.RowKit
open Go.Proofs.Tryz (prog)
instance:DecidableEq Rp:=fun a b=>decidable_of_iff (a.x=b.x∧a.y=b.y) ⟨fun h=>by cases a;cases b;simp only at h;rw [h.1,h.2],fun h=>by subst h;exact ⟨rfl,rfl⟩⟩
theorem eqA_rp (p q:Rp):eqA (tyOf prog) 9 31 (.agg [.prim (.bool p.x.neg),.prim (.string (bs (p.x.num))),.prim (.string (bs (p.x.den))),.prim (.bool p.y.neg),.prim (.string (bs (p.y.num))),.prim (.string (bs (p.y.den)))]) (.agg [.prim (.bool q.x.neg),.prim (.string (bs (q.x.num))),.prim (.string (bs (q.x.den))),.prim (.bool q.y.neg),.prim (.string (bs (q.y.num))),.prim (.string (bs (q.y.den)))])=some (decide (p=q)):=by
 rw [eqA_pt]
 congr 1
 rw [decide_eq_decide]
 exact ⟨fun h=>by cases p;cases q;simp only at h;rw [h.1,h.2],fun h=>by subst h;exact ⟨rfl,rfl⟩⟩
theorem list_eq_iff {α:Type} {d:α} {A B:List α}:A=B↔A.length=B.length∧∀ i,i<A.length→A.getD i d=B.getD i d:=by
 constructor
 ·rintro rfl;exact ⟨rfl,fun _ _=>rfl⟩
 ·rintro ⟨h1,h2⟩
  refine List.ext_getElem h1 fun i k1 k2=> ?_
  have:=h2 i k1
  rwa [List.getD_eq_getElem?_getD,List.getD_eq_getElem?_getD,List.getElem?_eq_getElem k1,List.getElem?_eq_getElem k2] at this
theorem rsame_pc (A B:List Rp) (hA:A.length<2^40) (hB:B.length<2^40):PC prog 90 [rpsV A,rpsV B] (.prim (.bool (decide (A=B)))):=by
 by_cases hl:A.length=B.length
 ·skip
  refine PCi ?_
  conv in trip _ _=>cbv
  simp only [runT,RN,simprocAttr]
  simp (disch:=omega) only [↓RS,RZ,simprocAttr,rpsV,rpc_length]
  refine wp_lp (fun (i:Nat) J=>ov [(0,rpsV A),(1,rpsV B),(5,.prim (.int .i64 ((i:Nat):Int)))] J 0 26) (fun i _=>i≤A.length∧∀ j,j<i→A.getD j default=B.getD j default) (fun i=>A.length-i) 0 rfl ⟨Nat.zero_le _,fun j hj=>absurd hj (Nat.not_lt_zero j)⟩ ?_
  rintro i J H ⟨hi,hp⟩
  try conv in ov _ _ _ _=>simp only [ov,List.lookup,RO,simprocAttr]
  rcases Nat.lt_or_ge i A.length with hlt|hge
  ·have g1:=rpc_getD hlt
   have g2:=rpc_getD (l:=B) (k:=i) (by omega)
   have e:=eqA_rp (A.getD i default) (B.getD i default)
   by_cases h:A.getD i default=B.getD i default
   ·rw [decide_eq_true h] at e
    simp (disch:=omega) only [↓RS,RZ,simprocAttr,rpsV,rpc_length,g1,g2,rpc,e]
    exact lp_next (i+1) rfl ⟨hlt,fun j hj=>by
     rcases Nat.lt_or_ge j i with h|h
     ·exact hp j h
     ·rw [show j=i by omega];assumption⟩ (by omega)
   ·rw [decide_eq_false h] at e
    rw [decide_eq_false (fun k=>h (by rw [k]))]
    simp (disch:=omega) only [↓RS,RZ,simprocAttr,rpsV,rpc_length,g1,g2,rpc,e]
  ·have hia:i=A.length:=by omega
   subst hia
   rw [decide_eq_true ((list_eq_iff (d:=default)).2 ⟨hl,hp⟩)]
   simp (disch:=omega) only [↓RS,RZ,simprocAttr,rpsV,rpc_length]
 ·rw [decide_eq_false (fun k=>hl (by rw [k]))]
  refine PCi ?_
  conv in trip _ _=>cbv
  simp only [runT,RN,simprocAttr]
  simp (disch:=omega) only [↓RS,RZ,simprocAttr,rpsV,rpc_length]
theorem rsameP_pc (O:List Rp) (hs:List (List Rp)) (O':List Rp) (hs':List (List Rp)) (h1:O.length<2^40) (h2:O'.length<2^40) (h3:hs.length<2^40) (h4:hs'.length<2^40) (k1:∀ l∈hs,l.length<2^40) (k2:∀ l∈hs',l.length<2^40):
 PC prog 24 [pgV O hs,pgV O' hs'] (.prim (.bool (decide (O=O'∧hs=hs')))):=by
 have s:=rsame_pc O O' h1 h2
 by_cases hO:O=O'
 ·rw [decide_eq_true hO] at s
  by_cases hl:hs.length=hs'.length
  ·skip
   refine PCi ?_
   conv in trip _ _=>cbv
   simp only [runT,RN,simprocAttr]
   simp (disch:=omega) only [↓RS,RZ,simprocAttr,pgV,hsV,rpsV,one_length,hs_length]
   refine cX s ?_
   simp (disch:=omega) only [↓RS,RZ,simprocAttr,one_length,hs_length]
   refine wp_lp (fun (i:Nat) J=>ov [(2,.ptr 0 0 0),(3,.ptr 1 0 0),(5,.prim (.int .i64 ((i:Nat):Int)))] J 0 40) (fun i H=>(i≤hs.length∧∀ j,j<i→hs.getD j []=hs'.getD j [])∧H=[some (.row 2 true [[rpsV O,hsV hs]]),some (.row 2 true [[rpsV O',hsV hs']])]) (fun i=>hs.length-i) 0 rfl ⟨⟨Nat.zero_le _,fun j hj=>absurd hj (Nat.not_lt_zero j)⟩,rfl⟩ ?_
   rintro i J _ ⟨⟨hi,hp⟩,rfl⟩
   try conv in ov _ _ _ _=>simp only [ov,List.lookup,RO,simprocAttr]
   rcases Nat.lt_or_ge i hs.length with hlt|hge
   ·have g1:((hs.map rpsV).map fun v=>[v]).getD i []=[rpsV (hs.getD i [])]:=by rw [one_getD (by rw [hs_length];exact hlt),hs_getD hlt]
    have g2:((hs'.map rpsV).map fun v=>[v]).getD i []=[rpsV (hs'.getD i [])]:=by rw [one_getD (by rw [hs_length];omega),hs_getD (by omega)]
    have m1:hs.getD i []∈hs:=by rw [List.getD_eq_getElem?_getD,List.getElem?_eq_getElem hlt];exact List.getElem_mem hlt
    have m2:hs'.getD i []∈hs':=by rw [List.getD_eq_getElem?_getD,List.getElem?_eq_getElem (by omega)];exact List.getElem_mem (by omega)
    have c:=rsame_pc (hs.getD i []) (hs'.getD i []) (k1 _ m1) (k2 _ m2)
    by_cases h:hs.getD i []=hs'.getD i []
    ·rw [decide_eq_true h] at c
     simp (disch:=omega) only [↓RS,RZ,simprocAttr,hsV,rpsV,one_length,hs_length,g1,g2]
     refine cX c ?_
     simp (disch:=omega) only [↓RS,RZ,simprocAttr]
     exact lp_next (i+1) rfl ⟨⟨hlt,fun j hj=>by
      rcases Nat.lt_or_ge j i with h|h
      ·exact hp j h
      ·rw [show j=i by omega];assumption⟩,rfl⟩ (by omega)
    ·rw [decide_eq_false h] at c
     rw [decide_eq_false (fun k=>h (by rw [k.2]))]
     simp (disch:=omega) only [↓RS,RZ,simprocAttr,hsV,rpsV,one_length,hs_length,g1,g2]
     refine cX c ?_
     simp (disch:=omega) only [↓RS,RZ,simprocAttr]
   ·have hia:i=hs.length:=by omega
    subst hia
    rw [decide_eq_true ⟨hO,(list_eq_iff (d:=[])).2 ⟨hl,hp⟩⟩]
    simp (disch:=omega) only [↓RS,RZ,simprocAttr,hsV,rpsV,one_length,hs_length]
  ·rw [decide_eq_false (fun k=>hl (by rw [k.2]))]
   refine PCi ?_
   conv in trip _ _=>cbv
   simp only [runT,RN,simprocAttr]
   simp (disch:=omega) only [↓RS,RZ,simprocAttr,pgV,hsV,rpsV,one_length,hs_length]
   refine cX s ?_
   simp (disch:=omega) only [↓RS,RZ,simprocAttr,one_length,hs_length]
 ·rw [decide_eq_false hO] at s
  rw [decide_eq_false (fun k=>hO k.1)]
  refine PCi ?_
  conv in trip _ _=>cbv
  simp only [runT,RN,simprocAttr]
  simp (disch:=omega) only [↓RS,RZ,simprocAttr,pgV,hsV,rpsV,one_length,hs_length]
  refine cX s ?_
  simp (disch:=omega) only [↓RS,RZ,simprocAttr]
theorem cg_pg (L:List Pt) (Hs:List (List Pt)):cgV L Hs=pgV (L.map Pt.rp) (Hs.map fun l=>l.map Pt.rp):=by
 unfold cgV pgV hsV
 rw [psV_rps,List.map_map,List.map_map,List.map_map]
 have:Hs.map ((fun v=>[v])∘psV)=Hs.map (((fun v=>[v])∘rpsV)∘fun l=>l.map Pt.rp):=List.map_congr_left fun l _=>by
  simp only [Function.comp_apply,psV_rps]
 rw [this]
theorem rsameC_pc (L:List Pt) (Hs:List (List Pt)) (h1:L.length<2^40) (h3:Hs.length<2^40) (k1:∀ l∈Hs,l.length<2^40):PC prog 24 [cgV L Hs,cgV L Hs] (.prim (.bool true)):=by
 have k:∀ l∈Hs.map (fun l=>l.map Pt.rp),l.length<2^40:=fun l hl=>by
  obtain ⟨m,hm,rfl⟩:=List.mem_map.1 hl
  rw [List.length_map];exact k1 m hm
 have:=rsameP_pc (L.map Pt.rp) (Hs.map fun l=>l.map Pt.rp) (L.map Pt.rp) (Hs.map fun l=>l.map Pt.rp) (by rw [List.length_map];exact h1) (by rw [List.length_map];exact h1) (by rw [List.length_map];exact h3) (by rw [List.length_map];exact h3) k k
 rw [decide_eq_true ⟨rfl,rfl⟩,←cg_pg] at this
 exact this
theorem VR_nil6 {φ:Nat→Option Loc} {I:Nat→Prop} {w:World} {x:Value} (h:VR φ I w (.agg [.prim (.slice none 0 0),.prim (.slice none 0 0)]) x):VR φ I w (.agg [.lst 6 [],.lst 1 []]) x:=by
 cases h with
 |agg h1 hx=>
  refine .agg h1 fun k v x hv hxk=> ?_
  match k,hv with
  |0,hv=>cases hv;have:=hx 0 _ x rfl hxk;cases this;exact .lnil
  |1,hv=>cases hv;have:=hx 1 _ x rfl hxk;cases this;exact .lnil
  |k+2,hv=>simp at hv
theorem rsameN_pc:PC prog 24 [.agg [.prim (.slice none 0 0),.prim (.slice none 0 0)],.agg [.prim (.slice none 0 0),.prim (.slice none 0 0)]] (.prim (.bool true)):=by
 have:=rsameP_pc [] [] [] [] (by simp) (by simp) (by simp) (by simp) (by simp) (by simp)
 rw [decide_eq_true ⟨rfl,rfl⟩] at this
 exact PC_arg (fun _ _ _ h=>VR_nil6 h) (PC_arg2 (fun _ _ _ h=>VR_nil6 h) this)
end Go.Av
namespace Go.Av
open Go.RowKit
open Go.Proofs.Tryz (prog)
theorem rturned_pc (l:List Pt) (hne:l≠[]) (hn:l.length≤2^30):PC prog 230 [psV l] (psV l.reverse):=by
 refine PCi ?_
 conv in trip _ _=>cbv
 simp only [runT,RN,simprocAttr]
 simp (disch:=omega) only [↓RS,RZ,simprocAttr,psV,pc_length]
 refine wp_lp (fun (s:Nat×V) J=>ov [(0,psV l),(3,s.2),(4,.prim (.int .i64 ((s.1:Int)-1)))] J 0 20) (fun s H=>s.1≤l.length∧Bufn 0 H s.2 6 ((l.drop s.1).reverse.map pc)) (fun s=>s.1) (l.length,.prim (.slice none 0 0)) rfl ⟨Nat.le_refl _,by simp only [List.drop_length,List.reverse_nil,List.map_nil];exact .nil (Nat.zero_le _)⟩ ?_
 rintro ⟨m,v⟩ J H ⟨hi,hB⟩
 try conv in ov _ _ _ _=>simp only [ov,List.lookup,RO,simprocAttr]
 simp only at hi hB ⊢
 have d1:=hB.one
 have d2:=hB.cel
 rcases m with _|j
 ·rw [List.drop_zero] at hB
  obtain ⟨b,_,rfl,hg⟩:=hB.cases (by simpa using hne)
  have hlen:(l.reverse.map pc).length=l.length:=by rw [List.length_map,List.length_reverse]
  have htk:(l.reverse.map pc).take l.length=l.reverse.map pc:=by rw [List.take_of_length_le (by omega)]
  have hvl:= @viewLL_prims H 7 _ (pc_prims l.reverse)
  rw [hlen]
  simp (disch:=omega) only [↓RS,RZ,simprocAttr,psV,pc_length,hg,hlen,htk,hvl]
 ·have g1:=pc_getD (l:=l) (k:=j) (by omega)
  have ej:((j+1:Nat):Int)-1=(j:Int):=by omega
  have hdl:(l.drop (j+1)).reverse.length=l.length-(j+1):=by rw [List.length_reverse,List.length_drop]
  rw [ej]
  simp (disch:=omega) only [↓RS,RZ,simprocAttr,psV,pc_length,g1,pc,d1,d2]
  refine Bufn.append (hB.app _) (by simp [cellV]) (by simp only [List.length_cons,List.length_nil,List.length_map,hdl];omega) (by simp only [List.length_cons,List.length_nil,List.length_map,hdl];omega) ?_
  intro v' H3 hb3 hk
  have e1:=hb3.one
  have e2:=hb3.cel
  simp (disch:=omega) only [↓RS,RZ,simprocAttr,e1,e2]
  refine lp_next (j,v') rfl ⟨by simp only;omega,?_⟩ (by simp only;omega)
  show Bufn 0 H3 v' 6 ((l.drop j).reverse.map pc)
  rw [List.drop_eq_getElem_cons (show j<l.length by omega),List.reverse_cons,List.map_append]
  rw [List.getD_eq_getElem?_getD,List.getElem?_eq_getElem (show j<l.length by omega)] at hb3
  exact hb3
theorem rotL_range {m:List Pt} {k:Nat} (hk:k<m.length):rotL m k=(List.range m.length).map fun j=>m.getD ((k+j)%m.length) default:=by
 refine ext_getD (by rw [rotL_length (by omega),List.length_map,List.length_range]) fun i hi=> ?_
 rw [rotL_length (by omega)] at hi
 rw [rotL_getD (by omega) hi,List.getD_eq_getElem?_getD (l:=List.map _ _),List.getElem?_map,List.getElem?_range hi]
 simp only [Option.map_some,Option.getD_some]
 split
 ·rw [Nat.mod_eq_of_lt (by omega)]
 ·rw [show k+i=i-(m.length-k)+m.length by omega,Nat.add_mod_right,Nat.mod_eq_of_lt (by omega)]
end Go.Av
namespace Go.Av
open Go.RowKit
open Go.Proofs.Tryz (prog)
variable {P:Program} {K:V→Hp→Prop} {H:Hp} {ei:TyI} {b:Nat} {ys:List (List V)}
theorem append_lit0 {x:List V} (hg:get H b=some (.row ei.sz true [x])) (hK:K (.sref b 0 1 1 ei.sz true) H):wpAppend P H ei (.sref b 0 1 1 ei.sz true) [] K:=by
 unfold wpAppend
 refine ⟨fun y hy=>absurd hy (by simp),?_⟩
 simp only [hg]
 refine ⟨trivial,by simp,.inl ⟨by simp,by simp,trivial,?_⟩⟩
 have e:splice [x] (0+1) []=[x]:=by simp [splice]
 rw [e,set_self hg]
 exact hK
theorem append_lit1 {x:List V} (hg:get H b=some (.row ei.sz true [x])) (hy:∀ y∈ys,∀ v∈y,cellV v=true) (hne:0<ys.length) (h1:(1+ys.length)*ei.bytes≤2^47) (h2:1+ys.length≤2^60)
 (hK:K (.sref H.length 0 (1+ys.length) (1+ys.length) ei.sz false) (H++[some (.row ei.sz true (x::ys))])):wpAppend P H ei (.sref b 0 1 1 ei.sz true) ys K:=by
 unfold wpAppend
 refine ⟨hy,?_⟩
 simp only [hg]
 exact ⟨trivial,by simp,.inr (.inl ⟨trivial,by omega,h1,h2,hK⟩)⟩
theorem append_pre {es:List (List V)} {k:Nat} (hg:get H b=some (.row ei.sz true es)) (hk:k≤es.length) (hy:∀ y∈ys,∀ v∈y,cellV v=true) (hne:0<ys.length) (h1:(k+ys.length)*ei.bytes≤2^47) (h2:k+ys.length≤2^60)
 (hK:K (.sref H.length 0 (k+ys.length) (k+ys.length) ei.sz false) (H++[some (.row ei.sz true (es.take k++ys))])):wpAppend P H ei (.sref b 0 k k ei.sz true) ys K:=by
 unfold wpAppend
 refine ⟨hy,?_⟩
 simp only [hg]
 exact ⟨trivial,by omega,.inr (.inl ⟨trivial,by omega,h1,h2,hK⟩)⟩
theorem append_nil1 (hy:∀ y∈ys,∀ v∈y,cellV v=true) (hne:0<ys.length) (h1:ys.length*ei.bytes≤2^47) (h2:ys.length≤2^60)
 (hK:K (.sref H.length 0 ys.length ys.length ei.sz false) (H++[some (.row ei.sz true ys)])):wpAppend P H ei (.prim (.slice none 0 0)) ys K:=by
 unfold wpAppend
 exact ⟨hy,fun e=>by rw [e] at hne;simp at hne,fun _=>⟨h1,h2,hK⟩⟩
theorem hcel_cell (S:List (List Pt)):∀ y∈S.map hcel,∀ v∈y,cellV v=true:=by
 intro y hy v hv
 obtain ⟨a,_,rfl⟩:=List.mem_map.1 hy
 simp only [hcel,List.mem_singleton] at hv
 rw [hv];rfl
theorem insH_okH {S:List (List Pt)} {h:List Pt} {Q:List Pt→Prop} (h1:∀ a∈S,Q a) (h2:Q h):∀ a∈insH S h,Q a:=by
 intro a ha
 rcases List.mem_cons.1 ((insH_perm S h).mem_iff.1 ha) with rfl|ha
 ·exact h2
 ·exact h1 a ha
end Go.Av
namespace Go.Av
open Go.RowKit
open Go.Proofs.Tryz (prog)
def noV (z:Int):V:= .tup [.agg [.prim (.slice none 0 0),.prim (.slice none 0 0)],.prim (.int .i64 (z))]
structure Small (O:List Rp) (hs:List (List Rp)):Prop where
 n:hs.length<2^40
 nO:O.length<2^40
 kO:∀ p∈O,p.le (2^16)
 kh:∀ l∈hs,l.length<2^40∧∀ p∈l,p.le (2^16)
theorem Small.check {O:List Rp} {hs:List (List Rp)} (h:Small O hs):PC prog 74 [pgV O hs] (.prim (.int .i64 (chkP O hs))):=
 Pcheck_pc O hs (by have:=h.n;omega) (by have:=h.nO;omega) h.kO fun l hl=>⟨by have:=(h.kh l hl).1;omega,(h.kh l hl).2⟩
end Go.Av
namespace Go.Av
open Go.RowKit
open Go.Proofs.Tryz (prog)
end Go.Av
namespace Go.Av
open Go.RowKit
open Go.Proofs.Tryz (prog)
variable {L:List Pt} {Hs:List (List Pt)}
theorem Valid.rcheck_pc (h:Valid L Hs):PC prog 75 [cgV L Hs] (.prim (.int .i64 (0))):=by
 have hf:=h.fine
 have:=rcheckP_pc (L.map Pt.rp) (Hs.map fun l=>l.map Pt.rp) (by rw [List.length_map];have:=h.few;omega) (by rw [List.length_map];have:=h.out.hi;omega) hf.kO (fun l hl=>by
  obtain ⟨m,hm,rfl⟩:=List.mem_map.1 hl
  exact ⟨by rw [List.length_map];have:=(h.holes m hm).hi;omega,(hf.kh _ hl).2⟩)
 rw [hf.chk,←cg_pg] at this
 exact this
end Go.Av
namespace Go.Av
open Go.RowKit
open Go.Proofs.Tryz (prog)
variable {L:List Pt} {Hs:List (List Pt)}
end Go.Av
namespace Go.Av
open Go.RowKit
open Go.Proofs.Tryz (prog)
def Rp.can (p:Rp):Prop:=p.x=Av.can p.x.val∧p.y=Av.can p.y.val
variable {O:List Rp} {hs:List (List Rp)}
theorem Small.rcheck (h:Small O hs):PC prog 75 [pgV O hs] (.prim (.int .i64 (chkP O hs))):=rcheckP_pc O hs h.n h.nO h.kO h.kh
end Go.Av
namespace Go.Av
open Go.RowKit
open Go.Proofs.Tryz (prog)
def Both (f g:FuncId) (args:List V):Prop:=∃ A B z,PC prog f args (.tup [.agg [.lst 6 A,.lst 1 B],.prim (.int .i64 (z))])∧PC prog g args (.tup [.agg [.lst 6 A,.lst 1 B],.prim (.int .i64 (z))])∧
 PC prog 24 [.agg [.lst 6 A,.lst 1 B],.agg [.lst 6 A,.lst 1 B]] (.prim (.bool true))
theorem Both.good {f g:FuncId} {args:List V} {L:List Pt} {Hs:List (List Pt)} (hv:Valid L Hs) (h1:PC prog f args (.tup [cgV L Hs,.prim (.int .i64 (0))])) (h2:PC prog g args (.tup [cgV L Hs,.prim (.int .i64 (0))])):Both f g args:=
 ⟨_,_,0,h1,h2,rsameC_pc L Hs (by have:=hv.out.hi;omega) (by have:=hv.few;omega) fun l hl=>by have:=(hv.holes l hl).hi;omega⟩
variable {O:List Rp} {hs:List (List Rp)}
theorem small_of (hg:greatP O hs=false):Small O hs:=by
 obtain ⟨h1,h2,h3,h4⟩:=greatP_small hg
 refine ⟨by omega,by omega,h2,fun l hl=>⟨?_,(h4 l hl).2⟩⟩
 obtain ⟨i,hi,rfl⟩:=List.mem_iff_getElem.1 hl
 unfold greatP at hg
 simp only [Bool.or_eq_false_iff,decide_eq_false_iff_not] at hg
 obtain ⟨_,_,_,k4,_⟩:=hg
 have:=anyTo_get k4 (i:=i) (by omega)
 simp only [Bool.or_eq_false_iff,decide_eq_false_iff_not] at this
 have:=this.1
 rw [List.getD_eq_getElem?_getD,List.getElem?_eq_getElem hi] at this
 simp only [Option.getD_some] at this
 omega
end Go.Av
