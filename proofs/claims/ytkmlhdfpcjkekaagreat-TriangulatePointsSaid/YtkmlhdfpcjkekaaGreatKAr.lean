/- Helping texts: Ar. -/
import Derived.Test.YtkmlhdfpcjkekaaGreatKAs14
set_option linter.unusedSimpArgs false
set_option linter.unusedVariables false
set_option maxRecDepth 100000
set_option maxHeartbeats 16000000
namespace Go.Av
open Go.RowKit
variable {P:Program} {t:V} {T:List V} {H:Hp} {K:V→Hp→Prop} {Q:Post} {Qo:List V→Hp→Prop}
def seqQ (P:Program) (b:LC) (Q:Post):Post:=fun x T H=>match x with
 | .normal=>wpL P b T H Q
 |x=>Q x T H
def blockQ (id:Nat) (Q:Post):Post:=fun x T H=>match x with
 | .exit i=>if i=id then Q .normal T H else Q (.exit i) T H
 |x=>Q x T H
def condP (v:V) (p q:Prop):Prop:=match v with
 | .prim (.bool t)=>(t=true→p)∧(t=false→q)
 |_=>False
def opsK (P:Program) (os:List LOp) (T:List V) (d:Option Tmp) (Q:List V→Hp→Prop):V→Hp→Prop:=fun v H=>wpOps P os (putT T d v) H Q
def opsKD (P:Program) (os:List LOp) (h:Hist) (T:List V) (d:Option Tmp) (Q:List V→Hp→Prop):V→Hp→Prop:=fun v H=>wpOpsD P os h (putT T d v) H Q
def gP (v:V) (want:Bool) (p q:Prop):Prop:=match v with
 | .prim (.bool t)=>(t=want→p)∧(t= !want→q)
 | .tup []=>q
 |_=>False
def footQ (P:Program) (o:LOp) (os:List LOp) (h:Hist) (T:List V) (H:Hp) (Q:List V→Hp→Prop):Option (Bool×List Nat)→Prop
 |none=>wpG (wpOpD P) T H o (opsKD P os h T o.dst Q)
 |some f=>h.any (clash o.bef f)=false∧wpG (wpOpD P) T H o (opsKD P os ((o.idx,f)::h) T o.dst Q)
def orP:Option (Prop×V)→(V→Hp→Prop)→Hp→Prop
 |some (c,v),K,H=>c∧K v H
 |none,_,_=>False
def orV:Option V→(V→Hp→Prop)→Hp→Prop
 |some v,K,H=>K v H
 |none,_,_=>False
def orA:Option (Prop×Blk×(Nat→V))→(V→Hp→Prop)→Hp→Prop
 |some (c,k,mk),K,H=>c∧K (mk H.length) (H++[some k])
 |none,_,_=>False
theorem wpL_skip:wpL P .skip (t::T) H Q=Q .normal (t::T) H:=by rw [wpL]
theorem wpL_opsF {l:List LOp}:wpL P (.ops false l) (t::T) H Q=wpOps P l (t::T) H (Q .normal):=by rw [wpL]
theorem wpL_opsT {l:List LOp}:wpL P (.ops true l) (t::T) H Q=wpOpsD P l [] (t::T) H (Q .normal):=by rw [wpL]
theorem wpL_seq {a b:LC}:wpL P (.seq a b) (t::T) H Q=wpL P a (t::T) H (seqQ P b Q):=by rw [wpL];rfl
theorem wpL_cond {c:Operand} {a b:LC}:wpL P (.cond c a b) (t::T) H Q=condP (ev (t::T) c) (wpL P a (t::T) H Q) (wpL P b (t::T) H Q):=by rw [wpL];rfl
theorem wpL_block {id:Nat} {c:LC}:wpL P (.block id c) (t::T) H Q=wpL P c (t::T) H (blockQ id Q):=by rw [wpL];rfl
theorem wpL_exit {id:Nat}:wpL P (.exit id) (t::T) H Q=Q (.exit id) (t::T) H:=by rw [wpL]
theorem wpL_goto {id:Nat}:wpL P (.goto id) (t::T) H Q=Q (.goto id) (t::T) H:=by rw [wpL]
theorem wpL_ret:wpL P .ret (t::T) H Q=Q .ret (t::T) H:=by rw [wpL]
theorem seqQ_normal {b:LC}:seqQ P b Q .normal T H=wpL P b T H Q:=rfl
theorem seqQ_exit {b:LC} {i:Nat}:seqQ P b Q (.exit i) T H=Q (.exit i) T H:=rfl
theorem seqQ_goto {b:LC} {i:Nat}:seqQ P b Q (.goto i) T H=Q (.goto i) T H:=rfl
theorem seqQ_ret {b:LC}:seqQ P b Q .ret T H=Q .ret T H:=rfl
theorem blockQ_normal {id:Nat}:blockQ id Q .normal T H=Q .normal T H:=rfl
theorem blockQ_exit {id i:Nat}:blockQ id Q (.exit i) T H=if i=id then Q .normal T H else Q (.exit i) T H:=rfl
theorem blockQ_goto {id i:Nat}:blockQ id Q (.goto i) T H=Q (.goto i) T H:=rfl
theorem blockQ_ret {id:Nat}:blockQ id Q .ret T H=Q .ret T H:=rfl
theorem condP_bool {b:Bool} {p q:Prop}:condP (.prim (.bool b)) p q=((b=true→p)∧(b=false→q)):=rfl
theorem opsK_eq {os:List LOp} {d:Option Tmp} {v:V}:opsK P os (t::T) d Qo v H=wpOps P os (putT (t::T) d v) H Qo:=rfl
theorem opsKD_eq {os:List LOp} {h:Hist} {d:Option Tmp} {v:V}:opsKD P os h (t::T) d Qo v H=wpOpsD P os h (putT (t::T) d v) H Qo:=rfl
theorem putT_some {d:Tmp} {v:V}:putT T (some d) v=T.set d v:=rfl
theorem putT_none {v:V}:putT T none v=T:=rfl
theorem wpOps_nil:wpOps P [] (t::T) H Qo=Qo (t::T) H:=by rw [wpOps]
theorem wpOps_cons {o:LOp} {os:List LOp}:wpOps P (o::os) (t::T) H Qo=wpG (wpOp P) (t::T) H o (opsK P os (t::T) o.dst Qo):=by rw [wpOps];rfl
theorem wpOpsD_nil {h:Hist}:wpOpsD P [] h (t::T) H Qo=Qo (t::T) H:=by rw [wpOpsD]
theorem wpOpsD_cons {o:LOp} {os:List LOp} {h:Hist}:wpOpsD P (o::os) h (t::T) H Qo=footQ P o os h (t::T) H Qo (foot (t::T) H H.length o.op):=by rw [wpOpsD];rfl
theorem footQ_none {o:LOp} {os:List LOp} {h:Hist}:footQ P o os h (t::T) H Qo none=wpG (wpOpD P) (t::T) H o (opsKD P os h (t::T) o.dst Qo):=rfl
theorem footQ_some {o:LOp} {os:List LOp} {h:Hist} {f:Bool×List Nat}:footQ P o os h (t::T) H Qo (some f)=(h.any (clash o.bef f)=false∧wpG (wpOpD P) (t::T) H o (opsKD P os ((o.idx,f)::h) (t::T) o.dst Qo)):=rfl
theorem wpG_none {W:List V→Hp→Op→(V→Hp→Prop)→Prop} {d:Option Tmp} {op:Op} {i b:Nat}:wpG W (t::T) H ⟨d,op,none,i,b⟩ K=W (t::T) H op K:=rfl
theorem wpG_some {W:List V→Hp→Op→(V→Hp→Prop)→Prop} {d:Option Tmp} {op:Op} {i b g:Nat} {want:Bool}:wpG W (t::T) H ⟨d,op,some (g,want),i,b⟩ K=gP ((t::T).getD g undefV) want (W (t::T) H op K) (K undefV H):=rfl
theorem gP_bool {b want:Bool} {p q:Prop}:gP (.prim (.bool b)) want p q=((b=want→p)∧(b= !want→q)):=rfl
theorem gP_undef {want:Bool} {p q:Prop}:gP (.tup []) want p q=q:=rfl
theorem ev_tmp {k:Tmp}:ev T (.tmp k)=T.getD k undefV:=rfl
theorem ev_const {v:Value}:ev T (.const v)= .prim v:=rfl
theorem ev_func {f:FuncId}:ev T (.func f)= .clo f [] []:=rfl
theorem ev_global {g:Nat}:ev T (.global g)= .prim (.pointer (some ⟨g,0,none⟩)):=rfl
theorem orP_some {c:Prop} {v:V}:orP (some (c,v)) K H=(c∧K v H):=rfl
theorem orV_some {v:V}:orV (some v) K H=K v H:=rfl
theorem orA_some {c:Prop} {k:Blk} {mk:Nat→V}:orA (some (c,k,mk)) K H=(c∧K (mk H.length) (H++[some k])):=rfl
theorem wpOp_of_n {op:Op} {r:Option (Prop×V)} (h:evN (tyOf P) T op=r) (ha:evA (tyOf P) T op=none) (hl:evL (tyOf P) T H op=none) (he:wpEff P T H op K=False):wpOp P T H op K=orP r K H:=by
 unfold wpOp wpVal
 rw [h,ha,hl]
 cases r with
 |none=>simp [he,orP]
 |some r=>rfl
theorem wpOp_move {x:Operand}:wpOp P T H (.move x) K=K (ev T x) H:=by rw [wpOp_of_n rfl rfl rfl rfl];simp [evN,orP]
theorem wpOp_assign {x:Operand}:wpOp P T H (.assign x) K=K (ev T x) H:=by rw [wpOp_of_n rfl rfl rfl rfl];simp [evN,orP]
def pickV (c a b:V):Option (Prop×V):=match c with
 | .prim (.bool t)=>some (True,if t then a else b)
 |_=>none
theorem wpOp_pick {c a b:Operand}:wpOp P T H (.pick c a b) K=orP (pickV (ev T c) (ev T a) (ev T b)) K H:=by rw [wpOp_of_n rfl rfl rfl rfl];rfl
theorem pickV_eq {c:Bool} {a b:V}:pickV (.prim (.bool c)) a b=some (True,if c then a else b):=rfl
theorem wpOp_build {ty:TypeId} {ps:Array (Nat×Operand)}:wpOp P T H (.build ty ps) K=orP (evN (tyOf P) T (.build ty ps)) K H:=by rw [wpOp_of_n rfl rfl rfl rfl]
def nilP (r:Option (Prop×V)) (q:Prop) (K:V→Hp→Prop) (H:Hp):Prop:=match r with
 |some (c,v)=>c∧K v H
 |none=>q
theorem nilP_some {c:Prop} {v:V} {q:Prop}:nilP (some (c,v)) q K H=(c∧K v H):=rfl
theorem wpOp_binN {op:BinOp} {ty ty':TypeId} {x y:Operand} (he:wpEff P T H (.binOp op ty x y ty') K=False):wpOp P T H (.binOp op ty x y ty') K=orP (binV (tyOf P) op ty (ev T x) (ev T y)) K H:=by rw [wpOp_of_n rfl rfl rfl he];rfl
theorem wpOp_binOp:(∀ (op:BinOp) (ty ty':TypeId) (x:Operand) (k:Tmp),wpOp P T H (.binOp op ty x (.tmp k) ty') K=orP (binV (tyOf P) op ty (ev T x) (ev T (.tmp k))) K H)∧
 (∀ (op:BinOp) (ty ty':TypeId) (x:Operand) (k:IntKind) (n:Int),wpOp P T H (.binOp op ty x (.const (.int k n)) ty') K=orP (binV (tyOf P) op ty (ev T x) (ev T (.const (.int k n)))) K H)∧
 (∀ (op:BinOp) (ty ty':TypeId) (x:Operand) (b:Bool),wpOp P T H (.binOp op ty x (.const (.bool b)) ty') K=orP (binV (tyOf P) op ty (ev T x) (ev T (.const (.bool b)))) K H)∧
 (∀ (op:BinOp) (ty ty':TypeId) (x:Operand) (s:ByteArray),wpOp P T H (.binOp op ty x (.const (.string s)) ty') K=orP (binV (tyOf P) op ty (ev T x) (ev T (.const (.string s)))) K H)∧
 (∀ (ty ty':TypeId) (x:Operand),wpOp P T H (.binOp .eql ty x (.const (.slice none 0 0)) ty') K=nilP (binV (tyOf P) .eql ty (ev T x) (ev T (.const (.slice none 0 0)))) (wpNil P T H ty x K) K H):=by
 refine ⟨fun op ty ty' x k=>wpOp_binN (by cases op<;>rfl),fun op ty ty' x k n=>wpOp_binN (by cases op<;>rfl),fun op ty ty' x b=>wpOp_binN (by cases op<;>rfl),fun op ty ty' x s=>wpOp_binN (by cases op<;>rfl),fun ty ty' x=> ?_⟩
 unfold wpOp wpVal
 simp only [evN,evA,evL]
 cases binV (tyOf P) .eql ty (ev T x) (ev T (.const (.slice none 0 0)))<;>rfl
theorem wpOp_unOp {op:UnOp} {ty:TypeId} {x:Operand}:wpOp P T H (.unOp op ty x) K=orV (unV op (ev T x)) K H:=by
 rw [wpOp_of_n rfl rfl rfl rfl]
 simp only [evN]
 cases unV op (ev T x)<;>simp [orP,orV]
theorem wpOp_makeFunc {f:FuncId} {first cap:Array Operand}:wpOp P T H (.makeFunc (.func f) first cap) K=K (.clo f (first.toList.map (ev T)) (cap.toList.map (ev T))) H:=by rw [wpOp_of_n rfl rfl rfl rfl];simp [evN,orP]
theorem wpOp_nilCheck {x:Operand}:wpOp P T H (.nilCheck x) K=orP (evN (tyOf P) T (.nilCheck x)) K H:=by rw [wpOp_of_n rfl rfl rfl rfl]
theorem wpOp_fieldAddr {s:TypeId} {x:Operand} {f:Nat}:wpOp P T H (.fieldAddr s x f) K=orP (evN (tyOf P) T (.fieldAddr s x f)) K H:=by rw [wpOp_of_n rfl rfl rfl rfl]
theorem wpOp_field {s:TypeId} {x:Operand} {f:Nat}:wpOp P T H (.field s x f) K=orP (evN (tyOf P) T (.field s x f)) K H:=by rw [wpOp_of_n rfl rfl rfl rfl]
theorem wpOp_indexAddr {s:TypeId} {x f:Operand}:wpOp P T H (.indexAddr s x f) K=orP (evN (tyOf P) T (.indexAddr s x f)) K H:=by rw [wpOp_of_n rfl rfl rfl rfl]
theorem wpOp_index {s:TypeId} {x f:Operand}:wpOp P T H (.index s x f) K=orP (evN (tyOf P) T (.index s x f)) K H:=by rw [wpOp_of_n rfl rfl rfl rfl]
def slP (P:Program) (T:List V) (H:Hp) (s:TypeId) (x:Operand) (l h m:Option Operand) (r:Option (Prop×V)) (K:V→Hp→Prop):Prop:=match r with
 |some (c,v)=>c∧K v H
 |none=>wpArr P T H s x l h m K
theorem slP_some {s:TypeId} {x:Operand} {l h m:Option Operand} {c:Prop} {v:V}:slP P T H s x l h m (some (c,v)) K=(c∧K v H):=rfl
theorem slP_none {s:TypeId} {x:Operand} {l h m:Option Operand}:slP P T H s x l h m none K=wpArr P T H s x l h m K:=rfl
theorem wpOp_slice {s:TypeId} {x:Operand} {l h m:Option Operand}:wpOp P T H (.slice s x l h m) K=slP P T H s x l h m (evN (tyOf P) T (.slice s x l h m)) K:=by
 unfold wpOp wpVal
 have ha:evA (tyOf P) T (.slice s x l h m)=none:=rfl
 have hl:evL (tyOf P) T H (.slice s x l h m)=none:=rfl
 rw [ha,hl]
 cases evN (tyOf P) T (.slice s x l h m)<;>rfl
def extractV (v:V) (ix:Nat):Option V:=match v with
 | .tup vs=>vs[ix]?
 |_=>none
theorem wpOp_extract {x:Operand} {ix:Nat}:wpOp P T H (.extract x ix) K=orV (extractV (ev T x) ix) K H:=by
 rw [wpOp_of_n rfl rfl rfl rfl]
 unfold evN extractV
 try simp only
 generalize ev T x=v
 cases v with
 |tup vs=>simp only;cases vs[ix]? <;>simp [orP,orV]
 |_=>rfl
theorem extractV_tup {vs:List V} {ix:Nat}:extractV (.tup vs) ix=vs[ix]? :=rfl
theorem wpOp_len {args:Array Operand} {ts:Array TypeId}:wpOp P T H (.call { callee:= .builtin .len,args,argTypes:=ts }) K=orP (evN (tyOf P) T (.call { callee:= .builtin .len,args,argTypes:=ts })) K H:=by rw [wpOp_of_n rfl rfl rfl rfl]
theorem wpOp_cap {args:Array Operand} {ts:Array TypeId}:wpOp P T H (.call { callee:= .builtin .cap,args,argTypes:=ts }) K=orP (evN (tyOf P) T (.call { callee:= .builtin .cap,args,argTypes:=ts })) K H:=by rw [wpOp_of_n rfl rfl rfl rfl]
theorem wpOp_max {args:Array Operand} {ts:Array TypeId}:wpOp P T H (.call { callee:= .builtin .max,args,argTypes:=ts }) K=orP (evN (tyOf P) T (.call { callee:= .builtin .max,args,argTypes:=ts })) K H:=by rw [wpOp_of_n rfl rfl rfl rfl]
theorem wpOp_min {args:Array Operand} {ts:Array TypeId}:wpOp P T H (.call { callee:= .builtin .min,args,argTypes:=ts }) K=orP (evN (tyOf P) T (.call { callee:= .builtin .min,args,argTypes:=ts })) K H:=by rw [wpOp_of_n rfl rfl rfl rfl]
theorem wpOp_load {ty:TypeId} {x:Operand}:wpOp P T H (.load ty x) K=orV (evL (tyOf P) T H (.load ty x)) K H:=by
 unfold wpOp wpVal
 cases h:evL (tyOf P) T H (.load ty x) with
 |none=>simp [evN,evA,h,wpEff,orV]
 |some v=>simp [evN,evA,h,orV]
theorem wpOp_alloc {ty:TypeId}:wpOp P T H (.alloc ty) K=orA (evA (tyOf P) T (.alloc ty)) K H:=by
 unfold wpOp wpVal
 cases h:evA (tyOf P) T (.alloc ty) with
 |none=>simp [evN,evL,h,wpEff,orA]
 |some v=>obtain ⟨c,k,mk⟩:=v;simp [evN,h,orA]
theorem wpOp_box {ty:TypeId} {x:Operand}:wpOp P T H (.box ty x) K=K (.ptr H.length 0 0) (H++[some (.row (ev T x).cells.length true [(ev T x).cells])]):=by
 unfold wpOp wpVal
 simp [evN,evA]
theorem wpOp_makeSlice {ty:TypeId} {l c:Operand}:wpOp P T H (.makeSlice ty l c) K=orA (evA (tyOf P) T (.makeSlice ty l c)) K H:=by
 unfold wpOp wpVal
 cases h:evA (tyOf P) T (.makeSlice ty l c) with
 |none=>simp [evN,evL,h,wpEff,orA]
 |some v=>obtain ⟨c,k,mk⟩:=v;simp [evN,h,orA]
theorem wpOp_buildSlice {ty:TypeId} {l:Nat} {ps:Array (Nat×Operand)}:wpOp P T H (.buildSlice ty l ps) K=orA (evA (tyOf P) T (.buildSlice ty l ps)) K H:=by
 unfold wpOp wpVal
 cases h:evA (tyOf P) T (.buildSlice ty l ps) with
 |none=>simp [evN,evL,h,wpEff,orA]
 |some v=>obtain ⟨c,k,mk⟩:=v;simp [evN,h,orA]
def orE (a:Option (Prop×V)) (b:Option V) (K:V→Hp→Prop) (H:Hp):Prop:=match a with
 |some (c,v)=>c∧K v H
 |none=>orV b K H
theorem orE_some {c:Prop} {v:V} {b:Option V}:orE (some (c,v)) b K H=(c∧K v H):=rfl
theorem orE_none {b:Option V}:orE none b K H=orV b K H:=rfl
theorem wpOp_convert {s d:TypeId} {x:Operand}:wpOp P T H (.convert s d x) K=orE (evN (tyOf P) T (.convert s d x)) (evL (tyOf P) T H (.convert s d x)) K H:=by
 unfold wpOp wpVal
 have he:wpEff P T H (.convert s d x) K=False:=rfl
 have ha:evA (tyOf P) T (.convert s d x)=none:=rfl
 rw [ha,he]
 cases evN (tyOf P) T (.convert s d x) with
 |some r=>rfl
 |none=>cases evL (tyOf P) T H (.convert s d x)<;>rfl
theorem wpOp_lookup {ty:TypeId} {m k:Operand} {ok:Bool}:wpOp P T H (.lookup ty m k ok) K=orV (evL (tyOf P) T H (.lookup ty m k ok)) K H:=by
 unfold wpOp wpVal
 have he:wpEff P T H (.lookup ty m k ok) K=False:=rfl
 have hn:evN (tyOf P) T (.lookup ty m k ok)=none:=rfl
 have ha:evA (tyOf P) T (.lookup ty m k ok)=none:=rfl
 rw [hn,ha,he]
 cases evL (tyOf P) T H (.lookup ty m k ok)<;>rfl
theorem wpOp_makeMap {ty:TypeId}:wpOp P T H (.makeMap ty none) K=K (.mpr H.length) (H++[some (.mp [])]):=by
 unfold wpOp wpVal
 simp [evN,evA]
theorem wpOp_mapUpdate {ty:TypeId} {m k x:Operand}:wpOp P T H (.mapUpdate ty m k x) K=wpMapU P T H ty m k x K:=rfl
theorem wpOp_insert {ty:TypeId} {m k x:Operand}:wpOp P T H (.insert ty m k x) K=wpMapU P T H ty m k x K:=rfl
theorem wpOp_store {ty:TypeId} {a x:Operand}:wpOp P T H (.store ty a x) K=wpStore P T H ty a x K:=by
 unfold wpOp wpVal
 simp [evN,evA,evL,wpEff]
theorem wpOpD_move {x:Operand}:wpOpD P T H (.move x) K=wpOp P T H (.move x) K:=rfl
theorem wpOpD_assign {x:Operand}:wpOpD P T H (.assign x) K=wpOp P T H (.assign x) K:=rfl
theorem wpOpD_pick {c a b:Operand}:wpOpD P T H (.pick c a b) K=wpOp P T H (.pick c a b) K:=rfl
theorem wpOpD_build {ty:TypeId} {ps:Array (Nat×Operand)}:wpOpD P T H (.build ty ps) K=wpOp P T H (.build ty ps) K:=rfl
theorem wpOpD_binOp {op:BinOp} {ty ty':TypeId} {x y:Operand}:wpOpD P T H (.binOp op ty x y ty') K=orP (binV (tyOf P) op ty (ev T x) (ev T y)) K H:=by
 show (match binV (tyOf P) op ty (ev T x) (ev T y) with
  |some (c,v)=>c∧K v H
  |none=>False)=_
 cases binV (tyOf P) op ty (ev T x) (ev T y)<;>rfl
theorem wpOpD_unOp {op:UnOp} {ty:TypeId} {x:Operand}:wpOpD P T H (.unOp op ty x) K=wpOp P T H (.unOp op ty x) K:=rfl
theorem wpOpD_convert {s d:TypeId} {x:Operand}:wpOpD P T H (.convert s d x) K=wpOp P T H (.convert s d x) K:=rfl
theorem wpOpD_makeFunc {f:Fn} {first cap:Array Operand}:wpOpD P T H (.makeFunc f first cap) K=wpOp P T H (.makeFunc f first cap) K:=rfl
theorem wpOpD_nilCheck {x:Operand}:wpOpD P T H (.nilCheck x) K=wpOp P T H (.nilCheck x) K:=rfl
theorem wpOpD_fieldAddr {s:TypeId} {x:Operand} {f:Nat}:wpOpD P T H (.fieldAddr s x f) K=wpOp P T H (.fieldAddr s x f) K:=rfl
theorem wpOpD_field {s:TypeId} {x:Operand} {f:Nat}:wpOpD P T H (.field s x f) K=wpOp P T H (.field s x f) K:=rfl
theorem wpOpD_indexAddr {s:TypeId} {x f:Operand}:wpOpD P T H (.indexAddr s x f) K=wpOp P T H (.indexAddr s x f) K:=rfl
theorem wpOpD_index {s:TypeId} {x f:Operand}:wpOpD P T H (.index s x f) K=wpOp P T H (.index s x f) K:=rfl
theorem wpOpD_slice {s:TypeId} {x:Operand} {l h m:Option Operand}:wpOpD P T H (.slice s x l h m) K=orP (evN (tyOf P) T (.slice s x l h m)) K H:=by
 show (match evN (tyOf P) T (.slice s x l h m) with
  |some (c,v)=>c∧K v H
  |none=>False)=_
 cases evN (tyOf P) T (.slice s x l h m)<;>rfl
theorem wpOpD_extract {x:Operand} {ix:Nat}:wpOpD P T H (.extract x ix) K=wpOp P T H (.extract x ix) K:=rfl
theorem wpOpD_builtin {b:Builtin} {args:Array Operand} {ts:Array TypeId}:wpOpD P T H (.call { callee:= .builtin b,args,argTypes:=ts }) K=wpOp P T H (.call { callee:= .builtin b,args,argTypes:=ts }) K:=rfl
theorem wpOpD_load {ty:TypeId} {x:Operand}:wpOpD P T H (.load ty x) K=wpOp P T H (.load ty x) K:=rfl
theorem wpOpD_alloc {ty:TypeId}:wpOpD P T H (.alloc ty) K=wpOp P T H (.alloc ty) K:=rfl
theorem wpOpD_box {ty:TypeId} {x:Operand}:wpOpD P T H (.box ty x) K=wpOp P T H (.box ty x) K:=rfl
theorem wpOpD_makeSlice {ty:TypeId} {l c:Operand}:wpOpD P T H (.makeSlice ty l c) K=wpOp P T H (.makeSlice ty l c) K:=rfl
theorem wpOpD_buildSlice {ty:TypeId} {l:Nat} {ps:Array (Nat×Operand)}:wpOpD P T H (.buildSlice ty l ps) K=wpOp P T H (.buildSlice ty l ps) K:=rfl
theorem wpOpD_lookup {ty:TypeId} {m k:Operand} {ok:Bool}:wpOpD P T H (.lookup ty m k ok) K=wpOp P T H (.lookup ty m k ok) K:=rfl
theorem wpOpD_makeMap {ty:TypeId} {r:Option Operand}:wpOpD P T H (.makeMap ty r) K=wpOp P T H (.makeMap ty r) K:=rfl
theorem wpOpD_mapUpdate {ty:TypeId} {m k x:Operand}:wpOpD P T H (.mapUpdate ty m k x) K=wpOp P T H (.mapUpdate ty m k x) K:=rfl
theorem wpOpD_insert {ty:TypeId} {m k x:Operand}:wpOpD P T H (.insert ty m k x) K=wpOp P T H (.insert ty m k x) K:=rfl
theorem wpOpD_store {ty:TypeId} {a x:Operand}:wpOpD P T H (.store ty a x) K=wpOp P T H (.store ty a x) K:=rfl
theorem wp_call {fv:Operand} {args:Array Operand} {ts:Array TypeId} {g:FuncId} {first cap as:List V} {r:V} (hf:ev T fv= .clo g first cap) (hv:viewArgs H (first++args.toList.map (ev T)++cap)=some as) (hp:PC P g as r)
 (hd:(first++args.toList.map (ev T)++cap).all (flat 9)=true∨dry 9 r=true) (hK:K r H):wpOp P T H (.call { callee:= .value fv,args,argTypes:=ts }) K:=by
 unfold wpOp wpVal
 simp only [evN,evA,evL,wpEff,hf]
 exact .inl (by simp only [wpPC,hf];exact ⟨as,r,hv,hp,hd,hK⟩)
def ov (l:List (Nat×V)) (J:Nat→V):Nat→Nat→List V
 |_,0=>[]
 |i,n+1=>(l.lookup i).getD (J i)::ov l J (i+1) n
theorem Ends.mono {φ:Nat→Option Loc} {I:Nat→Prop} {w w':World} {K K':V→Hp→Prop} (h:∀ v H,K v H→K' v H) {e:Ending} (he:Ends φ I H w K e w'):Ends φ I H w K' e w':=by
 obtain ⟨x,r,H',φ',I',h1,h2,h3⟩:=he
 exact ⟨x,r,H',φ',I',h1,h _ _ h2,h3⟩
theorem SC.mono {f:FuncId} {args:List V} {K K':V→Hp→Prop} (h:∀ v H,K v H→K' v H) (hs:SC P f args H K):SC P f args H K':=fun φ I w xs hS hx=>
 ⟨(hs φ I w xs hS hx).1,(hs φ I w xs hS hx).2.mono fun _ _ he=>he.mono h⟩
theorem YC.mono {b:Nat} {args:List V} {K K':V→Hp→Prop} (h:∀ v H,K v H→K' v H) (hs:YC P b args H K):YC P b args H K':=fun φ I w xs L hL hS hx=>
 let ⟨fn,tmps,as,body,h1,h2⟩:=hs φ I w xs L hL hS hx
 ⟨fn,tmps,as,body,h1,h2.mono fun _ _ he=>he.mono h⟩
theorem wpStore_mono {ty:TypeId} {a x:Operand} {K':V→Hp→Prop} (h:∀ v H,K v H→K' v H) (hs:wpStore P T H ty a x K):wpStore P T H ty a x K':=by
 unfold wpStore at*
 split at hs
 ·split at hs
  ·split at hs
   ·exact ⟨hs.1,hs.2.1,hs.2.2.1,h _ _ hs.2.2.2⟩
   ·exact hs.elim
  ·exact hs.elim
 ·exact hs.elim
theorem wpAppend_mono {ei:TyI} {s:V} {ys:List (List V)} {K':V→Hp→Prop} (h:∀ v H,K v H→K' v H) (hs:wpAppend P H ei s ys K):wpAppend P H ei s ys K':=by
 unfold wpAppend at*
 refine ⟨hs.1,?_⟩
 have hs:=hs.2
 split at hs
 ·exact ⟨fun e=>h _ _ (hs.1 e),fun e=>⟨(hs.2 e).1,(hs.2 e).2.1,h _ _ (hs.2 e).2.2⟩⟩
 ·split at hs
  ·refine ⟨hs.1,hs.2.1,?_⟩
   rcases hs.2.2 with q|q|q
   ·exact .inl ⟨q.1,q.2.1,q.2.2.1,h _ _ q.2.2.2⟩
   ·exact .inr (.inl ⟨q.1,q.2.1,q.2.2.1,q.2.2.2.1,h _ _ q.2.2.2.2⟩)
   ·exact .inr (.inr ⟨q.1,q.2.1,q.2.2.1,q.2.2.2.1,h _ _ q.2.2.2.2⟩)
  ·exact hs.elim
 ·exact hs.elim
theorem wpCopy_mono {ei:TyI} {d:V} {ys:List (List V)} {K':V→Hp→Prop} (h:∀ v H,K v H→K' v H) (hs:wpCopy H ei d ys K):wpCopy H ei d ys K':=by
 unfold wpCopy at*
 refine ⟨hs.1,?_⟩
 have hs:=hs.2
 split at hs
 ·split at hs
  ·exact ⟨hs.1,hs.2.1,h _ _ hs.2.2⟩
  ·exact hs.elim
 ·exact hs.elim
theorem wpClear_mono {ei:TyI} {d:V} {K':V→Hp→Prop} (h:∀ v H,K v H→K' v H) (hs:wpClear H ei d K):wpClear H ei d K':=by
 unfold wpClear at*
 split at hs
 ·split at hs
  ·exact ⟨hs.1,hs.2.1,h _ _ hs.2.2⟩
  ·exact hs.elim
 ·exact hs.elim
theorem wpArr_mono {s:TypeId} {x:Operand} {l h m:Option Operand} {K':V→Hp→Prop} (hk:∀ v H,K v H→K' v H) (hs:wpArr P T H s x l h m K):wpArr P T H s x l h m K':=by
 unfold wpArr at*
 split at hs
 ·split at hs
  ·split at hs
   ·exact ⟨hs.1,hs.2.1,hs.2.2.1,hs.2.2.2.1,hk _ _ hs.2.2.2.2⟩
   ·exact hs.elim
  ·exact hs.elim
 ·exact hs.elim
theorem wpPC_mono {op:Op} {K':V→Hp→Prop} (h:∀ v H,K v H→K' v H) (hs:wpPC P T H op K):wpPC P T H op K':=by
 unfold wpPC at*
 split at hs
 ·split at hs
  ·obtain ⟨as,r,h1,h2,h3,h4⟩:=hs;exact ⟨as,r,h1,h2,h3,h _ _ h4⟩
  ·exact hs.elim
 ·exact hs.elim
theorem wpQC_mono {op:Op} {K':V→Hp→Prop} (h:∀ v H,K v H→K' v H) (hs:wpQC P T H op K):wpQC P T H op K':=by
 unfold wpQC at*
 split at hs
 ·split at hs
  ·obtain ⟨v,o,h1,h2,h3⟩:=hs;exact ⟨v,o,h1,h2,h _ _ h3⟩
  ·exact hs.elim
 ·exact hs.elim
theorem wpMapU_mono {ty:TypeId} {m k x:Operand} {K':V→Hp→Prop} (h:∀ v H,K v H→K' v H) (hs:wpMapU P T H ty m k x K):wpMapU P T H ty m k x K':=by
 unfold wpMapU at*
 split at hs
 ·split at hs
  ·split at hs
   ·refine ⟨hs.1,?_⟩
    have hs:=hs.2
    split at hs
    ·exact h _ _ hs
    ·exact ⟨hs.1,hs.2.1,h _ _ hs.2.2⟩
    ·exact hs.elim
   ·exact hs.elim
  ·exact hs.elim
 ·exact hs.elim
theorem wpEff_mono {op:Op} {K':V→Hp→Prop} (h:∀ v H,K v H→K' v H) (hs:wpEff P T H op K):wpEff P T H op K':=by
 unfold wpEff at*
 split at hs
 ·exact wpStore_mono h hs
 ·exact wpArr_mono h hs
 ·exact wpMapU_mono h hs
 ·exact wpMapU_mono h hs
 ·unfold wpNil at*
  split at hs
  ·split at hs
   ·exact ⟨h _ _ hs.1,h _ _ hs.2⟩
   ·exact hs.elim
  ·exact hs.elim
 ·split at hs
  ·exact hs.imp (wpPC_mono h) (SC.mono h)
  ·exact hs.mono h
  ·exact hs.elim
 ·split at hs
  ·split at hs
   ·split at hs
    ·split at hs
     ·exact ⟨hs.1,wpAppend_mono (P:=P) h hs.2⟩
     ·exact hs.elim
    ·exact hs.elim
   ·exact hs.elim
  ·exact hs.elim
 ·split at hs
  ·split at hs
   ·split at hs
    ·split at hs
     ·exact wpCopy_mono h hs
     ·exact hs.elim
    ·exact hs.elim
   ·exact hs.elim
  ·exact hs.elim
 ·split at hs
  ·split at hs
   ·split at hs
    ·exact wpClear_mono h hs
    ·exact hs.elim
   ·exact hs.elim
  ·exact hs.elim
 ·exact hs.elim
theorem wpOp_mono {op:Op} {K':V→Hp→Prop} (h:∀ v H,K v H→K' v H) (hs:wpOp P T H op K):wpOp P T H op K':=by
 unfold wpOp wpVal at*
 cases h1:evN (tyOf P) T op with
 |some r=>obtain ⟨c,v⟩:=r;rw [h1] at hs;exact ⟨hs.1,h _ _ hs.2⟩
 |none=>
  rw [h1] at hs
  cases h2:evA (tyOf P) T op with
  |some r=>obtain ⟨c,k,mk⟩:=r;rw [h2] at hs;exact ⟨hs.1,h _ _ hs.2⟩
  |none=>
   rw [h2] at hs
   cases h3:evL (tyOf P) T H op with
   |some v=>rw [h3] at hs;exact h _ _ hs
   |none=>rw [h3] at hs;exact wpEff_mono h hs
theorem wpOpD_mono {op:Op} {K':V→Hp→Prop} (h:∀ v H,K v H→K' v H) (hs:wpOpD P T H op K):wpOpD P T H op K':=by
 unfold wpOpD at*
 split at hs
 ·exact hs.imp (wpPC_mono h) (wpQC_mono h)
 ·split at hs
  ·exact ⟨hs.1,h _ _ hs.2⟩
  ·exact hs.elim
 ·split at hs
  ·exact ⟨hs.1,h _ _ hs.2⟩
  ·exact hs.elim
 ·exact wpOp_mono h hs
theorem wpG_mono {W:List V→Hp→Op→(V→Hp→Prop)→Prop} (hW:∀ {op:Op} {K K':V→Hp→Prop},(∀ v H,K v H→K' v H)→W T H op K→W T H op K') {o:LOp} {K':V→Hp→Prop} (h:∀ v H,K v H→K' v H) (hs:wpG W T H o K):wpG W T H o K':=by
 unfold wpG at*
 split at hs
 ·exact hW h hs
 ·split at hs
  ·exact ⟨fun e=>hW h (hs.1 e),fun e=>h _ _ (hs.2 e)⟩
  ·exact h _ _ hs
  ·exact hs.elim
theorem wpOps_mono {Q Q':List V→Hp→Prop} (h:∀ T H,Q T H→Q' T H):∀ (os:List LOp) {T:List V} {H:Hp},wpOps P os T H Q→wpOps P os T H Q'
 |[],_,_,hs=>h _ _ hs
 |o::os,T,H,hs=>by
  unfold wpOps at*
  exact wpG_mono (fun h hs=>wpOp_mono h hs) (fun _ _ hs=>wpOps_mono h os hs) hs
theorem wpOpsD_mono {Q Q':List V→Hp→Prop} (h:∀ T H,Q T H→Q' T H):∀ (os:List LOp) {hi:Hist} {T:List V} {H:Hp},wpOpsD P os hi T H Q→wpOpsD P os hi T H Q'
 |[],_,_,_,hs=>h _ _ hs
 |o::os,hi,T,H,hs=>by
  unfold wpOpsD at*
  split at hs
  ·exact wpG_mono (fun h hs=>wpOpD_mono h hs) (fun _ _ hs=>wpOpsD_mono h os hs) hs
  ·exact ⟨hs.1,wpG_mono (fun h hs=>wpOpD_mono h hs) (fun _ _ hs=>wpOpsD_mono h os hs) hs.2⟩
theorem wpL_mono:∀ (c:LC) {T:List V} {H:Hp} {Q Q':Post},(∀ x T H,Q x T H→Q' x T H)→wpL P c T H Q→wpL P c T H Q':=by
 intro c
 induction c with
 |skip=>intro T H Q Q' h hs;exact h _ _ _ hs
 |ops d l=>
  intro T H Q Q' h hs
  cases d with
  |false=>exact wpOps_mono (h .normal) l hs
  |true=>exact wpOpsD_mono (h .normal) l hs
 |seq a b iha ihb=>
  intro T H Q Q' h hs
  unfold wpL at hs ⊢
  refine iha ?_ hs
  intro x T H hq
  cases x with
  |normal=>exact ihb h hq
  |_=>exact h _ _ _ hq
 |cond c a b iha ihb=>
  intro T H Q Q' h hs
  unfold wpL at hs ⊢
  split at hs
  ·exact ⟨fun e=>iha h (hs.1 e),fun e=>ihb h (hs.2 e)⟩
  ·exact hs.elim
 |block id c ih=>
  intro T H Q Q' h hs
  unfold wpL at hs ⊢
  refine ih ?_ hs
  intro x T H hq
  cases x with
  |exit i=>
   simp only at hq ⊢
   split
   ·rename_i e;rw [if_pos e] at hq;exact h _ _ _ hq
   ·rename_i e;rw [if_neg e] at hq;exact h _ _ _ hq
  |_=>exact h _ _ _ hq
 |loop c ih=>
  intro T H Q Q' h hs
  unfold wpL at hs ⊢
  obtain ⟨k,hk⟩:=hs
  refine ⟨k,?_⟩
  induction k generalizing T H with
  |zero=>exact hk.elim
  |succ k ihk=>
   refine ih ?_ hk
   intro x T H hq
   cases x with
   |normal=>exact ihk hq
   |_=>exact h _ _ _ hq
 |rangeFunc f ps as body=>
  intro T H Q Q' h hs
  unfold wpL at hs ⊢
  split at hs
  ·refine hs.mono ?_
   intro _ H' hq
   split at hq
   ·refine ⟨hq.1,?_⟩
    have hq:=hq.2
    split at hq
    ·exact h _ _ _ hq
    ·exact hq.elim
   ·exact hq.elim
  ·exact hs.elim
 |exit id=>intro T H Q Q' h hs;exact h _ _ _ hs
 |goto id=>intro T H Q Q' h hs;exact h _ _ _ hs
 |ret=>intro T H Q Q' h hs;exact h _ _ _ hs
theorem wp_loop {c:LC} {S:Type} (st:S→(Nat→V)→List V) (Inv:S→Hp→Prop) (m:S→Nat) (s0:S) (h1:T=st s0 (fun k=>T.getD k undefV)) (h2:Inv s0 H)
 (step:∀ s J H,Inv s H→wpL P c (st s J) H (fun x T' H'=>match x with
  | .normal=>∃ s',T'=st s' (fun k=>T'.getD k undefV)∧Inv s' H'∧m s'<m s
  |x=>Q x T' H')):wpL P (.loop c) T H Q:=by
 have key:∀ (k:Nat) (s:S) (J:Nat→V) (H:Hp),m s<k→Inv s H→iterL (wpL P c) Q k (st s J) H:=by
  intro k
  induction k with
  |zero=>intro s J H h;exact absurd h (Nat.not_lt_zero _)
  |succ k ih=>
   intro s J H h hi
   refine wpL_mono c ?_ (step s J H hi)
   intro x T' H' hq
   cases x with
   |normal=>
    obtain ⟨s',e,hi',hm⟩:=hq
    try simp only
    rw [e]
    exact ih s' _ H' (by omega) hi'
   |_=>exact hq
 unfold wpL
 exact ⟨m s0+1,by rw [h1];exact key _ s0 _ H (Nat.lt_succ_self _) h2⟩
theorem foot_move {n:Nat} {x:Operand}:foot T H n (.move x)=none:=rfl
theorem foot_assign {n:Nat} {x:Operand}:foot T H n (.assign x)=none:=rfl
theorem foot_pick {n:Nat} {a b c:Operand}:foot T H n (.pick a b c)=none:=rfl
theorem foot_build {n:Nat} {ty:TypeId} {ps:Array (Nat×Operand)}:foot T H n (.build ty ps)=none:=rfl
theorem foot_binOp {n:Nat} {op:BinOp} {ty ty':TypeId} {x y:Operand}:foot T H n (.binOp op ty x y ty')=none:=rfl
theorem foot_unOp {n:Nat} {op:UnOp} {ty:TypeId} {x:Operand}:foot T H n (.unOp op ty x)=none:=rfl
theorem foot_makeFunc {n:Nat} {f:Fn} {a b:Array Operand}:foot T H n (.makeFunc f a b)=none:=rfl
theorem foot_nilCheck {n:Nat} {x:Operand}:foot T H n (.nilCheck x)=none:=rfl
theorem foot_fieldAddr {n:Nat} {s:TypeId} {x:Operand} {f:Nat}:foot T H n (.fieldAddr s x f)=none:=rfl
theorem foot_field {n:Nat} {s:TypeId} {x:Operand} {f:Nat}:foot T H n (.field s x f)=none:=rfl
theorem foot_indexAddr {n:Nat} {s:TypeId} {x y:Operand}:foot T H n (.indexAddr s x y)=none:=rfl
theorem foot_index {n:Nat} {s:TypeId} {x y:Operand}:foot T H n (.index s x y)=none:=rfl
theorem foot_slice {n:Nat} {s:TypeId} {x:Operand} {a b c:Option Operand}:foot T H n (.slice s x a b c)=none:=rfl
theorem foot_extract {n:Nat} {x:Operand} {i:Nat}:foot T H n (.extract x i)=none:=rfl
theorem foot_len {n:Nat} {args:Array Operand} {ts:Array TypeId}:foot T H n (.call { callee:= .builtin .len,args,argTypes:=ts })=none:=rfl
theorem foot_cap {n:Nat} {args:Array Operand} {ts:Array TypeId}:foot T H n (.call { callee:= .builtin .cap,args,argTypes:=ts })=none:=rfl
theorem foot_max {n:Nat} {args:Array Operand} {ts:Array TypeId}:foot T H n (.call { callee:= .builtin .max,args,argTypes:=ts })=none:=rfl
theorem foot_min {n:Nat} {args:Array Operand} {ts:Array TypeId}:foot T H n (.call { callee:= .builtin .min,args,argTypes:=ts })=none:=rfl
theorem foot_load {n:Nat} {ty:TypeId} {x:Operand}:foot T H n (.load ty x)=some (false,blkOf (ev T x)):=rfl
theorem foot_convert {n:Nat} {s d:TypeId} {x:Operand}:foot T H n (.convert s d x)=some (false,blkOf (ev T x)):=rfl
theorem foot_store {n:Nat} {ty:TypeId} {x y:Operand}:foot T H n (.store ty x y)=some (true,blkOf (ev T x)):=rfl
theorem foot_alloc {n:Nat} {ty:TypeId}:foot T H n (.alloc ty)=some (true,[n]):=rfl
theorem foot_box {n:Nat} {ty:TypeId} {x:Operand}:foot T H n (.box ty x)=some (true,[n]):=rfl
theorem foot_makeSlice {n:Nat} {ty:TypeId} {x y:Operand}:foot T H n (.makeSlice ty x y)=some (true,[n]):=rfl
theorem foot_buildSlice {n:Nat} {ty:TypeId} {l:Nat} {ps:Array (Nat×Operand)}:foot T H n (.buildSlice ty l ps)=some (true,[n]):=rfl
theorem foot_append {n:Nat} {args:Array Operand} {ts:Array TypeId}:foot T H n (.call { callee:= .builtin .append,args,argTypes:=ts })=some (true,n::args.toList.flatMap fun x=>blkOf (ev T x)):=rfl
theorem foot_copy {n:Nat} {args:Array Operand} {ts:Array TypeId}:foot T H n (.call { callee:= .builtin .copy,args,argTypes:=ts })=some (true,args.toList.flatMap fun x=>blkOf (ev T x)):=rfl
theorem foot_clear {n:Nat} {args:Array Operand} {ts:Array TypeId}:foot T H n (.call { callee:= .builtin .clear,args,argTypes:=ts })=some (true,args.toList.flatMap fun x=>blkOf (ev T x)):=rfl
def footC (T:List V) (H:Hp) (args:Array Operand):V→Option (Bool×List Nat)
 | .clo _ first cap=>some ((first++args.toList.map (ev T)++cap).any hasTop,(first++args.toList.map (ev T)++cap).flatMap (touch H 9))
 |_=>some (false,[])
theorem foot_call {n:Nat} {fv:Operand} {args:Array Operand} {ts:Array TypeId}:foot T H n (.call { callee:= .value fv,args,argTypes:=ts })=footC T H args (ev T fv):=by
 simp only [foot,footC]
 rfl
theorem footC_clo {args:Array Operand} {g:FuncId} {first cap:List V}:footC T H args (.clo g first cap)=some ((first++args.toList.map (ev T)++cap).any hasTop,(first++args.toList.map (ev T)++cap).flatMap (touch H 9)):=rfl
theorem blkOf_prim {x:Value}:blkOf (.prim x)=[]:=rfl
theorem blkOf_ivp {e:List V} {j:Nat}:blkOf (.ivp e j)=[]:=rfl
theorem blkOf_lst {e:List (List V)} {j:Nat}:blkOf (.lst j e)=[]:=rfl
theorem blkOf_agg {e:List V}:blkOf (.agg e)=[]:=rfl
theorem blkOf_tup {e:List V}:blkOf (.tup e)=[]:=rfl
theorem blkOf_ptr {b i j:Nat}:blkOf (.ptr b i j)=[b]:=rfl
theorem blkOf_sref {b o n c z:Nat} {fx:Bool}:blkOf (.sref b o n c z fx)=[b]:=rfl
theorem clash_rr {bef i:Nat} {f g:List Nat}:clash bef (false,f) (i,false,g)=false:=by simp [clash]
theorem clash_nl {bef i:Nat} {b:Bool} {g:Bool×List Nat}:clash bef (b,[]) (i,g)=false:=by simp [clash]
theorem clash_nr {bef i:Nat} {b:Bool×List Nat} {c:Bool}:clash bef b (i,c,[])=false:=by simp [clash]
theorem clash_bef {bef i:Nat} {f g:Bool×List Nat} (h:bef.testBit i=true):clash bef f (i,g)=false:=by simp [clash,h]
theorem touch_prim {n:Nat} {x:Value}:touch H (n+1) (.prim x)=[]:=by simp [touch]
theorem touch_lst {n j:Nat} {e:List (List V)}:touch H (n+1) (.lst j e)=[]:=by simp [touch]
theorem touch_agg {n:Nat} {e:List V}:touch H (n+1) (.agg e)=e.flatMap (touch H n):=by simp [touch]
theorem touch_tup {n:Nat} {e:List V}:touch H (n+1) (.tup e)=e.flatMap (touch H n):=by simp [touch]
theorem touch_clo {n:Nat} {f:FuncId} {a b:List V}:touch H (n+1) (.clo f a b)=a.flatMap (touch H n)++b.flatMap (touch H n):=by simp [touch]
def touchB (H:Hp) (n i:Nat):Option Blk→List Nat
 |some (.row _ _ es)=>(es.getD i []).flatMap (touch H n)
 |_=>[]
theorem touchB_row {n i sz:Nat} {m:Bool} {es:List (List V)}:touchB H n i (some (.row sz m es))=(es.getD i []).flatMap (touch H n):=rfl
theorem touch_ptr {n b i j:Nat}:touch H (n+1) (.ptr b i j)=b::touchB H n i (get H b):=by rw [touch];rfl
theorem hasPtr_prim {n:Nat} {x:Value}:hasPtr (n+1) (.prim x)=false:=by simp [hasPtr]
theorem hasPtr_lst {n j:Nat} {e:List (List V)}:hasPtr (n+1) (.lst j e)=false:=by simp [hasPtr]
theorem hasPtr_sref {n b o k c z:Nat} {fx:Bool}:hasPtr (n+1) (.sref b o k c z fx)=true:=by simp [hasPtr]
theorem touch_undef {n:Nat}:touch H (n+1) undefV=[]:=by simp [touch,undefV]
theorem hasTop_undef:hasTop undefV=false:=by simp [hasTop,hasPtr,undefV]
theorem hasPtr_undef {n:Nat}:hasPtr (n+1) undefV=false:=by simp [hasPtr,undefV]
theorem hasTop_prim {x:Value}:hasTop (.prim x)=false:=by simp [hasTop,hasPtr]
theorem hasTop_lst {j:Nat} {e:List (List V)}:hasTop (.lst j e)=false:=by simp [hasTop,hasPtr]
theorem hasTop_sref {b o k c z:Nat} {fx:Bool}:hasTop (.sref b o k c z fx)=false:=rfl
theorem hasTop_agg {e:List V}:hasTop (.agg e)=e.any (hasPtr 8):=by simp [hasTop,hasPtr]
theorem hasTop_tup {e:List V}:hasTop (.tup e)=e.any (hasPtr 8):=by simp [hasTop,hasPtr]
theorem hasTop_clo {f:FuncId} {a b:List V}:hasTop (.clo f a b)=(a.any (hasPtr 8)||b.any (hasPtr 8)):=by simp [hasTop,hasPtr]
theorem hasTop_ptr {b i j:Nat}:hasTop (.ptr b i j)=true:=by simp [hasTop,hasPtr]
theorem hasTop_yld {b:Nat}:hasTop (.yld b)=false:=by simp [hasTop,hasPtr]
theorem hasPtr_agg {n:Nat} {e:List V}:hasPtr (n+1) (.agg e)=e.any (hasPtr n):=by simp [hasPtr]
theorem hasPtr_tup {n:Nat} {e:List V}:hasPtr (n+1) (.tup e)=e.any (hasPtr n):=by simp [hasPtr]
theorem hasPtr_clo {n:Nat} {f:FuncId} {a b:List V}:hasPtr (n+1) (.clo f a b)=(a.any (hasPtr n)||b.any (hasPtr n)):=by simp [hasPtr]
theorem hasPtr_ptr {n b i j:Nat}:hasPtr (n+1) (.ptr b i j)=true:=by simp [hasPtr]
theorem cells_mpr {b:Nat}:(V.mpr b).cells=[.mpr b]:=rfl
theorem cellV_mpr {b:Nat}:cellV (.mpr b)=true:=rfl
theorem blkOf_mpr {b:Nat}:blkOf (.mpr b)=[b]:=rfl
theorem touch_mpr {H:Hp} {n b:Nat}:touch H (n+1) (.mpr b)=[b]:=by simp [touch]
theorem hasPtr_mpr {n b:Nat}:hasPtr (n+1) (.mpr b)=true:=by simp [hasPtr]
theorem hasTop_mpr {b:Nat}:hasTop (.mpr b)=true:=by simp [hasTop,hasPtr]
theorem foot_lookup {H:Hp} {T:List V} {nid:Nat} {t:TypeId} {m k:Operand} {ok:Bool}:foot T H nid (.lookup t m k ok)=some (false,blkOf (ev T m)):=rfl
theorem foot_mapUpdate {H:Hp} {T:List V} {nid:Nat} {t:TypeId} {m k x:Operand}:foot T H nid (.mapUpdate t m k x)=some (true,blkOf (ev T m)):=rfl
theorem foot_insert {H:Hp} {T:List V} {nid:Nat} {t:TypeId} {m k x:Operand}:foot T H nid (.insert t m k x)=some (true,blkOf (ev T m)):=rfl
theorem foot_makeMap {H:Hp} {T:List V} {nid:Nat} {t:TypeId} {r:Option Operand}:foot T H nid (.makeMap t r)=some (true,[nid]):=rfl
theorem hasPtr_yld {n b:Nat}:hasPtr (n+1) (.yld b)=false:=by simp [hasPtr]
theorem view_prim {n:Nat} {x:Value}:view H (n+1) (.prim x)=some (.prim x):=by simp [view]
theorem view_lst {n j:Nat} {e:List (List V)}:view H (n+1) (.lst j e)=some (.lst j e):=by simp [view]
theorem view_clo {n:Nat} {f:FuncId}:view H (n+1) (.clo f [] [])=some (.clo f [] []):=by simp [view]
theorem view_agg {n:Nat} {e:List V}:view H (n+1) (.agg e)=(view.viewL H n e).map .agg:=by simp [view]
theorem view_tup {n:Nat} {e:List V}:view H (n+1) (.tup e)=(view.viewL H n e).map .tup:=by simp [view]
theorem viewL_nil {n:Nat}:view.viewL H n []=some []:=by simp [view.viewL]
def consO (a:Option V) (b:Option (List V)):Option (List V):=match a,b with
 |some x,some xs=>some (x::xs)
 |_,_=>none
theorem consO_some {a:V} {b:List V}:consO (some a) (some b)=some (a::b):=rfl
theorem viewL_cons {n:Nat} {v:V} {vs:List V}:view.viewL H n (v::vs)=consO (view H n v) (view.viewL H n vs):=by rw [view.viewL];rfl
theorem viewArgs_nil:viewArgs H []=some []:=rfl
theorem viewArgs_cons {v:V} {vs:List V}:viewArgs H (v::vs)=consO (view H 9 v) (viewArgs H vs):=rfl
def appP (P:Program) (T:List V) (H:Hp) (ts:Array TypeId) (K:V→Hp→Prop) (s x:Option Operand) (t:Option TypeId):Prop:=match s,x,t with
 |some s,some x,some t=>match tyOf P t with
  |some { k:= .slice e,.. }=>match tyOf P e with
   |some ei=>match added P H ei ts[1]? (ev T x) with
    |some (c,ys)=>c∧wpAppend P H ei (ev T s) ys K
    |none=>False
   |none=>False
  |_=>False
 |_,_,_=>False
theorem wpOp_append {args:Array Operand} {ts:Array TypeId}:wpOp P T H (.call { callee:= .builtin .append,args,argTypes:=ts }) K=appP P T H ts K args[0]? args[1]? ts[0]? :=by
 unfold wpOp wpVal
 simp only [evN,evA,evL,wpEff];rfl
def copyP (P:Program) (T:List V) (H:Hp) (K:V→Hp→Prop) (d x:Option Operand) (t:Option TypeId):Prop:=match d,x,t with
 |some d,some x,some t=>match tyOf P t with
  |some { k:= .slice e,.. }=>match tyOf P e with
   |some ei=>match elemsOf H ei.sz (ev T x) with
    |some ys=>wpCopy H ei (ev T d) ys K
    |none=>False
   |none=>False
  |_=>False
 |_,_,_=>False
theorem wpOp_copy {args:Array Operand} {ts:Array TypeId}:wpOp P T H (.call { callee:= .builtin .copy,args,argTypes:=ts }) K=copyP P T H K args[0]? args[1]? ts[0]? :=by
 unfold wpOp wpVal
 simp only [evN,evA,evL,wpEff];rfl
theorem retP_eq {rs:List ResultVar} {R:V→Hp→Prop}:retP P rs R .ret T H=(match resVs (tyOf P) T H rs with
 |some vs=>R (retV vs) H
 |none=>False):=rfl
theorem get_zero {k:Option Blk}:get (k::H) 0=k:=by cases k<;>rfl
theorem get_succ {k:Option Blk} {n:Nat}:get (k::H) (n+1)=get H n:=by simp [get]
theorem writeAt_one {x y:V}:writeAt [x] 0 [y]=[y]:=by simp [writeAt]
theorem cells_prim {x:Value}:(V.prim x).cells=[.prim x]:=rfl
theorem cells_agg {e:List V}:(V.agg e).cells=e:=rfl
theorem cells_lst {n:Nat} {e:List (List V)}:(V.lst n e).cells=[.lst n e]:=rfl
theorem cells_sref {b o n c z:Nat} {fx:Bool}:(V.sref b o n c z fx).cells=[.sref b o n c z fx]:=rfl
theorem cells_ptr {b i j:Nat}:(V.ptr b i j).cells=[.ptr b i j]:=rfl
theorem cells_clo {f:FuncId} {a b:List V}:(V.clo f a b).cells=[.clo f a b]:=rfl
theorem cellV_prim {x:Value}:cellV (.prim x)=true:=rfl
theorem cellV_lst {n:Nat} {e:List (List V)}:cellV (.lst n e)=true:=rfl
theorem cellV_sref {b o n c z:Nat} {fx:Bool}:cellV (.sref b o n c z fx)=true:=rfl
theorem cellV_ptr {b i j:Nat}:cellV (.ptr b i j)=true:=rfl
theorem cellV_clo {f:FuncId} {a b:List V}:cellV (.clo f a b)=true:=rfl
theorem get_app {b:Nat} {k:Blk} {l:Hp} (h:get H b=some k):get (H++l) b=some k:=by
 unfold get at*
 have:b<H.length:=by
  rcases Nat.lt_or_ge b H.length with h1|h1
  ·exact h1
  ·rw [List.getElem?_eq_none h1] at h;cases h
 rw [List.getElem?_append_left this];exact h
theorem get_app_len {k:Option Blk}:get (H++[k]) H.length=k:=by simp [get]
theorem get_set_same {b:Nat} {k:Blk} {k':Option Blk} (h:get H b=some k):get (H.set b k') b=k':=by
 have:b<H.length:=by
  rcases Nat.lt_or_ge b H.length with h1|h1
  ·exact h1
  ·rw [get,List.getElem?_eq_none h1] at h;cases h
 simp [get,this]
theorem get_set_ne {b c:Nat} {k:Option Blk} (h:c≠b):get (H.set b k) c=get H c:=by simp [get,List.getElem?_set,Ne.symm h]
end Go.Av
