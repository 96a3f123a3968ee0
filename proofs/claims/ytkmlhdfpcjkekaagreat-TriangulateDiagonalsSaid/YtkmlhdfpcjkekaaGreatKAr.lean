/- Helping texts: Ar. -/
import Derived.Test.YtkmlhdfpcjkekaaGreatKAs14
set_option linter.unusedSimpArgs false
set_option linter.unusedVariables false
set_option maxRecDepth 100000
set_option maxHeartbeats 16000000
namespace Go.Av
open Go.RowKit
variable {P:Program} {t:V} {T:List V} {H:Hp} {K:V→Hp→Prop} {Q:kF} {Qo:List V→Hp→Prop}
def ED (P:Program) (b:LC) (Q:kF):kF:=fun x T H=>match x with
 | .normal=>wpL P b T H Q
 |x=>Q x T H
def BL (id:Nat) (Q:kF):kF:=fun x T H=>match x with
 | .exit i=>if i=id then Q .normal T H else Q (.exit i) T H
 |x=>Q x T H
def R9 (v:V) (p q:Prop):Prop:=match v with
 | .prim (.bool t)=>(t=true→p)∧(t=false→q)
 |_=>False
def opsK (P:Program) (os:List LOp) (T:List V) (d:Option Tmp) (Q:List V→Hp→Prop):V→Hp→Prop:=fun v H=>oA P os (putT T d v) H Q
def Gw (P:Program) (os:List LOp) (h:x7) (T:List V) (d:Option Tmp) (Q:List V→Hp→Prop):V→Hp→Prop:=fun v H=>mR P os h (putT T d v) H Q
def gP (v:V) (want:Bool) (p q:Prop):Prop:=match v with
 | .prim (.bool t)=>(t=want→p)∧(t= !want→q)
 | .tup []=>q
 |_=>False
def OY (P:Program) (o:LOp) (os:List LOp) (h:x7) (T:List V) (H:Hp) (Q:List V→Hp→Prop):Option (Bool×List Nat)→Prop
 |none=>wpG (iE P) T H o (Gw P os h T o.dst Q)
 |some f=>h.any (pd o.bef f)=false∧wpG (iE P) T H o (Gw P os ((o.idx,f)::h) T o.dst Q)
def orP:Option (Prop×V)→(V→Hp→Prop)→Hp→Prop
 |some (c,v),K,H=>c∧K v H
 |none,_,_=>False
def orV:Option V→(V→Hp→Prop)→Hp→Prop
 |some v,K,H=>K v H
 |none,_,_=>False
def orA:Option (Prop×Blk×(Nat→V))→(V→Hp→Prop)→Hp→Prop
 |some (c,k,mk),K,H=>c∧K (mk H.length) (H++[some k])
 |none,_,_=>False
theorem fQ:wpL P .skip (t::T) H Q=Q .normal (t::T) H:=by rw [wpL]
theorem f7 {l:List LOp}:wpL P (.ops false l) (t::T) H Q=oA P l (t::T) H (Q .normal):=by rw [wpL]
theorem f6 {l:List LOp}:wpL P (.ops true l) (t::T) H Q=mR P l [] (t::T) H (Q .normal):=by rw [wpL]
theorem jg {a b:LC}:wpL P (.seq a b) (t::T) H Q=wpL P a (t::T) H (ED P b Q):=by rw [wpL];rfl
theorem ie {c:Operand} {a b:LC}:wpL P (.cond c a b) (t::T) H Q=R9 (ev (t::T) c) (wpL P a (t::T) H Q) (wpL P b (t::T) H Q):=by rw [wpL];rfl
theorem eQ {id:Nat} {c:LC}:wpL P (.block id c) (t::T) H Q=wpL P c (t::T) H (BL id Q):=by rw [wpL];rfl
theorem f9 {id:Nat}:wpL P (.exit id) (t::T) H Q=Q (.exit id) (t::T) H:=by rw [wpL]
theorem f8 {id:Nat}:wpL P (.goto id) (t::T) H Q=Q (.goto id) (t::T) H:=by rw [wpL]
theorem jh:wpL P .ret (t::T) H Q=Q .ret (t::T) H:=by rw [wpL]
theorem dr {b:LC}:ED P b Q .normal T H=wpL P b T H Q:=rfl
theorem fh {b:LC} {i:Nat}:ED P b Q (.exit i) T H=Q (.exit i) T H:=rfl
theorem fg {b:LC} {i:Nat}:ED P b Q (.goto i) T H=Q (.goto i) T H:=rfl
theorem gm {b:LC}:ED P b Q .ret T H=Q .ret T H:=rfl
theorem cG {id:Nat}:BL id Q .normal T H=Q .normal T H:=rfl
theorem dy {id i:Nat}:BL id Q (.exit i) T H=if i=id then Q .normal T H else Q (.exit i) T H:=rfl
theorem dw {id i:Nat}:BL id Q (.goto i) T H=Q (.goto i) T H:=rfl
theorem d8 {id:Nat}:BL id Q .ret T H=Q .ret T H:=rfl
theorem eI {b:Bool} {p q:Prop}:R9 (.prim (.bool b)) p q=((b=true→p)∧(b=false→q)):=rfl
theorem ji {os:List LOp} {d:Option Tmp} {v:V}:opsK P os (t::T) d Qo v H=oA P os (putT (t::T) d v) H Qo:=rfl
theorem gw {os:List LOp} {h:x7} {d:Option Tmp} {v:V}:Gw P os h (t::T) d Qo v H=mR P os h (putT (t::T) d v) H Qo:=rfl
theorem fj {d:Tmp} {v:V}:putT T (some d) v=T.set d v:=rfl
theorem fm {v:V}:putT T none v=T:=rfl
theorem eY:oA P [] (t::T) H Qo=Qo (t::T) H:=by rw [oA]
theorem dK {o:LOp} {os:List LOp}:oA P (o::os) (t::T) H Qo=wpG (eV P) (t::T) H o (opsK P os (t::T) o.dst Qo):=by rw [oA];rfl
theorem dL {h:x7}:mR P [] h (t::T) H Qo=Qo (t::T) H:=by rw [mR]
theorem dc {o:LOp} {os:List LOp} {h:x7}:mR P (o::os) h (t::T) H Qo=OY P o os h (t::T) H Qo (foot (t::T) H H.length o.op):=by rw [mR];rfl
theorem dZ {o:LOp} {os:List LOp} {h:x7}:OY P o os h (t::T) H Qo none=wpG (iE P) (t::T) H o (Gw P os h (t::T) o.dst Qo):=rfl
theorem dY {o:LOp} {os:List LOp} {h:x7} {f:Bool×List Nat}:OY P o os h (t::T) H Qo (some f)=(h.any (pd o.bef f)=false∧wpG (iE P) (t::T) H o (Gw P os ((o.idx,f)::h) (t::T) o.dst Qo)):=rfl
theorem gg {W:List V→Hp→Op→(V→Hp→Prop)→Prop} {d:Option Tmp} {op:Op} {i b:Nat}:wpG W (t::T) H ⟨d,op,none,i,b⟩ K=W (t::T) H op K:=rfl
theorem ig {W:List V→Hp→Op→(V→Hp→Prop)→Prop} {d:Option Tmp} {op:Op} {i b g:Nat} {want:Bool}:wpG W (t::T) H ⟨d,op,some (g,want),i,b⟩ K=gP ((t::T).getD g cW) want (W (t::T) H op K) (K cW H):=rfl
theorem jx {b want:Bool} {p q:Prop}:gP (.prim (.bool b)) want p q=((b=want→p)∧(b= !want→q)):=rfl
theorem ik {want:Bool} {p q:Prop}:gP (.tup []) want p q=q:=rfl
theorem jy {k:Tmp}:ev T (.tmp k)=T.getD k cW:=rfl
theorem fF {v:Value}:ev T (.const v)= .prim v:=rfl
theorem ib {f:FuncId}:ev T (.func f)= .clo f [] []:=rfl
theorem fo {g:Nat}:ev T (.global g)= .prim (.pointer (some ⟨g,0,none⟩)):=rfl
theorem gq {c:Prop} {v:V}:orP (some (c,v)) K H=(c∧K v H):=rfl
theorem gp {v:V}:orV (some v) K H=K v H:=rfl
theorem gv {c:Prop} {k:Blk} {mk:Nat→V}:orA (some (c,k,mk)) K H=(c∧K (mk H.length) (H++[some k])):=rfl
theorem jm {op:Op} {r:Option (Prop×V)} (h:evN (aD P) T op=r) (ha:evA (aD P) T op=none) (hl:evL (aD P) T H op=none) (he:nD P T H op K=False):eV P T H op K=orP r K H:=by
 unfold eV mn
 rw [h,ha,hl]
 cases r with
 |none=>simp [he,orP]
 |some r=>rfl
theorem fd {x:Operand}:eV P T H (.move x) K=K (ev T x) H:=by rw [jm rfl rfl rfl rfl];simp [evN,orP]
theorem de {x:Operand}:eV P T H (.assign x) K=K (ev T x) H:=by rw [jm rfl rfl rfl rfl];simp [evN,orP]
def RH (c a b:V):Option (Prop×V):=match c with
 | .prim (.bool t)=>some (True,if t then a else b)
 |_=>none
theorem fc {c a b:Operand}:eV P T H (.pick c a b) K=orP (RH (ev T c) (ev T a) (ev T b)) K H:=by rw [jm rfl rfl rfl rfl];rfl
theorem gn {c:Bool} {a b:V}:RH (.prim (.bool c)) a b=some (True,if c then a else b):=rfl
theorem dR {ty:TypeId} {ps:Array (Nat×Operand)}:eV P T H (.build ty ps) K=orP (evN (aD P) T (.build ty ps)) K H:=by rw [jm rfl rfl rfl rfl]
def nilP (r:Option (Prop×V)) (q:Prop) (K:V→Hp→Prop) (H:Hp):Prop:=match r with
 |some (c,v)=>c∧K v H
 |none=>q
theorem LD {c:Prop} {v:V} {q:Prop}:nilP (some (c,v)) q K H=(c∧K v H):=rfl
theorem ui {op:BinOp} {ty ty':TypeId} {x y:Operand} (he:nD P T H (.binOp op ty x y ty') K=False):eV P T H (.binOp op ty x y ty') K=orP (lY (aD P) op ty (ev T x) (ev T y)) K H:=by rw [jm rfl rfl rfl he];rfl
theorem dS:(∀ (op:BinOp) (ty ty':TypeId) (x:Operand) (k:Tmp),eV P T H (.binOp op ty x (.tmp k) ty') K=orP (lY (aD P) op ty (ev T x) (ev T (.tmp k))) K H)∧
 (∀ (op:BinOp) (ty ty':TypeId) (x:Operand) (k:IntKind) (n:Int),eV P T H (.binOp op ty x (.const (.int k n)) ty') K=orP (lY (aD P) op ty (ev T x) (ev T (.const (.int k n)))) K H)∧
 (∀ (op:BinOp) (ty ty':TypeId) (x:Operand) (b:Bool),eV P T H (.binOp op ty x (.const (.bool b)) ty') K=orP (lY (aD P) op ty (ev T x) (ev T (.const (.bool b)))) K H)∧
 (∀ (op:BinOp) (ty ty':TypeId) (x:Operand) (s:ByteArray),eV P T H (.binOp op ty x (.const (.string s)) ty') K=orP (lY (aD P) op ty (ev T x) (ev T (.const (.string s)))) K H)∧
 (∀ (ty ty':TypeId) (x:Operand),eV P T H (.binOp .eql ty x (.const (.slice none 0 0)) ty') K=nilP (lY (aD P) .eql ty (ev T x) (ev T (.const (.slice none 0 0)))) (FK P T H ty x K) K H):=by
 refine ⟨fun op ty ty' x k=>ui (by cases op<;>rfl),fun op ty ty' x k n=>ui (by cases op<;>rfl),fun op ty ty' x b=>ui (by cases op<;>rfl),fun op ty ty' x s=>ui (by cases op<;>rfl),fun ty ty' x=> ?_⟩
 unfold eV mn
 simp only [evN,evA,evL]
 cases lY (aD P) .eql ty (ev T x) (ev T (.const (.slice none 0 0)))<;>rfl
theorem eZ {op:UnOp} {ty:TypeId} {x:Operand}:eV P T H (.unOp op ty x) K=orV (unV op (ev T x)) K H:=by
 rw [jm rfl rfl rfl rfl]
 simp only [evN]
 cases unV op (ev T x)<;>simp [orP,orV]
theorem cC {f:FuncId} {first cap:Array Operand}:eV P T H (.makeFunc (.func f) first cap) K=K (.clo f (first.toList.map (ev T)) (cap.toList.map (ev T))) H:=by rw [jm rfl rfl rfl rfl];simp [evN,orP]
theorem uT {x:Operand}:eV P T H (.nilCheck x) K=orP (evN (aD P) T (.nilCheck x)) K H:=by rw [jm rfl rfl rfl rfl]
theorem cj {s:TypeId} {x:Operand} {f:Nat}:eV P T H (.fieldAddr s x f) K=orP (evN (aD P) T (.fieldAddr s x f)) K H:=by rw [jm rfl rfl rfl rfl]
theorem dQ {s:TypeId} {x:Operand} {f:Nat}:eV P T H (.field s x f) K=orP (evN (aD P) T (.field s x f)) K H:=by rw [jm rfl rfl rfl rfl]
theorem ch {s:TypeId} {x f:Operand}:eV P T H (.indexAddr s x f) K=orP (evN (aD P) T (.indexAddr s x f)) K H:=by rw [jm rfl rfl rfl rfl]
theorem dP {s:TypeId} {x f:Operand}:eV P T H (.index s x f) K=orP (evN (aD P) T (.index s x f)) K H:=by rw [jm rfl rfl rfl rfl]
def slP (P:Program) (T:List V) (H:Hp) (s:TypeId) (x:Operand) (l h m:Option Operand) (r:Option (Prop×V)) (K:V→Hp→Prop):Prop:=match r with
 |some (c,v)=>c∧K v H
 |none=>vN P T H s x l h m K
theorem gh {s:TypeId} {x:Operand} {l h m:Option Operand} {c:Prop} {v:V}:slP P T H s x l h m (some (c,v)) K=(c∧K v H):=rfl
theorem M6 {s:TypeId} {x:Operand} {l h m:Option Operand}:slP P T H s x l h m none K=vN P T H s x l h m K:=rfl
theorem dN {s:TypeId} {x:Operand} {l h m:Option Operand}:eV P T H (.slice s x l h m) K=slP P T H s x l h m (evN (aD P) T (.slice s x l h m)) K:=by
 unfold eV mn
 have ha:evA (aD P) T (.slice s x l h m)=none:=rfl
 have hl:evL (aD P) T H (.slice s x l h m)=none:=rfl
 rw [ha,hl]
 cases evN (aD P) T (.slice s x l h m)<;>rfl
def Bm (v:V) (ix:Nat):Option V:=match v with
 | .tup vs=>vs[ix]?
 |_=>none
theorem cP {x:Operand} {ix:Nat}:eV P T H (.extract x ix) K=orV (Bm (ev T x) ix) K H:=by
 rw [jm rfl rfl rfl rfl]
 unfold evN Bm
 try simp only
 generalize ev T x=v
 cases v with
 |tup vs=>simp only;cases vs[ix]? <;>simp [orP,orV]
 |_=>rfl
theorem cT {vs:List V} {ix:Nat}:Bm (.tup vs) ix=vs[ix]? :=rfl
theorem fY {args:Array Operand} {ts:Array TypeId}:eV P T H (.call { callee:= .builtin .len,args,argTypes:=ts }) K=orP (evN (aD P) T (.call { callee:= .builtin .len,args,argTypes:=ts })) K H:=by rw [jm rfl rfl rfl rfl]
theorem fZ {args:Array Operand} {ts:Array TypeId}:eV P T H (.call { callee:= .builtin .cap,args,argTypes:=ts }) K=orP (evN (aD P) T (.call { callee:= .builtin .cap,args,argTypes:=ts })) K H:=by rw [jm rfl rfl rfl rfl]
theorem fX {args:Array Operand} {ts:Array TypeId}:eV P T H (.call { callee:= .builtin .max,args,argTypes:=ts }) K=orP (evN (aD P) T (.call { callee:= .builtin .max,args,argTypes:=ts })) K H:=by rw [jm rfl rfl rfl rfl]
theorem fW {args:Array Operand} {ts:Array TypeId}:eV P T H (.call { callee:= .builtin .min,args,argTypes:=ts }) K=orP (evN (aD P) T (.call { callee:= .builtin .min,args,argTypes:=ts })) K H:=by rw [jm rfl rfl rfl rfl]
theorem fe {ty:TypeId} {x:Operand}:eV P T H (.load ty x) K=orV (evL (aD P) T H (.load ty x)) K H:=by
 unfold eV mn
 cases h:evL (aD P) T H (.load ty x) with
 |none=>simp [evN,evA,h,nD,orV]
 |some v=>simp [evN,evA,h,orV]
theorem dT {ty:TypeId}:eV P T H (.alloc ty) K=orA (evA (aD P) T (.alloc ty)) K H:=by
 unfold eV mn
 cases h:evA (aD P) T (.alloc ty) with
 |none=>simp [evN,evL,h,nD,orA]
 |some v=>obtain ⟨c,k,mk⟩:=v;simp [evN,h,orA]
theorem f5 {ty:TypeId} {x:Operand}:eV P T H (.box ty x) K=K (.ptr H.length 0 0) (H++[some (.row (ev T x).cells.length true [(ev T x).cells])]):=by
 unfold eV mn
 simp [evN,evA]
theorem cg {ty:TypeId} {l c:Operand}:eV P T H (.makeSlice ty l c) K=orA (evA (aD P) T (.makeSlice ty l c)) K H:=by
 unfold eV mn
 cases h:evA (aD P) T (.makeSlice ty l c) with
 |none=>simp [evN,evL,h,nD,orA]
 |some v=>obtain ⟨c,k,mk⟩:=v;simp [evN,h,orA]
theorem bQ {ty:TypeId} {l:Nat} {ps:Array (Nat×Operand)}:eV P T H (.buildSlice ty l ps) K=orA (evA (aD P) T (.buildSlice ty l ps)) K H:=by
 unfold eV mn
 cases h:evA (aD P) T (.buildSlice ty l ps) with
 |none=>simp [evN,evL,h,nD,orA]
 |some v=>obtain ⟨c,k,mk⟩:=v;simp [evN,h,orA]
def orE (a:Option (Prop×V)) (b:Option V) (K:V→Hp→Prop) (H:Hp):Prop:=match a with
 |some (c,v)=>c∧K v H
 |none=>orV b K H
theorem gr {c:Prop} {v:V} {b:Option V}:orE (some (c,v)) b K H=(c∧K v H):=rfl
theorem gu {b:Option V}:orE none b K H=orV b K H:=rfl
theorem cQ {s d:TypeId} {x:Operand}:eV P T H (.convert s d x) K=orE (evN (aD P) T (.convert s d x)) (evL (aD P) T H (.convert s d x)) K H:=by
 unfold eV mn
 have he:nD P T H (.convert s d x) K=False:=rfl
 have ha:evA (aD P) T (.convert s d x)=none:=rfl
 rw [ha,he]
 cases evN (aD P) T (.convert s d x) with
 |some r=>rfl
 |none=>cases evL (aD P) T H (.convert s d x)<;>rfl
theorem yh {ty:TypeId} {m k:Operand} {ok:Bool}:eV P T H (.lookup ty m k ok) K=orV (evL (aD P) T H (.lookup ty m k ok)) K H:=by
 unfold eV mn
 have he:nD P T H (.lookup ty m k ok) K=False:=rfl
 have hn:evN (aD P) T (.lookup ty m k ok)=none:=rfl
 have ha:evA (aD P) T (.lookup ty m k ok)=none:=rfl
 rw [hn,ha,he]
 cases evL (aD P) T H (.lookup ty m k ok)<;>rfl
theorem vJ {ty:TypeId}:eV P T H (.makeMap ty none) K=K (.mpr H.length) (H++[some (.mp [])]):=by
 unfold eV mn
 simp [evN,evA]
theorem sX {ty:TypeId} {m k x:Operand}:eV P T H (.mapUpdate ty m k x) K=p6 P T H ty m k x K:=rfl
theorem yi {ty:TypeId} {m k x:Operand}:eV P T H (.insert ty m k x) K=p6 P T H ty m k x K:=rfl
theorem dM {ty:TypeId} {a x:Operand}:eV P T H (.store ty a x) K=fT P T H ty a x K:=by
 unfold eV mn
 simp [evN,evA,evL,nD]
theorem dW {x:Operand}:iE P T H (.move x) K=eV P T H (.move x) K:=rfl
theorem cR {x:Operand}:iE P T H (.assign x) K=eV P T H (.assign x) K:=rfl
theorem dV {c a b:Operand}:iE P T H (.pick c a b) K=eV P T H (.pick c a b) K:=rfl
theorem dm {ty:TypeId} {ps:Array (Nat×Operand)}:iE P T H (.build ty ps) K=eV P T H (.build ty ps) K:=rfl
theorem dp {op:BinOp} {ty ty':TypeId} {x y:Operand}:iE P T H (.binOp op ty x y ty') K=orP (lY (aD P) op ty (ev T x) (ev T y)) K H:=by
 show (match lY (aD P) op ty (ev T x) (ev T y) with
  |some (c,v)=>c∧K v H
  |none=>False)=_
 cases lY (aD P) op ty (ev T x) (ev T y)<;>rfl
theorem dU {op:UnOp} {ty:TypeId} {x:Operand}:iE P T H (.unOp op ty x) K=eV P T H (.unOp op ty x) K:=rfl
theorem cE {s d:TypeId} {x:Operand}:iE P T H (.convert s d x) K=eV P T H (.convert s d x) K:=rfl
theorem cm {f:Fn} {first cap:Array Operand}:iE P T H (.makeFunc f first cap) K=eV P T H (.makeFunc f first cap) K:=rfl
theorem zQ {x:Operand}:iE P T H (.nilCheck x) K=eV P T H (.nilCheck x) K:=rfl
theorem bU {s:TypeId} {x:Operand} {f:Nat}:iE P T H (.fieldAddr s x f) K=eV P T H (.fieldAddr s x f) K:=rfl
theorem dk {s:TypeId} {x:Operand} {f:Nat}:iE P T H (.field s x f) K=eV P T H (.field s x f) K:=rfl
theorem bT {s:TypeId} {x f:Operand}:iE P T H (.indexAddr s x f) K=eV P T H (.indexAddr s x f) K:=rfl
theorem dj {s:TypeId} {x f:Operand}:iE P T H (.index s x f) K=eV P T H (.index s x f) K:=rfl
theorem dh {s:TypeId} {x:Operand} {l h m:Option Operand}:iE P T H (.slice s x l h m) K=orP (evN (aD P) T (.slice s x l h m)) K H:=by
 show (match evN (aD P) T (.slice s x l h m) with
  |some (c,v)=>c∧K v H
  |none=>False)=_
 cases evN (aD P) T (.slice s x l h m)<;>rfl
theorem cD {x:Operand} {ix:Nat}:iE P T H (.extract x ix) K=eV P T H (.extract x ix) K:=rfl
theorem cF {b:Builtin} {args:Array Operand} {ts:Array TypeId}:iE P T H (.call { callee:= .builtin b,args,argTypes:=ts }) K=eV P T H (.call { callee:= .builtin b,args,argTypes:=ts }) K:=rfl
theorem dX {ty:TypeId} {x:Operand}:iE P T H (.load ty x) K=eV P T H (.load ty x) K:=rfl
theorem dq {ty:TypeId}:iE P T H (.alloc ty) K=eV P T H (.alloc ty) K:=rfl
theorem ff {ty:TypeId} {x:Operand}:iE P T H (.box ty x) K=eV P T H (.box ty x) K:=rfl
theorem bS {ty:TypeId} {l c:Operand}:iE P T H (.makeSlice ty l c) K=eV P T H (.makeSlice ty l c) K:=rfl
theorem bJ {ty:TypeId} {l:Nat} {ps:Array (Nat×Operand)}:iE P T H (.buildSlice ty l ps) K=eV P T H (.buildSlice ty l ps) K:=rfl
theorem vK {ty:TypeId} {m k:Operand} {ok:Bool}:iE P T H (.lookup ty m k ok) K=eV P T H (.lookup ty m k ok) K:=rfl
theorem uU {ty:TypeId} {r:Option Operand}:iE P T H (.makeMap ty r) K=eV P T H (.makeMap ty r) K:=rfl
theorem sJ {ty:TypeId} {m k x:Operand}:iE P T H (.mapUpdate ty m k x) K=eV P T H (.mapUpdate ty m k x) K:=rfl
theorem vL {ty:TypeId} {m k x:Operand}:iE P T H (.insert ty m k x) K=eV P T H (.insert ty m k x) K:=rfl
theorem df {ty:TypeId} {a x:Operand}:iE P T H (.store ty a x) K=eV P T H (.store ty a x) K:=rfl
theorem Eo {fv:Operand} {args:Array Operand} {ts:Array TypeId} {g:FuncId} {first cap as:List V} {r:V} (hf:ev T fv= .clo g first cap) (hv:ii H (first++args.toList.map (ev T)++cap)=some as) (hp:PC P g as r)
 (hd:(first++args.toList.map (ev T)++cap).all (flat 9)=true∨dry 9 r=true) (hK:K r H):eV P T H (.call { callee:= .value fv,args,argTypes:=ts }) K:=by
 unfold eV mn
 simp only [evN,evA,evL,nD,hf]
 exact .inl (by simp only [BT,hf];exact ⟨as,r,hv,hp,hd,hK⟩)
def ov (l:List (Nat×V)) (J:Nat→V):Nat→Nat→List V
 |_,0=>[]
 |i,n+1=>(l.lookup i).getD (J i)::ov l J (i+1) n
theorem FF.mono {φ:Nat→Option Loc} {I:Nat→Prop} {w w':World} {K K':V→Hp→Prop} (h:∀ v H,K v H→K' v H) {e:Ending} (he:FF φ I H w K e w'):FF φ I H w K' e w':=by
 obtain ⟨x,r,H',φ',I',h1,h2,h3⟩:=he
 exact ⟨x,r,H',φ',I',h1,h _ _ h2,h3⟩
theorem SC.mono {f:FuncId} {args:List V} {K K':V→Hp→Prop} (h:∀ v H,K v H→K' v H) (hs:SC P f args H K):SC P f args H K':=fun φ I w xs hS hx=>
 ⟨(hs φ I w xs hS hx).1,(hs φ I w xs hS hx).2.mono fun _ _ he=>he.mono h⟩
theorem YC.mono {b:Nat} {args:List V} {K K':V→Hp→Prop} (h:∀ v H,K v H→K' v H) (hs:YC P b args H K):YC P b args H K':=fun φ I w xs L hL hS hx=>
 let ⟨fn,tmps,as,body,h1,h2⟩:=hs φ I w xs L hL hS hx
 ⟨fn,tmps,as,body,h1,h2.mono fun _ _ he=>he.mono h⟩
theorem Ep {ty:TypeId} {a x:Operand} {K':V→Hp→Prop} (h:∀ v H,K v H→K' v H) (hs:fT P T H ty a x K):fT P T H ty a x K':=by
 unfold fT at*
 split at hs
 ·split at hs
  ·split at hs
   ·exact ⟨hs.1,hs.2.1,hs.2.2.1,h _ _ hs.2.2.2⟩
   ·exact hs.elim
  ·exact hs.elim
 ·exact hs.elim
theorem BU {ei:TyI} {s:V} {ys:List (List V)} {K':V→Hp→Prop} (h:∀ v H,K v H→K' v H) (hs:nP P H ei s ys K):nP P H ei s ys K':=by
 unfold nP at*
 refine ⟨hs.1,?_⟩
 have hs:=hs.2
 split at hs
 ·exact ⟨fun e=>h _ _ (hs.1 e),fun e=>⟨(hs.2 e).1,(hs.2 e).2.1,h _ _ (hs.2 e).2.2⟩⟩
 ·split at hs
  ·refine ⟨hs.1,hs.2.1,?_⟩
   rcases hs.2.2 with q|q|q
   ·exact .inl ⟨q.1,q.2.1,q.2.2.1,h _ _ q.2.2.2⟩
   ·exact .inr (.inl ⟨q.1,q.2.1,q.2.2.1,q.2.2.2.1,h _ _ q.2.2.2.2⟩)
   ·exact .inr (.inr ⟨q.1,q.2.1,q.2.2.1,q.2.2.2.1,h _ _ q.2.2.2.2⟩)
  ·exact hs.elim
 ·exact hs.elim
theorem FN {ei:TyI} {d:V} {ys:List (List V)} {K':V→Hp→Prop} (h:∀ v H,K v H→K' v H) (hs:zU H ei d ys K):zU H ei d ys K':=by
 unfold zU at*
 refine ⟨hs.1,?_⟩
 have hs:=hs.2
 split at hs
 ·split at hs
  ·exact ⟨hs.1,hs.2.1,h _ _ hs.2.2⟩
  ·exact hs.elim
 ·exact hs.elim
theorem Eq {ei:TyI} {d:V} {K':V→Hp→Prop} (h:∀ v H,K v H→K' v H) (hs:vM H ei d K):vM H ei d K':=by
 unfold vM at*
 split at hs
 ·split at hs
  ·exact ⟨hs.1,hs.2.1,h _ _ hs.2.2⟩
  ·exact hs.elim
 ·exact hs.elim
theorem HO {s:TypeId} {x:Operand} {l h m:Option Operand} {K':V→Hp→Prop} (hk:∀ v H,K v H→K' v H) (hs:vN P T H s x l h m K):vN P T H s x l h m K':=by
 unfold vN at*
 split at hs
 ·split at hs
  ·split at hs
   ·exact ⟨hs.1,hs.2.1,hs.2.2.1,hs.2.2.2.1,hk _ _ hs.2.2.2.2⟩
   ·exact hs.elim
  ·exact hs.elim
 ·exact hs.elim
theorem CD {op:Op} {K':V→Hp→Prop} (h:∀ v H,K v H→K' v H) (hs:BT P T H op K):BT P T H op K':=by
 unfold BT at*
 split at hs
 ·split at hs
  ·obtain ⟨as,r,h1,h2,h3,h4⟩:=hs;exact ⟨as,r,h1,h2,h3,h _ _ h4⟩
  ·exact hs.elim
 ·exact hs.elim
theorem KI {op:Op} {K':V→Hp→Prop} (h:∀ v H,K v H→K' v H) (hs:HM P T H op K):HM P T H op K':=by
 unfold HM at*
 split at hs
 ·split at hs
  ·obtain ⟨v,o,h1,h2,h3⟩:=hs;exact ⟨v,o,h1,h2,h _ _ h3⟩
  ·exact hs.elim
 ·exact hs.elim
theorem yj {ty:TypeId} {m k x:Operand} {K':V→Hp→Prop} (h:∀ v H,K v H→K' v H) (hs:p6 P T H ty m k x K):p6 P T H ty m k x K':=by
 unfold p6 at*
 split at hs
 ·split at hs
  ·split at hs
   ·refine ⟨hs.1,?_⟩
    have hs:=hs.2
    split at hs
    ·exact h _ _ hs
    ·exact ⟨hs.1,hs.2.1,h _ _ hs.2.2⟩
    ·exact hs.elim
   ·exact hs.elim
  ·exact hs.elim
 ·exact hs.elim
theorem HN {op:Op} {K':V→Hp→Prop} (h:∀ v H,K v H→K' v H) (hs:nD P T H op K):nD P T H op K':=by
 unfold nD at*
 split at hs
 ·exact Ep h hs
 ·exact HO h hs
 ·exact yj h hs
 ·exact yj h hs
 ·unfold FK at*
  split at hs
  ·split at hs
   ·exact ⟨h _ _ hs.1,h _ _ hs.2⟩
   ·exact hs.elim
  ·exact hs.elim
 ·split at hs
  ·exact hs.imp (CD h) (SC.mono h)
  ·exact hs.mono h
  ·exact hs.elim
 ·split at hs
  ·split at hs
   ·split at hs
    ·split at hs
     ·exact ⟨hs.1,BU (P:=P) h hs.2⟩
     ·exact hs.elim
    ·exact hs.elim
   ·exact hs.elim
  ·exact hs.elim
 ·split at hs
  ·split at hs
   ·split at hs
    ·split at hs
     ·exact FN h hs
     ·exact hs.elim
    ·exact hs.elim
   ·exact hs.elim
  ·exact hs.elim
 ·split at hs
  ·split at hs
   ·split at hs
    ·exact Eq h hs
    ·exact hs.elim
   ·exact hs.elim
  ·exact hs.elim
 ·exact hs.elim
theorem CE {op:Op} {K':V→Hp→Prop} (h:∀ v H,K v H→K' v H) (hs:eV P T H op K):eV P T H op K':=by
 unfold eV mn at*
 cases h1:evN (aD P) T op with
 |some r=>obtain ⟨c,v⟩:=r;rw [h1] at hs;exact ⟨hs.1,h _ _ hs.2⟩
 |none=>
  rw [h1] at hs
  cases h2:evA (aD P) T op with
  |some r=>obtain ⟨c,k,mk⟩:=r;rw [h2] at hs;exact ⟨hs.1,h _ _ hs.2⟩
  |none=>
   rw [h2] at hs
   cases h3:evL (aD P) T H op with
   |some v=>rw [h3] at hs;exact h _ _ hs
   |none=>rw [h3] at hs;exact HN h hs
theorem zR {op:Op} {K':V→Hp→Prop} (h:∀ v H,K v H→K' v H) (hs:iE P T H op K):iE P T H op K':=by
 unfold iE at*
 split at hs
 ·exact hs.imp (CD h) (KI h)
 ·split at hs
  ·exact ⟨hs.1,h _ _ hs.2⟩
  ·exact hs.elim
 ·split at hs
  ·exact ⟨hs.1,h _ _ hs.2⟩
  ·exact hs.elim
 ·exact CE h hs
theorem zT {W:List V→Hp→Op→(V→Hp→Prop)→Prop} (hW:∀ {op:Op} {K K':V→Hp→Prop},(∀ v H,K v H→K' v H)→W T H op K→W T H op K') {o:LOp} {K':V→Hp→Prop} (h:∀ v H,K v H→K' v H) (hs:wpG W T H o K):wpG W T H o K':=by
 unfold wpG at*
 split at hs
 ·exact hW h hs
 ·split at hs
  ·exact ⟨fun e=>hW h (hs.1 e),fun e=>h _ _ (hs.2 e)⟩
  ·exact h _ _ hs
  ·exact hs.elim
theorem zO {Q Q':List V→Hp→Prop} (h:∀ T H,Q T H→Q' T H):∀ (os:List LOp) {T:List V} {H:Hp},oA P os T H Q→oA P os T H Q'
 |[],_,_,hs=>h _ _ hs
 |o::os,T,H,hs=>by
  unfold oA at*
  exact zT (fun h hs=>CE h hs) (fun _ _ hs=>zO h os hs) hs
theorem sW {Q Q':List V→Hp→Prop} (h:∀ T H,Q T H→Q' T H):∀ (os:List LOp) {hi:x7} {T:List V} {H:Hp},mR P os hi T H Q→mR P os hi T H Q'
 |[],_,_,_,hs=>h _ _ hs
 |o::os,hi,T,H,hs=>by
  unfold mR at*
  split at hs
  ·exact zT (fun h hs=>zR h hs) (fun _ _ hs=>sW h os hs) hs
  ·exact ⟨hs.1,zT (fun h hs=>zR h hs) (fun _ _ hs=>sW h os hs) hs.2⟩
theorem rd:∀ (c:LC) {T:List V} {H:Hp} {Q Q':kF},(∀ x T H,Q x T H→Q' x T H)→wpL P c T H Q→wpL P c T H Q':=by
 intro c
 induction c with
 |skip=>intro T H Q Q' h hs;exact h _ _ _ hs
 |ops d l=>
  intro T H Q Q' h hs
  cases d with
  |false=>exact zO (h .normal) l hs
  |true=>exact sW (h .normal) l hs
 |seq a b iha ihb=>
  intro T H Q Q' h hs
  unfold wpL at hs ⊢
  refine iha ?_ hs
  intro x T H hq
  cases x with
  |normal=>exact ihb h hq
  |_=>exact h _ _ _ hq
 |cond c a b iha ihb=>
  intro T H Q Q' h hs
  unfold wpL at hs ⊢
  split at hs
  ·exact ⟨fun e=>iha h (hs.1 e),fun e=>ihb h (hs.2 e)⟩
  ·exact hs.elim
 |block id c ih=>
  intro T H Q Q' h hs
  unfold wpL at hs ⊢
  refine ih ?_ hs
  intro x T H hq
  cases x with
  |exit i=>
   simp only at hq ⊢
   split
   ·rename_i e;rw [if_pos e] at hq;exact h _ _ _ hq
   ·rename_i e;rw [if_neg e] at hq;exact h _ _ _ hq
  |_=>exact h _ _ _ hq
 |loop c ih=>
  intro T H Q Q' h hs
  unfold wpL at hs ⊢
  obtain ⟨k,hk⟩:=hs
  refine ⟨k,?_⟩
  induction k generalizing T H with
  |zero=>exact hk.elim
  |succ k ihk=>
   refine ih ?_ hk
   intro x T H hq
   cases x with
   |normal=>exact ihk hq
   |_=>exact h _ _ _ hq
 |rangeFunc f ps as body=>
  intro T H Q Q' h hs
  unfold wpL at hs ⊢
  split at hs
  ·refine hs.mono ?_
   intro _ H' hq
   split at hq
   ·refine ⟨hq.1,?_⟩
    have hq:=hq.2
    split at hq
    ·exact h _ _ _ hq
    ·exact hq.elim
   ·exact hq.elim
  ·exact hs.elim
 |exit id=>intro T H Q Q' h hs;exact h _ _ _ hs
 |goto id=>intro T H Q Q' h hs;exact h _ _ _ hs
 |ret=>intro T H Q Q' h hs;exact h _ _ _ hs
theorem rU {c:LC} {S:Type} (st:S→(Nat→V)→List V) (Inv:S→Hp→Prop) (m:S→Nat) (s0:S) (h1:T=st s0 (fun k=>T.getD k cW)) (h2:Inv s0 H)
 (step:∀ s J H,Inv s H→wpL P c (st s J) H (fun x T' H'=>match x with
  | .normal=>∃ s',T'=st s' (fun k=>T'.getD k cW)∧Inv s' H'∧m s'<m s
  |x=>Q x T' H')):wpL P (.loop c) T H Q:=by
 have key:∀ (k:Nat) (s:S) (J:Nat→V) (H:Hp),m s<k→Inv s H→wx (wpL P c) Q k (st s J) H:=by
  intro k
  induction k with
  |zero=>intro s J H h;exact absurd h (Nat.not_lt_zero _)
  |succ k ih=>
   intro s J H h hi
   refine rd c ?_ (step s J H hi)
   intro x T' H' hq
   cases x with
   |normal=>
    obtain ⟨s',e,hi',hm⟩:=hq
    try simp only
    rw [e]
    exact ih s' _ H' (by omega) hi'
   |_=>exact hq
 unfold wpL
 exact ⟨m s0+1,by rw [h1];exact key _ s0 _ H (Nat.lt_succ_self _) h2⟩
theorem iU {n:Nat} {x:Operand}:foot T H n (.move x)=none:=rfl
theorem fJ {n:Nat} {x:Operand}:foot T H n (.assign x)=none:=rfl
theorem iT {n:Nat} {a b c:Operand}:foot T H n (.pick a b c)=none:=rfl
theorem gO {n:Nat} {ty:TypeId} {ps:Array (Nat×Operand)}:foot T H n (.build ty ps)=none:=rfl
theorem gQ {n:Nat} {op:BinOp} {ty ty':TypeId} {x y:Operand}:foot T H n (.binOp op ty x y ty')=none:=rfl
theorem iS {n:Nat} {op:UnOp} {ty:TypeId} {x:Operand}:foot T H n (.unOp op ty x)=none:=rfl
theorem dJ {n:Nat} {f:Fn} {a b:Array Operand}:foot T H n (.makeFunc f a b)=none:=rfl
theorem B5 {n:Nat} {x:Operand}:foot T H n (.nilCheck x)=none:=rfl
theorem dC {n:Nat} {s:TypeId} {x:Operand} {f:Nat}:foot T H n (.fieldAddr s x f)=none:=rfl
theorem gL {n:Nat} {s:TypeId} {x:Operand} {f:Nat}:foot T H n (.field s x f)=none:=rfl
theorem dB {n:Nat} {s:TypeId} {x y:Operand}:foot T H n (.indexAddr s x y)=none:=rfl
theorem gK {n:Nat} {s:TypeId} {x y:Operand}:foot T H n (.index s x y)=none:=rfl
theorem gJ {n:Nat} {s:TypeId} {x:Operand} {a b c:Option Operand}:foot T H n (.slice s x a b c)=none:=rfl
theorem eK {n:Nat} {x:Operand} {i:Nat}:foot T H n (.extract x i)=none:=rfl
theorem jS {n:Nat} {args:Array Operand} {ts:Array TypeId}:foot T H n (.call { callee:= .builtin .len,args,argTypes:=ts })=none:=rfl
theorem jT {n:Nat} {args:Array Operand} {ts:Array TypeId}:foot T H n (.call { callee:= .builtin .cap,args,argTypes:=ts })=none:=rfl
theorem jR {n:Nat} {args:Array Operand} {ts:Array TypeId}:foot T H n (.call { callee:= .builtin .max,args,argTypes:=ts })=none:=rfl
theorem jQ {n:Nat} {args:Array Operand} {ts:Array TypeId}:foot T H n (.call { callee:= .builtin .min,args,argTypes:=ts })=none:=rfl
theorem iV {n:Nat} {ty:TypeId} {x:Operand}:foot T H n (.load ty x)=some (false,fR (ev T x)):=rfl
theorem eL {n:Nat} {s d:TypeId} {x:Operand}:foot T H n (.convert s d x)=some (false,fR (ev T x)):=rfl
theorem gI {n:Nat} {ty:TypeId} {x y:Operand}:foot T H n (.store ty x y)=some (true,fR (ev T x)):=rfl
theorem gR {n:Nat} {ty:TypeId}:foot T H n (.alloc ty)=some (true,[n]):=rfl
theorem jU {n:Nat} {ty:TypeId} {x:Operand}:foot T H n (.box ty x)=some (true,[n]):=rfl
theorem dA {n:Nat} {ty:TypeId} {x y:Operand}:foot T H n (.makeSlice ty x y)=some (true,[n]):=rfl
theorem cZ {n:Nat} {ty:TypeId} {l:Nat} {ps:Array (Nat×Operand)}:foot T H n (.buildSlice ty l ps)=some (true,[n]):=rfl
theorem fK {n:Nat} {args:Array Operand} {ts:Array TypeId}:foot T H n (.call { callee:= .builtin .append,args,argTypes:=ts })=some (true,n::args.toList.flatMap fun x=>fR (ev T x)):=rfl
theorem iW {n:Nat} {args:Array Operand} {ts:Array TypeId}:foot T H n (.call { callee:= .builtin .copy,args,argTypes:=ts })=some (true,args.toList.flatMap fun x=>fR (ev T x)):=rfl
theorem gN {n:Nat} {args:Array Operand} {ts:Array TypeId}:foot T H n (.call { callee:= .builtin .clear,args,argTypes:=ts })=some (true,args.toList.flatMap fun x=>fR (ev T x)):=rfl
def OZ (T:List V) (H:Hp) (args:Array Operand):V→Option (Bool×List Nat)
 | .clo _ first cap=>some ((first++args.toList.map (ev T)++cap).any kI,(first++args.toList.map (ev T)++cap).flatMap (eD H 9))
 |_=>some (false,[])
theorem iX {n:Nat} {fv:Operand} {args:Array Operand} {ts:Array TypeId}:foot T H n (.call { callee:= .value fv,args,argTypes:=ts })=OZ T H args (ev T fv):=by
 simp only [foot,OZ]
 rfl
theorem iY {args:Array Operand} {g:FuncId} {first cap:List V}:OZ T H args (.clo g first cap)=some ((first++args.toList.map (ev T)++cap).any kI,(first++args.toList.map (ev T)++cap).flatMap (eD H 9)):=rfl
theorem gU {x:Value}:fR (.prim x)=[]:=rfl
theorem jb {e:List V} {j:Nat}:fR (.ivp e j)=[]:=rfl
theorem ja {e:List (List V)} {j:Nat}:fR (.lst j e)=[]:=rfl
theorem jc {e:List V}:fR (.agg e)=[]:=rfl
theorem i8 {e:List V}:fR (.tup e)=[]:=rfl
theorem i9 {b i j:Nat}:fR (.ptr b i j)=[b]:=rfl
theorem gT {b o n c z:Nat} {fx:Bool}:fR (.sref b o n c z fx)=[b]:=rfl
theorem jW {bef i:Nat} {f g:List Nat}:pd bef (false,f) (i,false,g)=false:=by simp [pd]
theorem jY {bef i:Nat} {b:Bool} {g:Bool×List Nat}:pd bef (b,[]) (i,g)=false:=by simp [pd]
theorem jX {bef i:Nat} {b:Bool×List Nat} {c:Bool}:pd bef b (i,c,[])=false:=by simp [pd]
theorem i7 {bef i:Nat} {f g:Bool×List Nat} (h:bef.testBit i=true):pd bef f (i,g)=false:=by simp [pd,h]
theorem gH {n:Nat} {x:Value}:eD H (n+1) (.prim x)=[]:=by simp [eD]
theorem iP {n j:Nat} {e:List (List V)}:eD H (n+1) (.lst j e)=[]:=by simp [eD]
theorem iR {n:Nat} {e:List V}:eD H (n+1) (.agg e)=e.flatMap (eD H n):=by simp [eD]
theorem iM {n:Nat} {e:List V}:eD H (n+1) (.tup e)=e.flatMap (eD H n):=by simp [eD]
theorem iQ {n:Nat} {f:FuncId} {a b:List V}:eD H (n+1) (.clo f a b)=a.flatMap (eD H n)++b.flatMap (eD H n):=by simp [eD]
def MO (H:Hp) (n i:Nat):Option Blk→List Nat
 |some (.row _ _ es)=>(es.getD i []).flatMap (eD H n)
 |_=>[]
theorem z7 {n i sz:Nat} {m:Bool} {es:List (List V)}:MO H n i (some (.row sz m es))=(es.getD i []).flatMap (eD H n):=rfl
theorem iO {n b i j:Nat}:eD H (n+1) (.ptr b i j)=b::MO H n i (get H b):=by rw [eD];rfl
theorem yJ {n:Nat} {x:Value}:fG (n+1) (.prim x)=false:=by simp [fG]
theorem A5 {n j:Nat} {e:List (List V)}:fG (n+1) (.lst j e)=false:=by simp [fG]
theorem yI {n b o k c z:Nat} {fx:Bool}:fG (n+1) (.sref b o k c z fx)=true:=by simp [fG]
theorem ym {n:Nat}:eD H (n+1) cW=[]:=by simp [eD,cW]
theorem wC:kI cW=false:=by simp [kI,fG,cW]
theorem wD {n:Nat}:fG (n+1) cW=false:=by simp [fG,cW]
theorem yH {x:Value}:kI (.prim x)=false:=by simp [kI,fG]
theorem AV {j:Nat} {e:List (List V)}:kI (.lst j e)=false:=by simp [kI,fG]
theorem yG {b o k c z:Nat} {fx:Bool}:kI (.sref b o k c z fx)=false:=rfl
theorem AX {e:List V}:kI (.agg e)=e.any (fG 8):=by simp [kI,fG]
theorem AR {e:List V}:kI (.tup e)=e.any (fG 8):=by simp [kI,fG]
theorem AW {f:FuncId} {a b:List V}:kI (.clo f a b)=(a.any (fG 8)||b.any (fG 8)):=by simp [kI,fG]
theorem AS {b i j:Nat}:kI (.ptr b i j)=true:=by simp [kI,fG]
theorem AQ {b:Nat}:kI (.yld b)=false:=by simp [kI,fG]
theorem A7 {n:Nat} {e:List V}:fG (n+1) (.agg e)=e.any (fG n):=by simp [fG]
theorem AZ {n:Nat} {e:List V}:fG (n+1) (.tup e)=e.any (fG n):=by simp [fG]
theorem A6 {n:Nat} {f:FuncId} {a b:List V}:fG (n+1) (.clo f a b)=(a.any (fG n)||b.any (fG n)):=by simp [fG]
theorem A3 {n b i j:Nat}:fG (n+1) (.ptr b i j)=true:=by simp [fG]
theorem D4 {b:Nat}:(V.mpr b).cells=[.mpr b]:=rfl
theorem D6 {b:Nat}:ku (.mpr b)=true:=rfl
theorem Ed {b:Nat}:fR (.mpr b)=[b]:=rfl
theorem CQ {H:Hp} {n b:Nat}:eD H (n+1) (.mpr b)=[b]:=by simp [eD]
theorem A4 {n b:Nat}:fG (n+1) (.mpr b)=true:=by simp [fG]
theorem AU {b:Nat}:kI (.mpr b)=true:=by simp [kI,fG]
theorem yL {H:Hp} {T:List V} {nid:Nat} {t:TypeId} {m k:Operand} {ok:Bool}:foot T H nid (.lookup t m k ok)=some (false,fR (ev T m)):=rfl
theorem tO {H:Hp} {T:List V} {nid:Nat} {t:TypeId} {m k x:Operand}:foot T H nid (.mapUpdate t m k x)=some (true,fR (ev T m)):=rfl
theorem yM {H:Hp} {T:List V} {nid:Nat} {t:TypeId} {m k x:Operand}:foot T H nid (.insert t m k x)=some (true,fR (ev T m)):=rfl
theorem wG {H:Hp} {T:List V} {nid:Nat} {t:TypeId} {r:Option Operand}:foot T H nid (.makeMap t r)=some (true,[nid]):=rfl
theorem AY {n b:Nat}:fG (n+1) (.yld b)=false:=by simp [fG]
theorem iK {n:Nat} {x:Value}:view H (n+1) (.prim x)=some (.prim x):=by simp [view]
theorem jN {n j:Nat} {e:List (List V)}:view H (n+1) (.lst j e)=some (.lst j e):=by simp [view]
theorem jO {n:Nat} {f:FuncId}:view H (n+1) (.clo f [] [])=some (.clo f [] []):=by simp [view]
theorem jP {n:Nat} {e:List V}:view H (n+1) (.agg e)=(view.viewL H n e).map .agg:=by simp [view]
theorem jM {n:Nat} {e:List V}:view H (n+1) (.tup e)=(view.viewL H n e).map .tup:=by simp [view]
theorem iL {n:Nat}:view.viewL H n []=some []:=by simp [view.viewL]
def Pq (a:Option V) (b:Option (List V)):Option (List V):=match a,b with
 |some x,some xs=>some (x::xs)
 |_,_=>none
theorem gS {a:V} {b:List V}:Pq (some a) (some b)=some (a::b):=rfl
theorem gF {n:Nat} {v:V} {vs:List V}:view.viewL H n (v::vs)=Pq (view H n v) (view.viewL H n vs):=by rw [view.viewL];rfl
theorem eJ:ii H []=some []:=rfl
theorem dI {v:V} {vs:List V}:ii H (v::vs)=Pq (view H 9 v) (ii H vs):=rfl
def sI (P:Program) (T:List V) (H:Hp) (ts:Array TypeId) (K:V→Hp→Prop) (s x:Option Operand) (t:Option TypeId):Prop:=match s,x,t with
 |some s,some x,some t=>match aD P t with
  |some { k:= .slice e,.. }=>match aD P e with
   |some ei=>match rR P H ei ts[1]? (ev T x) with
    |some (c,ys)=>c∧nP P H ei (ev T s) ys K
    |none=>False
   |none=>False
  |_=>False
 |_,_,_=>False
theorem fH {args:Array Operand} {ts:Array TypeId}:eV P T H (.call { callee:= .builtin .append,args,argTypes:=ts }) K=sI P T H ts K args[0]? args[1]? ts[0]? :=by
 unfold eV mn
 simp only [evN,evA,evL,nD];rfl
def ou (P:Program) (T:List V) (H:Hp) (K:V→Hp→Prop) (d x:Option Operand) (t:Option TypeId):Prop:=match d,x,t with
 |some d,some x,some t=>match aD P t with
  |some { k:= .slice e,.. }=>match aD P e with
   |some ei=>match jz H ei.sz (ev T x) with
    |some ys=>zU H ei (ev T d) ys K
    |none=>False
   |none=>False
  |_=>False
 |_,_,_=>False
theorem iJ {args:Array Operand} {ts:Array TypeId}:eV P T H (.call { callee:= .builtin .copy,args,argTypes:=ts }) K=ou P T H K args[0]? args[1]? ts[0]? :=by
 unfold eV mn
 simp only [evN,evA,evL,nD];rfl
theorem JG {rs:List ResultVar} {R:V→Hp→Prop}:ru P rs R .ret T H=(match lB (aD P) T H rs with
 |some vs=>R (pH vs) H
 |none=>False):=rfl
theorem fO {k:Option Blk}:get (k::H) 0=k:=by cases k<;>rfl
theorem gz {k:Option Blk} {n:Nat}:get (k::H) (n+1)=get H n:=by simp [get]
theorem db {x y:V}:jf [x] 0 [y]=[y]:=by simp [jf]
theorem d5 {x:Value}:(V.prim x).cells=[.prim x]:=rfl
theorem fw {e:List V}:(V.agg e).cells=e:=rfl
theorem fq {n:Nat} {e:List (List V)}:(V.lst n e).cells=[.lst n e]:=rfl
theorem d4 {b o n c z:Nat} {fx:Bool}:(V.sref b o n c z fx).cells=[.sref b o n c z fx]:=rfl
theorem fp {b i j:Nat}:(V.ptr b i j).cells=[.ptr b i j]:=rfl
theorem fu {f:FuncId} {a b:List V}:(V.clo f a b).cells=[.clo f a b]:=rfl
theorem d7 {x:Value}:ku (.prim x)=true:=rfl
theorem fz {n:Nat} {e:List (List V)}:ku (.lst n e)=true:=rfl
theorem d6 {b o n c z:Nat} {fx:Bool}:ku (.sref b o n c z fx)=true:=rfl
theorem fy {b i j:Nat}:ku (.ptr b i j)=true:=rfl
theorem fA {f:FuncId} {a b:List V}:ku (.clo f a b)=true:=rfl
theorem aO {b:Nat} {k:Blk} {l:Hp} (h:get H b=some k):get (H++l) b=some k:=by
 unfold get at*
 have:b<H.length:=by
  rcases am b H.length with h1|h1
  ·exact h1
  ·rw [List.getElem?_eq_none h1] at h;cases h
 rw [bB this];exact h
theorem bo {k:Option Blk}:get (H++[k]) H.length=k:=by simp [get]
theorem sq {b:Nat} {k:Blk} {k':Option Blk} (h:get H b=some k):get (H.set b k') b=k':=by
 have:b<H.length:=by
  rcases am b H.length with h1|h1
  ·exact h1
  ·rw [get,List.getElem?_eq_none h1] at h;cases h
 simp [get,this]
theorem mF {b c:Nat} {k:Option Blk} (h:c≠b):get (H.set b k) c=get H c:=by simp [get,fS,Ne.symm h]
end Go.Av
