/- Helping texts: Av, Aw, As1, As2, As3. -/
import Derived.CallsIn
import Derived.OrdersIn
import Derived.RangeFuncIn
import Derived.RangeFuncLeaves
import Derived.Below
import Derived.Laws.Cells
import Derived.Laws.CopyRow
import Derived.Laws.World
import Derived.Laws.AppendOwn
import Derived.RangeFuncRecord
import Derived.Laws.Tables
import Derived.Laws.StructEq
import Derived.TacticsIn
import Derived.ChangeKeysEq
import Derived.Laws.Slices
import Derived.Laws.Build
set_option linter.unusedSimpArgs false
set_option linter.unusedVariables false
set_option maxRecDepth 100000
set_option maxHeartbeats 16000000
namespace Go.Av
theorem bE:type_of% @List.append_assoc:=@List.append_assoc
theorem aB:type_of% @List.getD_cons_succ:=@List.getD_cons_succ
theorem aM:type_of% @List.getD_cons_zero:=@List.getD_cons_zero
theorem ae:type_of% @List.getD_eq_getElem?_getD:=@List.getD_eq_getElem?_getD
theorem bB:type_of% @List.getElem?_append_left:=@List.getElem?_append_left
theorem bv:type_of% @List.getElem?_append_right:=@List.getElem?_append_right
theorem aV:type_of% @List.getElem?_cons_succ:=@List.getElem?_cons_succ
theorem aN:type_of% @List.getElem?_cons_zero:=@List.getElem?_cons_zero
theorem af:type_of% @List.getElem?_eq_getElem:=@List.getElem?_eq_getElem
theorem aH:type_of% @List.getElem?_eq_some_iff:=@List.getElem?_eq_some_iff
theorem aW:type_of% @List.getElem?_map:=@List.getElem?_map
theorem fS:type_of% @List.getElem?_set:=@List.getElem?_set
theorem fE:type_of% @List.getElem?_take:=@List.getElem?_take
theorem bx:type_of% @List.getElem_mem:=@List.getElem_mem
theorem aK:type_of% @List.length_append:=@List.length_append
theorem aC:type_of% @List.length_cons:=@List.length_cons
theorem pC:type_of% @List.length_drop:=@List.length_drop
theorem az:type_of% @List.length_map:=@List.length_map
theorem aI:type_of% @List.length_nil:=@List.length_nil
theorem zd:type_of% @List.length_range:=@List.length_range
theorem cO:type_of% @List.length_set:=@List.length_set
theorem bD:type_of% @List.length_singleton:=@List.length_singleton
theorem d9:type_of% @List.length_take:=@List.length_take
theorem bz:type_of% @List.map_append:=@List.map_append
theorem aY:type_of% @List.map_cons:=@List.map_cons
theorem aF:type_of% @List.mem_append:=@List.mem_append
theorem bg:type_of% @List.mem_append_left:=@List.mem_append_left
theorem bC:type_of% @List.mem_append_right:=@List.mem_append_right
theorem ay:type_of% @List.mem_cons:=@List.mem_cons
theorem ag:type_of% @List.mem_cons_of_mem:=@List.mem_cons_of_mem
theorem ah:type_of% @List.mem_cons_self:=@List.mem_cons_self
theorem iD:type_of% @List.mem_filter:=@List.mem_filter
theorem bK:type_of% @List.mem_iff_getElem:=@List.mem_iff_getElem
theorem av:type_of% @List.mem_map:=@List.mem_map
theorem dz:type_of% @List.mem_range:=@List.mem_range
theorem bH:type_of% @List.mem_singleton:=@List.mem_singleton
theorem mH:type_of% @List.nodup_append:=@List.nodup_append
theorem cV:type_of% @List.nodup_cons:=@List.nodup_cons
theorem qo:type_of% @List.pairwise_cons:=@List.pairwise_cons
theorem bN:type_of% @List.pairwise_iff_getElem:=@List.pairwise_iff_getElem
theorem nM:type_of% @List.singleton_append:=@List.singleton_append
theorem ax:type_of% @Nat.le_refl:=@Nat.le_refl
theorem bi:type_of% @Nat.le_trans:=@Nat.le_trans
theorem am:type_of% @Nat.lt_or_ge:=@Nat.lt_or_ge
theorem bA:type_of% @Nat.mod_eq_of_lt:=@Nat.mod_eq_of_lt
theorem aS:type_of% @Nat.mul_le_mul_right:=@Nat.mul_le_mul_right
theorem aX:type_of% @Nat.zero_add:=@Nat.zero_add
theorem bh:type_of% @Nat.zero_le:=@Nat.zero_le
theorem bG:type_of% @Option.getD_some:=@Option.getD_some
theorem bj:type_of% @Option.map_some:=@Option.map_some
theorem bu:type_of% @Option.some.injEq:=@Option.some.injEq
theorem ai:type_of% @Rat.le_of_lt:=@Rat.le_of_lt
theorem iy:type_of% @Rat.le_trans:=@Rat.le_trans
theorem aL:type_of% @Rat.lt_irrefl:=@Rat.lt_irrefl
theorem br:type_of% @Rat.mul_eq_zero:=@Rat.mul_eq_zero
theorem aj:type_of% @Rat.mul_nonneg:=@Rat.mul_nonneg
theorem au:type_of% @Rat.mul_pos:=@Rat.mul_pos
theorem aQ:type_of% @Result.andThen_ok:=@Result.andThen_ok
theorem ak:type_of% @decide_eq_false:=@decide_eq_false
theorem aG:type_of% @decide_eq_false_iff_not:=@decide_eq_false_iff_not
theorem an:type_of% @decide_eq_true:=@decide_eq_true
theorem aE:type_of% @decide_eq_true_eq:=@decide_eq_true_eq
inductive V where
 |prim (v:Value)
 |ptr (b i j:Nat)
 |ivp (e:List V) (j:Nat)
 |lst (sz:Nat) (es:List (List V))
 |sref (b o n c sz:Nat) (fx:Bool)
 |clo (f:FuncId) (first cap:List V)
 |yld (b:Nat)
 |mpr (b:Nat)
 |agg (cs:List V)
 |tup (vs:List V)
 deriving Inhabited
def cW:V:= .tup []
def V.cells:V→List V
 | .agg cs=>cs
 |v=>[v]
structure Lp where
 st:LoopState
 pend:Option Code
 T:List V
 params:Array Tmp
 assign:Code
 body:Code
inductive Blk where
 |row (sz:Nat) (m:Bool) (es:List (List V))
 |loop (l:Lp)
 |mp (es:List (V×V))
abbrev Hp:=List (Option Blk)
def get (H:Hp) (b:Nat):Option Blk:=(H[b]?).join
inductive TK where
 |one
 |bool
 |str
 |struct (fs:List (TypeId×Nat×String))
 |array (n:Nat) (e:TypeId)
 |slice (e:TypeId)
 |int (k:IntKind)
 |map (k e:TypeId)
structure TyI where
 sz:Nat
 bytes:Nat
 zero:List Value
 k:TK
 eqg:Bool
def TK.isAgg:TK→Bool
 | .struct _| .array .. =>true
 |_=>false
def uQ:Value→Bool
 | .agg _| .tuple _=>false
 |_=>true
def TK.zOk (k:TK) (z:Value):Bool:=match z with
 | .agg _=>k.isAgg
 | .tuple _=>false
 |_=> !k.isAgg
def G0 (P:Program) (d:TypeDesc):Bool:=
 match d with
 | .struct fs=>fs.toList.all fun f=>(P.info? f.type).isSome
 |_=>true
def Sx (d:TypeDesc):TK:=match d with
 | .struct fs=> .struct (fs.toList.map fun f=>(f.type,f.offset,f.name))
 | .array n e=> .array n e
 | .slice e=> .slice e
 | .string=> .str
 | .bool=> .bool
 | .int k=> .int k
 | .map k e=> .map k e
 |_=> .one
def aD (P:Program) (t:TypeId):Option TyI:=
 match P.info? t,P.underlying t with
 |some i,some d=>
  match i.zero with
  |some z=>
   let k:=Sx d
   if z.cells.toList.all uQ&&z.cells.toList.length==i.size&&G0 P d&&k.zOk z then
    some { sz:=i.size,bytes:=i.bytes,zero:=z.cells.toList,k,eqg:=P.eqGuardType P.depth t||P.stoodInHeld t }
   else none
  |none=>none
 |_,_=>none
def ev (T:List V):Operand→V
 | .tmp t=>T.getD t cW
 | .const v=> .prim v
 | .global g=> .prim (.pointer (some ⟨g,0,none⟩))
 | .func f=> .clo f [] []
def eS (i:TyI) (e:List V) (j:Nat):Option V:=
 if i.k.isAgg then (if j+i.sz≤e.length then some (.agg ((e.drop j).take i.sz)) else none)
 else e[j]?
def jf (e:List V) (j:Nat) (cs:List V):List V:=e.take j++cs++e.drop (j+cs.length)
def jz (H:Hp) (sz:Nat):V→Option (List (List V))
 | .prim (.slice none 0 0)=>some []
 | .prim (.string s)=>if sz=1 then some (s.data.toList.map fun b=>[.prim (.int .u8 b.toNat)]) else none
 | .lst k es=>if k=sz then some es else none
 | .sref b o n _ _ _=>match get H b with
  |some (.row k _ es)=>if k=sz∧o+n≤es.length then some ((es.drop o).take n) else none
  |_=>none
 |_=>none
def nb:V→Option Nat
 | .prim (.slice none 0 0)=>some 0
 | .lst _ es=>some es.length
 | .sref _ _ n _ _ _=>some n
 |_=>none
def eqA (ty:TypeId→Option TyI):Nat→TypeId→V→V→Option Bool
 |0,_,_,_=>none
 |n+1,t,x,y=>
  match ty t with
  |none=>none
  |some i=>match i.k,x,y with
   | .bool,.prim (.bool a),.prim (.bool b)=>some (a==b)
   | .int _,.prim (.int k a),.prim (.int k' b)=>if k=k' then some (a==b) else none
   | .str,.prim (.string a),.prim (.string b)=>some (a.toList==b.toList)
   | .slice _,.lst _ (_::_),.prim (.slice none 0 0)=>some false
   | .slice _,.sref ..,.prim (.slice none 0 0)=>some false
   | .slice _,.prim (.slice none 0 0),.prim (.slice none 0 0)=>some true
   | .struct fs,.agg xs,.agg ys=>if i.eqg then none else eqFs n fs xs ys
   |_,_,_=>none
where
 eqFs (n:Nat):List (TypeId×Nat×String)→List V→List V→Option Bool
  |[],_,_=>some true
  |(t,off,name)::fs,xs,ys=>
   if name= "_" then none else
   match ty t with
   |none=>none
   |some i=>match eS i xs off,eS i ys off with
    |some a,some b=>match eqA ty n t a b with
     |some false=>some false
     |some true=>eqFs n fs xs ys
     |none=>none
    |_,_=>none
def lY (ty:TypeId→Option TyI) (op:BinOp) (t:TypeId) (x y:V):Option (Prop×V):=
 match op,x,y with
 | .shl,.prim (.int k a),.prim (.int _ b)=>some (0≤b,.prim (.int k (k.wrap (a*2^(min b.toNat k.bits)))))
 | .shr,.prim (.int k a),.prim (.int _ b)=>some (0≤b,.prim (.int k (a.fdiv (2^(min b.toNat k.bits)))))
 |op,.prim (.int k a),.prim (.int k' b)=>
  if k=k' then
   match op with
   | .add=>some (True,.prim (.int k (k.wrap (a+b))))
   | .sub=>some (True,.prim (.int k (k.wrap (a-b))))
   | .mul=>some (True,.prim (.int k (k.wrap (a*b))))
   | .quo=>some (b≠0,.prim (.int k (k.wrap (a.tdiv b))))
   | .rem=>some (b≠0,.prim (.int k (a.tmod b)))
   | .and=>some (True,.prim (.int k (k.wrap (BitVec.ofInt k.bits a&&&BitVec.ofInt k.bits b).toNat)))
   | .or=>some (True,.prim (.int k (k.wrap (BitVec.ofInt k.bits a|||BitVec.ofInt k.bits b).toNat)))
   | .xor=>some (True,.prim (.int k (k.wrap (BitVec.ofInt k.bits a^^^BitVec.ofInt k.bits b).toNat)))
   | .andNot=>some (True,.prim (.int k (k.wrap (BitVec.ofInt k.bits a&&& ~~~ BitVec.ofInt k.bits b).toNat)))
   | .eql=>some (True,.prim (.bool (a==b)))
   | .neq=>some (True,.prim (.bool (a !=b)))
   | .lss=>some (True,.prim (.bool (a<b)))
   | .leq=>some (True,.prim (.bool (a≤b)))
   | .gtr=>some (True,.prim (.bool (a>b)))
   | .geq=>some (True,.prim (.bool (a≥b)))
   |_=>none
  else none
 | .add,.prim (.string a),.prim (.string b)=>some (((a.size+b.size:Nat):Int)≤IntKind.i64.max,.prim (.string (a++b)))
 | .eql,.prim (.string a),.prim (.string b)=>some (True,.prim (.bool (a.toList==b.toList)))
 | .neq,.prim (.string a),.prim (.string b)=>some (True,.prim (.bool !(a.toList==b.toList)))
 | .lss,.prim (.string a),.prim (.string b)=>some (True,.prim (.bool (Op.bytesLess a.toList b.toList)))
 | .gtr,.prim (.string a),.prim (.string b)=>some (True,.prim (.bool !(Op.bytesLess a.toList b.toList||a.toList==b.toList)))
 | .eql,x,y=>match ty t with
  |some i=>if i.eqg then none else (eqA ty 9 t x y).map fun c=>(True,.prim (.bool c))
  |none=>none
 | .neq,x,y=>match ty t with
  |some i=>if i.eqg then none else (eqA ty 9 t x y).map fun c=>(True,.prim (.bool !c))
  |none=>none
 |_,_,_=>none
def unV (op:UnOp) (x:V):Option V:=
 match op,x with
 | .neg,.prim (.int k n)=>some (.prim (.int k (k.wrap (0-n))))
 | .xor,.prim (.int k n)=>some (.prim (.int k (k.wrap (BitVec.ofInt k.bits (if k.signed then-1 else k.max)^^^BitVec.ofInt k.bits n).toNat)))
 | .not,.prim (.bool b)=>some (.prim (.bool !b))
 |_,_=>none
def gZ:V→Option Int
 | .prim (.int _ n)=>some n
 |_=>none
def iz (n c:Nat) (fx:Bool) (lo hi mx:Option V):Option (Prop×Nat×Nat×Nat×Bool):=
 match (match lo with|none=>some (0:Int)|some v=>gZ v),(match hi with|none=>some (n:Int)|some v=>gZ v) with
 |some l,some h=>
  match mx with
  |none=>some (0≤l∧l≤h∧h≤c,l.toNat,h.toNat,c-l.toNat,fx)
  |some m=>match hi,gZ m with
   |some _,some m=>some (0≤l∧l≤h∧h≤m∧m≤c,l.toNat,h.toNat,m.toNat-l.toNat,true)
   |_,_=>none
 |_,_=>none
def evN (ty:TypeId→Option TyI) (T:List V) (op:Op):Option (Prop×V):=
 match op with
 | .move x| .assign x=>some (True,ev T x)
 | .pick c a b=>match ev T c with
  | .prim (.bool t)=>some (True,if t then ev T a else ev T b)
  |_=>none
 | .build t ps=>match ty t with
  |some i=>match i.k with
   | .struct fs=>(ps.toList.foldl (fun (acc:Option (List V)) (p:Nat×Operand)=>
    match acc,fs[p.1]? with
    |some cs,some (ft,off,_)=>match ty ft with
     |some fi=>if (ev T p.2).cells.length=fi.sz∧off+fi.sz≤cs.length then some (jf cs off (ev T p.2).cells) else none
     |none=>none
    |_,_=>none) (some (i.zero.map .prim))).map fun cs=>(True,.agg cs)
   | .array _ e=>match ty e with
    |some ei=>(ps.toList.foldl (fun (acc:Option (List V)) (p:Nat×Operand)=>
     match acc with
     |some cs=>if (ev T p.2).cells.length=ei.sz∧p.1*ei.sz+ei.sz≤cs.length then some (jf cs (p.1*ei.sz) (ev T p.2).cells) else none
     |_=>none) (some (i.zero.map .prim))).map fun cs=>(True,.agg cs)
    |none=>none
   |_=>none
  |none=>none
 | .binOp op t x y _=>lY ty op t (ev T x) (ev T y)
 | .unOp op _ x=>(unV op (ev T x)).map fun v=>(True,v)
 | .convert s d x=>match ty s,ty d with
  |some _,some i=>match i.k,ev T x with
   | .str,.prim (.string v)=>some (True,.prim (.string v))
   | .int k,.prim (.int _ n)=>some (True,.prim (.int k (k.wrap n)))
   |_,_=>none
  |_,_=>none
 | .makeFunc (.func f) first cap=>some (True,.clo f (first.toList.map (ev T)) (cap.toList.map (ev T)))
 | .nilCheck x=>match ev T x with
  | .ptr b k j=>some (True,.ptr b k j)
  |_=>none
 | .fieldAddr s x f=>match ty s with
  |some i=>match i.k with
   | .struct fs=>match fs[f]? with
    |some (ft,off,_)=>match ty ft with
     |some fi=>if fi.sz=0 then none else match ev T x with
      | .ptr b k j=>some (True,.ptr b k (j+off))
      | .ivp e j=>some (True,.ivp e (j+off))
      |_=>none
     |none=>none
    |none=>none
   |_=>none
  |none=>none
 | .field s x f=>match ty s,ev T x with
  |some i,.agg cs=>match i.k with
   | .struct fs=>match fs[f]? with
    |some (ft,off,_)=>match ty ft with
     |some fi=>(eS fi cs off).map fun v=>(True,v)
     |none=>none
    |none=>none
   |_=>none
  |_,_=>none
 | .indexAddr t x ix=>match ty t,gZ (ev T ix) with
  |some i,some n=>match i.k,ev T x with
   | .slice e,.sref b o k _ sz _=>match ty e with
    |some ei=>if sz=ei.sz then some (0≤n∧n<k,.ptr b (o+n.toNat) 0) else none
    |none=>none
   | .slice e,.lst sz es=>match ty e with
    |some ei=>if sz=ei.sz then some (0≤n∧n<es.length,.ivp (es.getD n.toNat []) 0) else none
    |none=>none
   | .array len e,.ptr b k j=>match ty e with
    |some ei=>some (0≤n∧n<len,.ptr b k (j+n.toNat*ei.sz))
    |none=>none
   |_,_=>none
  |_,_=>none
 | .index t x ix=>match ty t,gZ (ev T ix) with
  |some i,some n=>match i.k,ev T x with
   | .str,.prim (.string s)=>some (0≤n∧n<s.size,.prim (.int .u8 (s.data.getD n.toNat 0).toNat))
   | .array len e,.agg cs=>match ty e with
    |some ei=>some (0≤n∧n<len∧len*ei.sz=cs.length∧ei.sz≠0,(eS ei cs (n.toNat*ei.sz)).getD cW)
    |none=>none
   |_,_=>none
  |_,_=>none
 | .slice t x lo hi mx=>match ty t with
  |some i=>match i.k,ev T x with
   | .str,.prim (.string s)=>match mx,iz s.size s.size true (lo.map (ev T)) (hi.map (ev T)) none with
    |none,some (c,l,h,_,_)=>some (c,.prim (.string (s.extract l h)))
    |_,_=>none
   | .slice e,.sref b o n c sz fx=>match ty e with
    |some ei=>if sz=ei.sz then match iz n c fx (lo.map (ev T)) (hi.map (ev T)) (mx.map (ev T)) with
     |some (p,l,h,c',fx')=>some (p,.sref b (o+l) (h-l) c' sz fx')
     |none=>none
     else none
    |none=>none
   | .slice e,.lst sz es=>match ty e with
    |some ei=>if sz=ei.sz then match iz es.length es.length false (lo.map (ev T)) (hi.map (ev T)) (mx.map (ev T)) with
     |some (p,l,h,_,_)=>some (p,.lst sz ((es.drop l).take (h-l)))
     |none=>none
     else none
    |none=>none
   | .slice e,.prim (.slice none 0 0)=>match ty e,iz 0 0 true (lo.map (ev T)) (hi.map (ev T)) (mx.map (ev T)) with
    |some _,some (p,_,_,_,_)=>some (p,.prim (.slice none 0 0))
    |_,_=>none
   |_,_=>none
  |none=>none
 | .extract t ix=>match ev T t with
  | .tup vs=>(vs[ix]?).map fun v=>(True,v)
  |_=>none
 | .call { callee:= .builtin .len,args,argTypes }=>match args[0]?,argTypes[0]? with
  |some x,some t=>match ty t with
   |some i=>match i.k with
    | .str=>match ev T x with
     | .prim (.string s)=>some (True,.prim (.int .i64 s.size))
     |_=>none
    | .slice _=>(nb (ev T x)).map fun (n:Nat)=>(True,V.prim (.int .i64 (n:Int)))
    | .array n _=>some (True,.prim (.int .i64 n))
    |_=>none
   |none=>none
  |_,_=>none
 | .call { callee:= .builtin .cap,args,argTypes }=>match args[0]?,argTypes[0]? with
  |some x,some t=>match ty t with
   |some i=>match i.k,ev T x with
    | .slice _,.sref _ _ _ c _ true=>some (True,.prim (.int .i64 c))
    | .slice _,.prim (.slice none 0 0)=>some (True,.prim (.int .i64 (0:Nat)))
    |_,_=>none
   |none=>none
  |_,_=>none
 | .call { callee:= .builtin .max,args,.. }=>match args.toList.map (ev T) with
  |[.prim (.int k x),.prim (.int _ y)]=>some (True,.prim (.int k (if y>x then y else x)))
  |_=>none
 | .call { callee:= .builtin .min,args,.. }=>match args.toList.map (ev T) with
  |[.prim (.int k x),.prim (.int _ y)]=>some (True,.prim (.int k (if y<x then y else x)))
  |_=>none
 |_=>none
def Jk (i:TyI):V:=if i.k.isAgg then .agg (i.zero.map .prim) else match i.zero with
 |[z]=> .prim z
 |_=>cW
def sL (ty:TypeId→Option TyI) (kt:TypeId) (key:V):List (V×V)→Nat→Option (Option (Nat×V))
 |[],_=>some none
 |e::es,i=>match eqA ty 9 kt key e.1 with
  |some true=>some (some (i,e.2))
  |some false=>sL ty kt key es (i+1)
  |none=>none
def Sf (key val:V) (es:List (V×V)):Option (Nat×V)→List (V×V)
 |none=>es++[(key,val)]
 |some (j,_)=>es.set j (key,val)
def yv:V→Bool
 | .prim (.bool _)| .prim (.int ..)| .prim (.string _)=>true
 | .agg cs=>cs.all fun| .prim (.bool _)| .prim (.int ..)| .prim (.string _)=>true|_=>false
 |_=>false
def GK (ty:TypeId→Option TyI) (kt et:TypeId) (key:V) (ok:Bool) (es:List (V×V)):Option V:=
 match ty et,eqA ty 9 kt key key,sL ty kt key es 0 with
 |some _,some true,some (some (_,v))=>some (if ok then .tup [v,.prim (.bool true)] else v)
 |some ei,some true,some none=>some (if ok then .tup [Jk ei,.prim (.bool false)] else Jk ei)
 |_,_,_=>none
def qL:List (List V)→Option (List UInt8)
 |[]=>some []
 |[.prim (.int .u8 n)]::es=>match qL es with
  |some l=>some (UInt8.ofNat n.toNat::l)
  |none=>none
 |_=>none
def evL (ty:TypeId→Option TyI) (T:List V) (H:Hp) (op:Op):Option V:=
 match op with
 | .load t a=>match ty t,ev T a with
  |some i,.ptr b k j=>match get H b with
   |some (.row _ _ es)=>match es[k]? with
    |some e=>eS i e j
    |none=>none
   |_=>none
  |some i,.ivp e j=>eS i e j
  |_,_=>none
 | .convert s d x=>match ty s,ty d with
  |some si,some di=>match si.k,di.k with
   | .slice e,.str=>match ty e with
    |some ei=>match ei.k,nb (ev T x),jz H ei.sz (ev T x) with
     | .int .u8,some _,some es=>if ei.sz=1 then (qL es).map fun l=> .prim (.string ⟨l.toArray⟩) else none
     |_,_,_=>none
    |none=>none
   |_,_=>none
  |_,_=>none
 | .lookup t m k ok=>match ty t with
  |some i=>match i.k,ev T m with
   | .map kt et,.mpr b=>match get H b with
    |some (.mp es)=>GK ty kt et (ev T k) ok es
    |_=>none
   |_,_=>none
  |none=>none
 |_=>none
def evA (ty:TypeId→Option TyI) (T:List V) (op:Op):Option (Prop×Blk×(Nat→V)):=
 match op with
 | .alloc t=>match ty t with
  |some i=>some (True,.row i.sz true [i.zero.map .prim],fun b=> .ptr b 0 0)
  |none=>none
 | .makeMap _ none=>some (True,.mp [],fun b=> .mpr b)
 | .box _ x=>some (True,.row (ev T x).cells.length true [(ev T x).cells],fun b=> .ptr b 0 0)
 | .makeSlice t l c=>match ty t with
  |some i=>match i.k,gZ (ev T l),gZ (ev T c) with
   | .slice e,some l,some c=>match ty e with
    |some ei=>some (0≤l∧l≤c∧c*(ei.bytes+1)≤2^47,.row ei.sz true (List.replicate c.toNat (ei.zero.map .prim)),fun b=> .sref b 0 l.toNat c.toNat ei.sz true)
    |none=>none
   |_,_,_=>none
  |none=>none
 | .buildSlice t len ps=>match ty t with
  |some i=>match i.k with
   | .slice e=>match ty e with
    |some ei=>(ps.toList.foldl (fun (acc:Option (List (List V))) (p:Nat×Operand)=>
     match acc with
     |some es=>if (ev T p.2).cells.length=ei.sz∧p.1<es.length then some (es.set p.1 (ev T p.2).cells) else none
     |none=>none) (some (List.replicate len (ei.zero.map .prim)))).map
     fun es=>(len*ei.sz≤2^24,.row ei.sz true es,fun b=> .sref b 0 len len ei.sz true)
    |none=>none
   |_=>none
  |none=>none
 |_=>none
def view (H:Hp):Nat→V→Option V
 |0,_=>none
 |n+1,v=>match v with
  | .prim x=>some (.prim x)
  | .lst sz es=>some (.lst sz es)
  | .clo f [] []=>some (.clo f [] [])
  | .agg cs=>(viewL n cs).map .agg
  | .tup cs=>(viewL n cs).map .tup
  | .sref b o k _ _ _=>match get H b with
   |some (.row sz _ es)=>if o+k≤es.length then (viewLL n ((es.drop o).take k)).map (.lst sz) else none
   |_=>none
  |_=>none
where
 viewL (n:Nat):List V→Option (List V)
  |[]=>some []
  |v::vs=>match view H n v,viewL n vs with
   |some x,some xs=>some (x::xs)
   |_,_=>none
 viewLL (n:Nat):List (List V)→Option (List (List V))
  |[]=>some []
  |e::es=>match viewL n e,viewLL n es with
   |some x,some xs=>some (x::xs)
   |_,_=>none
def ii (H:Hp):List V→Option (List V)
 |[]=>some []
 |v::vs=>match view H 9 v,ii H vs with
  |some x,some xs=>some (x::xs)
  |_,_=>none
end Go.Av
namespace Go.Av
open Go.RowKit
structure Loc where
 B:Nat
 off:Nat
 sz:Nat
inductive VR:(Nat→Option Loc)→(Nat→Prop)→World→V→Value→Prop
 |prim {φ:Nat→Option Loc} {I:Nat→Prop} {w:World} {x:Value} (h:uQ x=true):VR φ I w (.prim x) x
 |ptr {φ:Nat→Option Loc} {I:Nat→Prop} {w:World} {b i j:Nat} {L:Loc} (h:φ b=some L):VR φ I w (.ptr b i j) (.pointer (some ⟨L.B,L.off+i*L.sz+j,none⟩))
 |ivp {φ:Nat→Option Loc} {I:Nat→Prop} {w:World} {e:List V} {j B o:Nat} (val:Nat→Value) (hI:I B) (hc:∀ (k:Nat) (v:V),e[k]? =some v→w.cell? ⟨B,o+k,none⟩=some (val k))
  (hv:∀ (k:Nat) (v:V),e[k]? =some v→VR (fun _=>none) I w v (val k)):VR φ I w (.ivp e j) (.pointer (some ⟨B,o+j,none⟩))
 |lst {φ:Nat→Option Loc} {I:Nat→Prop} {w:World} {sz:Nat} {es:List (List V)} {B o cap:Nat} (val:Nat→Nat→Value) (hI:I B) (hcap:es.length≤cap) (hsz:∀ (i:Nat) (e:List V),es[i]? =some e→e.length=sz)
  (hc:∀ (i:Nat) (e:List V) (k:Nat) (v:V),es[i]? =some e→e[k]? =some v→w.cell? ⟨B,o+i*sz+k,none⟩=some (val i k))
  (hv:∀ (i:Nat) (e:List V) (k:Nat) (v:V),es[i]? =some e→e[k]? =some v→VR (fun _=>none) I w v (val i k)):VR φ I w (.lst sz es) (.slice (some ⟨B,o,none⟩) es.length cap)
 |lnil {φ:Nat→Option Loc} {I:Nat→Prop} {w:World} {sz:Nat} {a:Option Addr} {cap:Nat}:VR φ I w (.lst sz []) (.slice a 0 cap)
 |sref {φ:Nat→Option Loc} {I:Nat→Prop} {w:World} {b o n c cap m sz A:Nat} {fx:Bool} {t:TypeId} {L:Loc} (h:φ b=some L) (hz:L.sz=sz) (hn:n≤c) (hc:c≤cap) (hfx:fx=true→cap=c) (hs:w.shape? L.B=some (t,m))
  (hA:A=L.off+o*L.sz∨(n=0∧c=0)) (hm:A+cap*L.sz≤m):
  VR φ I w (.sref b o n c sz fx) (.slice (some ⟨L.B,A,none⟩) n cap)
 |clo {φ:Nat→Option Loc} {I:Nat→Prop} {w:World} {f:FuncId} {first cap:List V} {xs ys:Array Value} (h1:first.length=xs.size) (h2:cap.length=ys.size)
  (hx:∀ (k:Nat) (v:V) (x:Value),first[k]? =some v→xs[k]? =some x→VR φ I w v x) (hy:∀ (k:Nat) (v:V) (x:Value),cap[k]? =some v→ys[k]? =some x→VR φ I w v x):
  VR φ I w (.clo f first cap) (.func (.func f) xs ys)
 |yld {φ:Nat→Option Loc} {I:Nat→Prop} {w:World} {b:Nat} {L:Loc} (h:φ b=some L):VR φ I w (.yld b) (.func (.yield L.B) #[] #[])
 |mpr {φ:Nat→Option Loc} {I:Nat→Prop} {w:World} {b:Nat} {L:Loc} (h:φ b=some L):VR φ I w (.mpr b) (.map (some L.B))
 |agg {φ:Nat→Option Loc} {I:Nat→Prop} {w:World} {cs:List V} {xs:Array Value} (h1:cs.length=xs.size) (hx:∀ (k:Nat) (v:V) (x:Value),cs[k]? =some v→xs[k]? =some x→VR φ I w v x):VR φ I w (.agg cs) (.agg xs)
 |tup {φ:Nat→Option Loc} {I:Nat→Prop} {w:World} {cs:List V} {xs:Array Value} (h1:cs.length=xs.size) (hx:∀ (k:Nat) (v:V) (x:Value),cs[k]? =some v→xs[k]? =some x→VR φ I w v x):VR φ I w (.tup cs) (.tuple xs)
structure VRs (φ:Nat→Option Loc) (I:Nat→Prop) (w:World) (cs:List V) (xs:Array Value):Prop where
 len:cs.length=xs.size
 at_:∀ (k:Nat) (v:V) (x:Value),cs[k]? =some v→xs[k]? =some x→VR φ I w v x
def Blk.own:Blk→Bool
 | .row _ m _=>m
 | .loop _=>true
 | .mp _=>true
def Own (φ:Nat→Option Loc) (H:Hp) (B:Nat):Prop:=∃ b L k,φ b=some L∧get H b=some k∧k.own=true∧L.B=B
def LpR (φ:Nat→Option Loc) (I:Nat→Prop) (w:World) (l:Lp) (r:Loop):Prop:=
 r.state=l.st∧r.pending=l.pend∧VRs φ I w l.T r.tmps∧r.params=l.params∧r.assign=l.assign∧r.body=l.body
def MpR (φ:Nat→Option Loc) (I:Nat→Prop) (w:World) (es:List (V×V)) (ents:Array MapEntry):Prop:=
 es.length=ents.size∧∀ (i:Nat) (p:V×V) (e:MapEntry),es[i]? =some p→ents[i]? =some e→VR φ I w p.1 e.key∧VR φ I w p.2 e.val
def Mv (φ:Nat→Option Loc) (I:Nat→Prop) (w:World) (L:Loc):Blk→Prop
 | .row sz m es=>L.sz=sz∧(∃ c t,w.heap[L.B]? =some (.cells c t (0,0))∧L.off+es.length*sz≤c.size)∧
  (∀ (i:Nat) (e:List V),es[i]? =some e→e.length=sz)∧
  (∀ (i:Nat) (e:List V) (k:Nat) (v:V),es[i]? =some e→e[k]? =some v→∃ x,w.cell? ⟨L.B,L.off+i*sz+k,none⟩=some x∧VR φ I w v x)∧(m=true↔¬I L.B)
 | .loop l=>¬I L.B∧∃ r,w.heap[L.B]? =some (.loop r)∧LpR φ I w l r
 | .mp es=>¬I L.B∧∃ ents clock,w.heap[L.B]? =some (.map ents clock)∧MpR φ I w es ents
structure SR (φ:Nat→Option Loc) (I:Nat→Prop) (H:Hp) (w:World):Prop where
 dom:∀ b L,φ b=some L→b<H.length∧L.B<w.heap.size
 imm:∀ B,I B→B<w.heap.size
 blk:∀ b L k,φ b=some L→get H b=some k→Mv φ I w L k
 inj:∀ b b' L L' k k',φ b=some L→φ b'=some L'→get H b=some k→get H b'=some k'→k.own=true→k'.own=true→L.B=L'.B→b=b'
structure iC (φ:Nat→Option Loc) (I:Nat→Prop) (H:Hp) (w:World) (φ':Nat→Option Loc) (I':Nat→Prop) (H':Hp) (w':World):Prop where
 os:w'.os=w.os
 tape:w'.tape=w.tape
 output:w'.output=w.output
 size:w.heap.size≤w'.heap.size
 same:∀ B,B<w.heap.size→¬Own φ H B→w'.heap[B]? =w.heap[B]?
 shape:∀ B s,w.shape? B=some s→w'.shape? B=some s
 phi:∀ b L,φ b=some L→φ' b=some L
 new:∀ b L,φ' b=some L→φ b=some L∨w.heap.size≤L.B∨Own φ H L.B
 imm:∀ B,I B→I' B
 inew:∀ B,I' B→B<w.heap.size→I B∨Own φ H B
 own:∀ B,B<w.heap.size→Own φ' H' B→Own φ H B
def FF (φ:Nat→Option Loc) (I:Nat→Prop) (H:Hp) (w:World) (Q:V→Hp→Prop) (e:Ending) (w':World):Prop:=
 ∃ x r H' φ' I',e= .returned x∧Q r H'∧VR φ' I' w' r x∧SR φ' I' H' w'∧iC φ I H w φ' I' H' w'
def SC (P:Program) (f:FuncId) (args:List V) (H:Hp) (Q:V→Hp→Prop):Prop:=
 ∀ φ I w xs,SR φ I H w→VRs φ I w args xs→(∀ W,(callFunc f xs).run P W= .ok (.enter f xs) W)∧Calls P f xs w (FF φ I H w Q)
def PC (P:Program) (f:FuncId) (args:List V) (r:V):Prop:=
 ∀ I w xs,(∀ B,I B→B<w.heap.size)→VRs (fun _=>none) I w args xs→(∀ W,(callFunc f xs).run P W= .ok (.enter f xs) W)∧
  Calls P f xs w fun e w'=>∃ x,e= .returned x∧VR (fun _=>none) (fun B=>I B∨(w.heap.size≤B∧B<w'.heap.size)) w' r x∧Below w.heap.size w w'
def Fw:Fence:=Fence.wide
def YC (P:Program) (b:Nat) (args:List V) (H:Hp) (Q:V→Hp→Prop):Prop:=
 ∀ φ I w xs L,φ b=some L→SR φ I H w→VRs φ I w args xs→∃ fn tmps assign body,(Instr.yield L.B xs).run P w= .ok (.round L.B fn tmps assign body) w∧
  RoundIn Fw 0 P L.B fn tmps assign body w (FF φ I H w Q)
def dry:Nat→V→Bool
 |0,_=>false
 |n+1,v=>match v with
  | .prim _=>true
  | .lst _ []=>true
  | .clo _ [] []=>true
  | .agg cs=>cs.all (dry n)
  | .tup cs=>cs.all (dry n)
  |_=>false
def flat:Nat→V→Bool
 |0,_=>false
 |n+1,v=>match v with
  | .prim _=>true
  | .lst _ _=>true
  | .clo _ [] []=>true
  | .agg cs=>cs.all (flat n)
  | .tup cs=>cs.all (flat n)
  |_=>false
def ku:V→Bool
 | .agg _| .tup _=>false
 |_=>true
structure LOp where
 dst:Option Tmp
 op:Op
 guard:Option (Tmp×Bool)
 idx:Nat
 bef:Nat
def mn (P:Program) (T:List V) (H:Hp) (op:Op) (K:V→Hp→Prop):Option Prop:=
 match evN (aD P) T op with
 |some (c,v)=>some (c∧K v H)
 |none=>match evA (aD P) T op with
  |some (c,k,mk)=>some (c∧K (mk H.length) (H++[some k]))
  |none=>match evL (aD P) T H op with
   |some v=>some (K v H)
   |none=>none
def BT (P:Program) (T:List V) (H:Hp) (op:Op) (K:V→Hp→Prop):Prop:=
 match op with
 | .call { callee:= .value fv,args,.. }=>match ev T fv with
  | .clo g first cap=>∃ as r,ii H (first++args.toList.map (ev T)++cap)=some as∧PC P g as r∧
   ((first++args.toList.map (ev T)++cap).all (flat 9)=true∨dry 9 r=true)∧K r H
  |_=>False
 |_=>False
def fT (P:Program) (T:List V) (H:Hp) (t:TypeId) (a x:Operand) (K:V→Hp→Prop):Prop:=
 match aD P t,ev T a with
 |some i,.ptr b k j=>match get H b with
  |some (.row sz true es)=>match es[k]? with
   |some e=>(ev T x).cells.length=i.sz∧j+i.sz≤e.length∧(ev T x).cells.all ku=true∧
    K cW (H.set b (some (.row sz true (es.set k (jf e j (ev T x).cells)))))
   |none=>False
  |_=>False
 |_,_=>False
def p6 (P:Program) (T:List V) (H:Hp) (t:TypeId) (m k x:Operand) (K:V→Hp→Prop):Prop:=
 match aD P t with
 |some i=>match i.k,ev T m with
  | .map kt _,.mpr b=>match get H b with
   |some (.mp es)=>eqA (aD P) 9 kt (ev T k) (ev T k)=some true∧match sL (aD P) kt (ev T k) es 0 with
    |some none=>K cW (H.set b (some (.mp (es++[(ev T k,ev T x)]))))
    |some (some (j,v))=>es[j]? =some (ev T k,v)∧yv (ev T k)=true∧K cW (H.set b (some (.mp (es.set j (ev T k,ev T x)))))
    |none=>False
   |_=>False
  |_,_=>False
 |none=>False
def rR (P:Program) (H:Hp) (ei:TyI) (t2:Option TypeId) (x:V):Option (Prop×List (List V)):=
 match t2 with
 |none=>none
 |some t=>match aD P t with
  |none=>none
  |some i=>match i.k with
   | .int _=>match x with
    | .prim (.int _ n)=>some (0≤n∧n*(ei.bytes+1)≤2^47,List.replicate n.toNat (ei.zero.map .prim))
    |_=>none
   |_=>(jz H ei.sz x).map fun es=>(True,es)
def kG (es:List (List V)) (o:Nat) (ys:List (List V)):List (List V):=es.take o++ys++es.drop (o+ys.length)
def nP (P:Program) (H:Hp) (ei:TyI) (s:V) (ys:List (List V)) (K:V→Hp→Prop):Prop:=
 (∀ y∈ys,∀ v∈y,ku v=true)∧
 match s with
 | .prim (.slice none 0 0)=>
  (ys=[]→K s H)∧(ys≠[]→ys.length*ei.bytes≤2^47∧ys.length≤2^60∧K (.sref H.length 0 ys.length ys.length ei.sz false) (H++[some (.row ei.sz true ys)]))
 | .sref b o n c _ fx=>match get H b with
  |some (.row sz m es)=>sz=ei.sz∧o+n≤es.length∧
   ((n+ys.length≤c∧o+c≤es.length∧m=true∧K (.sref b o (n+ys.length) c ei.sz fx) (H.set b (some (.row sz true (kG es (o+n) ys)))))∨
    (fx=true∧c<n+ys.length∧(n+ys.length)*ei.bytes≤2^47∧n+ys.length≤2^60∧
     K (.sref H.length 0 (n+ys.length) (n+ys.length) ei.sz false) (H++[some (.row ei.sz true ((es.drop o).take n++ys))]))∨
    (fx=false∧m=true∧(n+ys.length)*ei.bytes≤2^47∧n+ys.length≤2^60∧
     K (.sref H.length 0 (n+ys.length) (n+ys.length) ei.sz false) (H.set b none++[some (.row ei.sz true ((es.drop o).take n++ys))])))
  |_=>False
 |_=>False
def zU (H:Hp) (ei:TyI) (d:V) (ys:List (List V)) (K:V→Hp→Prop):Prop:=
 (∀ y∈ys,∀ v∈y,ku v=true)∧
 match d with
 | .sref b o n c _ fx=>match get H b with
  |some (.row sz true es)=>sz=ei.sz∧o+n≤es.length∧
   K (.prim (.int .i64 (min ys.length n:Nat))) (H.set b (some (.row sz true (kG es o (ys.take n)))))
  |_=>False
 |_=>False
def vM (H:Hp) (ei:TyI) (d:V) (K:V→Hp→Prop):Prop:=
 match d with
 | .sref b o n c _ fx=>match get H b with
  |some (.row sz true es)=>sz=ei.sz∧o+n≤es.length∧
   K cW (H.set b (some (.row sz true (kG es o (List.replicate n (ei.zero.map .prim))))))
  |_=>False
 |_=>False
def vN (P:Program) (T:List V) (H:Hp) (t:TypeId) (x:Operand) (lo hi mx:Option Operand) (K:V→Hp→Prop):Prop:=
 match mx,aD P t with
 |none,some { k:= .array n e,.. }=>match aD P e,ev T x with
  |some ei,.ptr b 0 0=>match get H b,iz n n true (lo.map (ev T)) (hi.map (ev T)) none with
   |some (.row _ true [cs]),some (p,l,h,_,_)=>p∧ei.sz=1∧cs.length=n∧(cs.all fun| .prim x=>uQ x|_=>false)=true∧K (.lst 1 (((cs.map ([·])).drop l).take (h-l))) (H.set b none)
   |_,_=>False
  |_,_=>False
 |_,_=>False
def FK (P:Program) (T:List V) (H:Hp) (t:TypeId) (x:Operand) (K:V→Hp→Prop):Prop:=
 match aD P t with
 |some i=>match i.k,ev T x with
  | .slice _,.lst _ []=>K (.prim (.bool true)) H∧K (.prim (.bool false)) H
  |_,_=>False
 |none=>False
def nD (P:Program) (T:List V) (H:Hp) (op:Op) (K:V→Hp→Prop):Prop:=
 match op with
 | .store t a x=>fT P T H t a x K
 | .slice t x lo hi mx=>vN P T H t x lo hi mx K
 | .mapUpdate t m k x=>p6 P T H t m k x K
 | .insert t m k x=>p6 P T H t m k x K
 | .binOp .eql t x (.const (.slice none 0 0)) _=>FK P T H t x K
 | .call { callee:= .value fv,args,.. }=>match ev T fv with
  | .clo g first cap=>BT P T H op K∨SC P g (first++args.toList.map (ev T)++cap) H K
  | .yld b=>YC P b (args.toList.map (ev T)) H K
  |_=>False
 | .call { callee:= .builtin .append,args,argTypes }=>match args[0]?,args[1]?,argTypes[0]? with
  |some s,some x,some t=>match aD P t with
   |some { k:= .slice e,.. }=>match aD P e with
    |some ei=>match rR P H ei argTypes[1]? (ev T x) with
     |some (c,ys)=>c∧nP P H ei (ev T s) ys K
     |none=>False
    |none=>False
   |_=>False
  |_,_,_=>False
 | .call { callee:= .builtin .copy,args,argTypes }=>match args[0]?,args[1]?,argTypes[0]? with
  |some d,some x,some t=>match aD P t with
   |some { k:= .slice e,.. }=>match aD P e with
    |some ei=>match jz H ei.sz (ev T x) with
     |some ys=>zU H ei (ev T d) ys K
     |none=>False
    |none=>False
   |_=>False
  |_,_,_=>False
 | .call { callee:= .builtin .clear,args,argTypes }=>match args[0]?,argTypes[0]? with
  |some d,some t=>match aD P t with
   |some { k:= .slice e,.. }=>match aD P e with
    |some ei=>vM H ei (ev T d) K
    |none=>False
   |_=>False
  |_,_=>False
 |_=>False
def eV (P:Program) (T:List V) (H:Hp) (op:Op) (K:V→Hp→Prop):Prop:=
 match mn P T H op K with
 |some p=>p
 |none=>nD P T H op K
def putT (T:List V) (d:Option Tmp) (v:V):List V:=
 match d with
 |some d=>T.set d v
 |none=>T
def eD (H:Hp):Nat→V→List Nat
 |0,_=>[]
 |n+1,v=>match v with
  | .agg cs=>cs.flatMap (eD H n)
  | .tup cs=>cs.flatMap (eD H n)
  | .sref b o k _ _ _=>b::(match get H b with
   |some (.row _ _ es)=>((es.drop o).take k).flatMap fun e=>e.flatMap (eD H n)
   |_=>[])
  | .ptr b i _=>b::(match get H b with
   |some (.row _ _ es)=>(es.getD i []).flatMap (eD H n)
   |_=>[])
  | .clo _ a b=>a.flatMap (eD H n)++b.flatMap (eD H n)
  | .mpr b=>[b]
  |_=>[]
def fG:Nat→V→Bool
 |0,_=>false
 |n+1,v=>match v with
  | .agg cs=>cs.any (fG n)
  | .tup cs=>cs.any (fG n)
  | .ptr _ _ _=>true
  | .sref _ _ _ _ _ _=>true
  | .mpr _=>true
  | .clo _ a b=>a.any (fG n)||b.any (fG n)
  |_=>false
def kI:V→Bool
 | .sref _ _ _ _ _ _=>false
 |v=>fG 9 v
def fR:V→List Nat
 | .ptr b _ _=>[b]
 | .sref b _ _ _ _ _=>[b]
 | .mpr b=>[b]
 |_=>[]
def foot (T:List V) (H:Hp) (nid:Nat):Op→Option (Bool×List Nat)
 | .load _ a=>some (false,fR (ev T a))
 | .convert _ _ x=>some (false,fR (ev T x))
 | .store _ a _=>some (true,fR (ev T a))
 | .lookup _ m _ _=>some (false,fR (ev T m))
 | .mapUpdate _ m _ _=>some (true,fR (ev T m))
 | .insert _ m _ _=>some (true,fR (ev T m))
 | .makeMap _ _=>some (true,[nid])
 | .alloc _| .box .. | .makeSlice .. | .buildSlice .. =>some (true,[nid])
 | .call { callee:= .value fv,args,.. }=>match ev T fv with
  | .clo _ first cap=>some ((first++args.toList.map (ev T)++cap).any kI,(first++args.toList.map (ev T)++cap).flatMap (eD H 9))
  |_=>some (false,[])
 | .call { callee:= .builtin .append,args,.. }=>some (true,nid::args.toList.flatMap fun x=>fR (ev T x))
 | .call { callee:= .builtin .copy,args,.. }=>some (true,args.toList.flatMap fun x=>fR (ev T x))
 | .call { callee:= .builtin .clear,args,.. }=>some (true,args.toList.flatMap fun x=>fR (ev T x))
 |_=>none
def pd (bef:Nat) (f:Bool×List Nat) (h:Nat×Bool×List Nat):Bool:=
 !bef.testBit h.1&&(f.1||h.2.1)&&f.2.any fun b=>h.2.2.contains b
abbrev x7:=List (Nat×Bool×List Nat)
def BW (H:Hp):Option (Nat×Option Blk)→Hp
 |none=>H
 |some (b,k)=>H.set b k
def R6:Option Blk→Bool
 |some (.row _ _ es)=>es.all fun e=>e.all (flat 9)
 |some (.loop _)=>false
 |some (.mp _)=>false
 |none=>true
def QC (P:Program) (g:FuncId) (vs:List V) (H:Hp) (v:V) (o:Option (Nat×Option Blk)) (F:List Nat):Prop:=
 ∀ H0:Hp,(∀ b∈F,get H0 b=get H b)→SC P g vs H0 fun r H'=>r=v∧∀ c k,get (BW H0 o) c=some k→get H' c=some k
def NL (vs:List V) (H:Hp) (v:V) (o:Option (Nat×Option Blk)):Prop:=
 flat 9 v=true∧match o with
  |none=>True
  |some (b,k)=>R6 k=true∧(∃ k0,get H b=some k0)∧b∈vs.flatMap (eD H 9)∧vs.any kI=true
def HM (P:Program) (T:List V) (H:Hp) (op:Op) (K:V→Hp→Prop):Prop:=
 match op with
 | .call { callee:= .value fv,args,.. }=>match ev T fv with
  | .clo g first cap=>∃ v o,NL (first++args.toList.map (ev T)++cap) H v o∧QC P g (first++args.toList.map (ev T)++cap) H v o ((first++args.toList.map (ev T)++cap).flatMap (eD H 9))∧K v (BW H o)
  |_=>False
 |_=>False
def iE (P:Program) (T:List V) (H:Hp) (op:Op) (K:V→Hp→Prop):Prop:=
 match op with
 | .call { callee:= .value fv,args,argTypes }=>BT P T H (.call { callee:= .value fv,args,argTypes }) K∨HM P T H (.call { callee:= .value fv,args,argTypes }) K
 | .slice t x lo hi mx=>match evN (aD P) T (.slice t x lo hi mx) with
  |some (c,v)=>c∧K v H
  |none=>False
 | .binOp op t x y t'=>match evN (aD P) T (.binOp op t x y t') with
  |some (c,v)=>c∧K v H
  |none=>False
 |op=>eV P T H op K
def wpG (W:List V→Hp→Op→(V→Hp→Prop)→Prop) (T:List V) (H:Hp) (o:LOp) (K:V→Hp→Prop):Prop:=
 match o.guard with
 |none=>W T H o.op K
 |some (g,want)=>match T.getD g cW with
  | .prim (.bool t)=>(t=want→W T H o.op K)∧(t= !want→K cW H)
  | .tup []=>K cW H
  |_=>False
def oA (P:Program):List LOp→List V→Hp→(List V→Hp→Prop)→Prop
 |[],T,H,Q=>Q T H
 |o::os,T,H,Q=>wpG (eV P) T H o fun v H'=>oA P os (putT T o.dst v) H' Q
def mR (P:Program):List LOp→x7→List V→Hp→(List V→Hp→Prop)→Prop
 |[],_,T,H,Q=>Q T H
 |o::os,h,T,H,Q=>
  match foot T H H.length o.op with
  |none=>wpG (iE P) T H o fun v H'=>mR P os h (putT T o.dst v) H' Q
  |some f=>h.any (pd o.bef f)=false∧wpG (iE P) T H o fun v H'=>mR P os ((o.idx,f)::h) (putT T o.dst v) H' Q
inductive LC where
 |skip
 |ops (d:Bool) (l:List LOp)
 |seq (a b:LC)
 |cond (c:Operand) (a b:LC)
 |block (id:Nat) (c:LC)
 |loop (c:LC)
 |rangeFunc (f:Operand) (ps:Array Tmp) (assign body:Code)
 |exit (id:Nat)
 |goto (l:Nat)
 |ret
inductive X where
 |normal
 |exit (id:Nat)
 |goto (l:Nat)
 |ret
def Kd:Option Code→Option X
 |none=>some .normal
 |some .ret=>some .ret
 |some (.exit id)=>some (.exit id)
 |some (.goto l)=>some (.goto l)
 |_=>none
def zN:X→Option Code
 | .normal=>none
 | .ret=>some .ret
 | .exit id=>some (.exit id)
 | .goto l=>some (.goto l)
abbrev kF:=X→List V→Hp→Prop
def wx (body:List V→Hp→kF→Prop) (Q:kF):Nat→List V→Hp→Prop
 |0,_,_=>False
 |k+1,T,H=>body T H fun x T' H'=>match x with
  | .normal=>wx body Q k T' H'
  |x=>Q x T' H'
def wpL (P:Program):LC→List V→Hp→kF→Prop
 | .skip,T,H,Q=>Q .normal T H
 | .ops false l,T,H,Q=>oA P l T H (Q .normal)
 | .ops true l,T,H,Q=>mR P l [] T H (Q .normal)
 | .seq a b,T,H,Q=>wpL P a T H fun x T H=>match x with
  | .normal=>wpL P b T H Q
  |x=>Q x T H
 | .cond c a b,T,H,Q=>match ev T c with
  | .prim (.bool t)=>(t=true→wpL P a T H Q)∧(t=false→wpL P b T H Q)
  |_=>False
 | .block id c,T,H,Q=>wpL P c T H fun x T H=>match x with
  | .exit i=>if i=id then Q .normal T H else Q (.exit i) T H
  |x=>Q x T H
 | .loop c,T,H,Q=>∃ k,wx (wpL P c) Q k T H
 | .rangeFunc f ps assign body,T,H,Q=>match ev T f with
  | .clo g first cap=>SC P g (first++[.yld H.length]++cap) (H++[some (.loop ⟨.ready,none,T,ps,assign,body⟩)]) fun _ H'=>
   match get H' H.length with
   |some (.loop l)=>l.st≠ .busy∧(match Kd l.pend with
    |some x=>Q x T (H'.set H.length none)
    |none=>False)
   |_=>False
  |_=>False
 | .exit id,T,H,Q=>Q (.exit id) T H
 | .goto l,T,H,Q=>Q (.goto l) T H
 | .ret,T,H,Q=>Q .ret T H
def uS (op:Op):Bool:=(op.operands.all fun| .const v=>uQ v|_=>true)&&(match op with| .defer _| .go _| .select .. | .send .. | .recv .. =>false|_=>true)
def oe (ops:Array Oper) (o:Oper):Option (Option (Tmp×Bool)):=
 match o.guard with
 |none=>some none
 |some (j,want)=>match (ops[j]?).bind (·.dst) with
  |some d=>some (some (d,want))
  |none=>none
def w7 (ops:Array Oper) (o:Oper):List Tmp:=
 o.op.operands.toList.filterMap (fun| .tmp t=>some t|_=>none)++(match oe ops o with|some (some (g,_))=>[g]|_=>[])
def BO (ops:Array Oper) (x y:Oper):Bool:=
 x.dst.all (fun d=> !(w7 ops y).contains d&&y.dst !=some d)&&y.dst.all (fun d=> !(w7 ops x).contains d)
def sB (ops:Array Oper):Bool:=
 let b:=Region.before ops
 (List.range ops.size).all fun j=>(match ops[j]? with|some o=>o.after.toList.all (fun e=> !Region.binds .any e||decide (e.on<j))|none=>true)&&(List.range j).all fun i=>
  (b.getD j 0).testBit i||(match ops[i]?,ops[j]? with|some x,some y=>BO ops x y|_,_=>false)
def kg (ops:Array Oper) (b:Array Nat):Nat→List Oper→Option (List LOp)
 |_,[]=>some []
 |i,o::os=>match oe ops o,kg ops b (i+1) os with
  |some g,some l=>if uS o.op then some (⟨o.dst,o.op,g,i,b.getD i 0⟩::l) else none
  |_,_=>none
def p9 (b:Array Nat):Nat→Nat
 |0=>0
 |k+1=>if (List.range k).all (fun i=>(b.getD k 0).testBit i) then p9 b k else k+1
def Qp (ops:Array Oper) (draw:Bool) (l:List LOp):LC:=
 if draw then .seq (.ops true (l.take (p9 (Region.before ops) ops.size))) (.ops false (l.drop (p9 (Region.before ops) ops.size))) else .ops false l
def mf:Code→Option LC
 | .skip=>some .skip
 | .region _ ops draw=>if draw&& !sB ops then none else (kg ops (if draw then Region.before ops else #[]) 0 ops.toList).map (Qp ops draw)
 | .seq a b=>match mf a,mf b with
  |some x,some y=>some (.seq x y)
  |_,_=>none
 | .cond c a b=>match mf a,mf b with
  |some x,some y=>some (.cond c x y)
  |_,_=>none
 | .block id c=>(mf c).map (.block id)
 | .loop c=>(mf c).map .loop
 | .rangeFunc f ps assign body=>some (.rangeFunc f ps assign body)
 | .exit id=>some (.exit id)
 | .goto l=>some (.goto l)
 | .ret=>some .ret
 | .label _=>some .skip
 |_=>none
end Go.Av
namespace Go.Av
open Go.RowKit
variable {P:Program} {φ φ' φ'':Nat→Option Loc} {I I' I'':Nat→Prop} {H H' H'':Hp} {w w' w'':World}
theorem VR.mono {v:V} {x:Value} (h:VR φ I w v x) (hφ:∀ b L,φ b=some L→φ' b=some L) (hI:∀ B,I B→I' B)
 (hs:∀ B,I B→w'.heap[B]? =w.heap[B]?) (hsh:∀ B s,w.shape? B=some s→w'.shape? B=some s):VR φ' I' w' v x:=by
 induction h generalizing φ' with
 |prim h=>exact .prim h
 |ptr h=>exact .ptr (hφ _ _ h)
 |ivp val hI0 hc hv ih=>exact .ivp val (hI _ hI0) (fun k v hk=>by rw [World.cell?_of_block (hs _ hI0)];exact hc k v hk) (fun k v hk=>ih k v hk (fun _ _ h=>h) hI hs hsh)
 |lst val hI0 hcap hsz hc hv ih=>exact .lst val (hI _ hI0) hcap hsz (fun i e k v hi hk=>by rw [World.cell?_of_block (hs _ hI0)];exact hc i e k v hi hk) (fun i e k v h1 h2=>ih i e k v h1 h2 (fun _ _ h=>h) hI hs hsh)
 |lnil=>exact .lnil
 |sref h hz hn hc hfx hs' hA hm=>exact .sref (hφ _ _ h) hz hn hc hfx (hsh _ _ hs') hA hm
 |clo h1 h2 hx hy ihx ihy=>exact .clo h1 h2 (fun k v x a b=>ihx k v x a b hφ hI hs hsh) (fun k v x a b=>ihy k v x a b hφ hI hs hsh)
 |yld h=>exact .yld (hφ _ _ h)
 |mpr h=>exact .mpr (hφ _ _ h)
 |agg h1 hx ih=>exact .agg h1 (fun k v x a b=>ih k v x a b hφ hI hs hsh)
 |tup h1 hx ih=>exact .tup h1 (fun k v x a b=>ih k v x a b hφ hI hs hsh)
theorem VR.any {v:V} {x:Value} (h:VR (fun _=>none) I w v x):VR φ I w v x:=
 h.mono (fun _ _ h=>by cases h) (fun _ h=>h) (fun _ _=>rfl) (fun _ _ h=>h)
theorem VRs.mono {vs:List V} {xs:Array Value} (h:VRs φ I w vs xs) (hφ:∀ b L,φ b=some L→φ' b=some L) (hI:∀ B,I B→I' B)
 (hs:∀ B,I B→w'.heap[B]? =w.heap[B]?) (hsh:∀ B s,w.shape? B=some s→w'.shape? B=some s):VRs φ' I' w' vs xs:=
 ⟨h.len,fun k v x h1 h2=>(h.at_ k v x h1 h2).mono hφ hI hs hsh⟩
theorem MpR.mono {es:List (V×V)} {ents:Array MapEntry} (h:MpR φ I w es ents) (hφ:∀ b L,φ b=some L→φ' b=some L) (hI:∀ B,I B→I' B)
 (hs:∀ B,I B→w'.heap[B]? =w.heap[B]?) (hsh:∀ B s,w.shape? B=some s→w'.shape? B=some s):MpR φ' I' w' es ents:=
 ⟨h.1,fun i p e h1 h2=>⟨(h.2 i p e h1 h2).1.mono hφ hI hs hsh,(h.2 i p e h1 h2).2.mono hφ hI hs hsh⟩⟩
theorem Mv.mono {L:Loc} {k:Blk} (h:Mv φ I w L k) (hφ:∀ b L,φ b=some L→φ' b=some L) (hI:∀ B,I B→I' B)
 (hs:∀ B,I B→w'.heap[B]? =w.heap[B]?) (hsh:∀ B s,w.shape? B=some s→w'.shape? B=some s)
 (hL:w'.heap[L.B]? =w.heap[L.B]?) (hi:I' L.B→I L.B):Mv φ' I' w' L k:=by
 cases k with
 |row sz m es=>
  obtain ⟨h1,⟨c,t,h2,h3⟩,h4,h5,h6⟩:=h
  refine ⟨h1,⟨c,t,by rw [hL];exact h2,h3⟩,h4,fun i e k v hie hk=> ?_,h6.trans ⟨fun h a=>h (hi a),fun h a=>h (hI _ a)⟩⟩
  obtain ⟨x,hx,hv⟩:=h5 i e k v hie hk
  exact ⟨x,by rw [World.cell?_of_block hL];exact hx,hv.mono hφ hI hs hsh⟩
 |loop l=>
  obtain ⟨h0,r,h1,h2,h3,h4,h5,h6,h7⟩:=h
  exact ⟨fun a=>h0 (hi a),r,by rw [hL];exact h1,h2,h3,h4.mono hφ hI hs hsh,h5,h6,h7⟩
 |mp es=>
  obtain ⟨h0,ents,clock,h1,h2⟩:=h
  exact ⟨fun a=>h0 (hi a),ents,clock,by rw [hL];exact h1,h2.mono hφ hI hs hsh⟩
theorem SR.own_notI (h:SR φ I H w) {B:Nat} (ho:Own φ H B):¬I B:=by
 obtain ⟨b,L,k,h1,h2,h3,rfl⟩:=ho
 have:=h.blk b L k h1 h2
 cases k with
 |row sz m es=>exact this.2.2.2.2.1 h3
 |loop l=>exact this.1
 |mp es=>exact this.1
theorem SR.own_lt (h:SR φ I H w) {B:Nat} (ho:Own φ H B):B<w.heap.size:=by
 obtain ⟨b,L,k,h1,h2,h3,rfl⟩:=ho
 exact (h.dom b L h1).2
theorem iC.refl:iC φ I H w φ I H w:=
 ⟨rfl,rfl,rfl,ax _,fun _ _ _=>rfl,fun _ _ h=>h,fun _ _ h=>h,fun _ _ h=> .inl h,fun _ h=>h,fun _ h _=> .inl h,fun _ _ h=>h⟩
theorem iC.trans (h:iC φ I H w φ' I' H' w') (k:iC φ' I' H' w' φ'' I'' H'' w''):iC φ I H w φ'' I'' H'' w'' where
 os:=k.os.trans h.os
 tape:=k.tape.trans h.tape
 output:=k.output.trans h.output
 size:=bi h.size k.size
 same:=fun B hB ho=>(k.same B (Nat.lt_of_lt_of_le hB h.size) fun ho'=>ho (h.own B hB ho')).trans (h.same B hB ho)
 shape:=fun B s hs=>k.shape B s (h.shape B s hs)
 phi:=fun b L hb=>k.phi b L (h.phi b L hb)
 new:=fun b L hb=>by
  rcases k.new b L hb with h1|h1|h1
  ·exact h.new b L h1
  ·exact .inr (.inl (bi h.size h1))
  ·rcases am L.B w.heap.size with hlt|hge
   ·exact .inr (.inr (h.own _ hlt h1))
   ·exact .inr (.inl hge)
 imm:=fun B hB=>k.imm B (h.imm B hB)
 inew:=fun B hB hlt=>by
  rcases k.inew B hB (Nat.lt_of_lt_of_le hlt h.size) with h1|h1
  ·exact h.inew B h1 hlt
  ·exact .inr (h.own B hlt h1)
 own:=fun B hlt ho=>h.own B hlt (k.own B (Nat.lt_of_lt_of_le hlt h.size) ho)
theorem iC.isame (hS:SR φ I H w) (h:iC φ I H w φ' I' H' w') (B:Nat) (hB:I B):w'.heap[B]? =w.heap[B]? :=
 h.same B (hS.imm B hB) fun ho=>hS.own_notI ho hB
theorem VR.step {v:V} {x:Value} (hv:VR φ I w v x) (hS:SR φ I H w) (h:iC φ I H w φ' I' H' w'):VR φ' I' w' v x:=
 hv.mono h.phi h.imm (h.isame hS) h.shape
theorem VRs.step {v:List V} {x:Array Value} (hv:VRs φ I w v x) (hS:SR φ I H w) (h:iC φ I H w φ' I' H' w'):VRs φ' I' w' v x:=
 hv.mono h.phi h.imm (h.isame hS) h.shape
theorem js {B:Nat} (h:w'.heap[B]? =w.heap[B]?):w'.shape? B=w.shape? B:=by simp [World.shape?,h]
def j4 (H:Hp) (b:Nat) (k:Option Blk):Hp:=if b<H.length then H.set b k else H++List.replicate (b-H.length) none++[k]
theorem s7 (H:Hp) (k:Option Blk):j4 H H.length k=H++[k]:=by simp [j4]
theorem ng {H:Hp} {b:Nat} (k:Option Blk) (h:b<H.length):j4 H b k=H.set b k:=by simp [j4,h]
theorem jG (H:Hp) (b:Nat) (k:Option Blk):(j4 H b k).length=max H.length (b+1):=by
 unfold j4;split<;>simp<;>omega
theorem eT (H:Hp) (b:Nat) (k:Option Blk):get (j4 H b k) b=k:=by
 unfold j4 get
 split
 ·rename_i h;simp [h]
 ·rename_i h
  rw [bv (by simp;omega)]
  simp [show b-(H.length+(b-H.length))=0 by omega]
theorem ct (H:Hp) {b c:Nat} (k:Option Blk) (h:c≠b):get (j4 H b k) c=get H c:=by
 unfold j4 get
 split
 ·rw [fS];simp [Ne.symm h]
 ·rename_i hb
  rcases am c H.length with hc|hc
  ·rw [bE,bB hc]
  ·rw [List.getElem?_eq_none hc]
   rcases am c b with hcb|hcb
   ·rw [bB (by simp;omega),bv hc]
    simp only [List.getElem?_replicate];split<;>rfl
   ·rw [List.getElem?_eq_none (by simp;omega)]
theorem oh {H:Hp} {b:Nat} (h:H.length≤b):get H b=none:=by simp [get,List.getElem?_eq_none h]
def app (wr:List (Nat×Option Blk)) (H:Hp):Hp:=wr.foldl (fun H p=>j4 H p.1 p.2) H
def nk (φ:Nat→Option Loc) (b:Nat) (L:Loc):Nat→Option Loc:=fun c=>if c=b then some L else φ c
theorem cd (φ:Nat→Option Loc) (b:Nat) (L:Loc):nk φ b L b=some L:=by simp [nk]
theorem cz (φ:Nat→Option Loc) {b c:Nat} (L:Loc) (h:c≠b):nk φ b L c=φ c:=by simp [nk,h]
theorem qw {b:Nat} {L:Loc} (hn:φ b=none) (c:Nat) (M:Loc) (h:φ c=some M):nk φ b L c=some M:=by
 rw [cz];· exact h
 ·rintro rfl;rw [hn] at h;cases h
theorem SR.alloc (hS:SR φ I H w) {nid:Nat} (hn:φ nid=none) (hd:get H nid=none) (hnl:nid≤H.length) {sz:Nat} {es:List (List V)} {c:Array Value} {t:TypeId} {W:World}
 (hW:W.heap=w.heap) (hWo:W.os=w.os∧W.tape=w.tape∧W.output=w.output) (hc:es.length*sz≤c.size) (hsz:∀ (i:Nat) (e:List V),es[i]? =some e→e.length=sz)
 (hv:∀ (i:Nat) (e:List V) (k:Nat) (v:V),es[i]? =some e→e[k]? =some v→∃ x,c[i*sz+k]? =some x∧VR φ I w v x):
 SR (nk φ nid ⟨w.heap.size,0,sz⟩) I (j4 H nid (some (.row sz true es))) (W.alloc (.cells c t))∧
 iC φ I H w (nk φ nid ⟨w.heap.size,0,sz⟩) I (j4 H nid (some (.row sz true es))) (W.alloc (.cells c t)):=by
 have hsz':(W.alloc (.cells c t)).heap.size=w.heap.size+1:=by rw [World.size_alloc,hW]
 have hold:∀ B,B<w.heap.size→(W.alloc (.cells c t)).heap[B]? =w.heap[B]? :=fun B hB=>by rw [Below.heap_alloc W _ B (by rw [hW];exact hB),hW]
 have hnew:(W.alloc (.cells c t)).heap[w.heap.size]? =some (.cells c t (0,0)):=by have:=World.alloc_heap_new W (.cells c t);rw [hW] at this;exact this
 have hIs:∀ B,I B→(W.alloc (.cells c t)).heap[B]? =w.heap[B]? :=fun B hB=>hold B (hS.imm B hB)
 have hsh:∀ B s,w.shape? B=some s→(W.alloc (.cells c t)).shape? B=some s:=fun B s hs=>by
  have hB:B<w.heap.size:=by
   rcases am B w.heap.size with h|h
   ·exact h
   ·simp [World.shape?,Array.getElem?_eq_none h] at hs
  rw [js (hold B hB)];exact hs
 have hm:=qw (L:=⟨w.heap.size,0,sz⟩) hn
 have hst:iC φ I H w (nk φ nid ⟨w.heap.size,0,sz⟩) I (j4 H nid (some (.row sz true es))) (W.alloc (.cells c t)):=by
  refine ⟨hWo.1,hWo.2.1,hWo.2.2,by omega,fun B hB _=>hold B hB,hsh,hm,?_,fun _ h=>h,fun _ h _=> .inl h,?_⟩
  ·intro b L hb
   by_cases e:b=nid
   ·subst e;rw [cd] at hb;cases hb;exact .inr (.inl (ax _))
   ·rw [cz _ _ e] at hb;exact .inl hb
  ·rintro B hlt ⟨b,L,k,h1,h2,h3,rfl⟩
   by_cases e:b=nid
   ·subst e;rw [cd] at h1;cases h1;exact absurd hlt (Nat.lt_irrefl _)
   ·rw [cz _ _ e] at h1;rw [ct _ _ e] at h2;exact ⟨b,L,k,h1,h2,h3,rfl⟩
 refine ⟨⟨?_,?_,?_,?_⟩,hst⟩
 ·intro b L hb
  rw [jG,hsz']
  by_cases e:b=nid
  ·subst e;rw [cd] at hb;cases hb;exact ⟨by omega,by simp⟩
  ·rw [cz _ _ e] at hb;have:=hS.dom b L hb;exact ⟨by omega,by omega⟩
 ·intro B hB;have:=hS.imm B hB;omega
 ·intro b L k hb hk
  by_cases e:b=nid
  ·subst e
   rw [cd] at hb;cases hb
   rw [eT] at hk;cases hk
   refine ⟨rfl,⟨c,t,hnew,by simpa using hc⟩,hsz,?_,⟨fun _ h=>absurd (hS.imm _ h) (Nat.lt_irrefl _),fun _=>rfl⟩⟩
   intro i e k v hi hk
   obtain ⟨x,hx,hvx⟩:=hv i e k v hi hk
   refine ⟨x,?_,hvx.mono hm (fun _ h=>h) hIs hsh⟩
   simp [World.cell?,hnew,hx]
  ·rw [cz _ _ e] at hb
   rw [ct _ _ e] at hk
   exact (hS.blk b L k hb hk).mono hm (fun _ h=>h) hIs hsh (hold _ (hS.dom b L hb).2) (fun h=>h)
 ·intro b b' L L' k k' h1 h2 h3 h4 h5 h6 h7
  by_cases e:b=nid<;>by_cases e':b'=nid
  ·rw [e,e']
  ·exfalso
   subst e;rw [cd] at h1;cases h1;rw [cz _ _ e'] at h2
   have:=(hS.dom b' L' h2).2;simp at h7;omega
  ·exfalso
   subst e';rw [cd] at h2;cases h2;rw [cz _ _ e] at h1
   have:=(hS.dom b L h1).2;simp at h7;omega
  ·rw [cz _ _ e] at h1;rw [cz _ _ e'] at h2;rw [ct _ _ e] at h3;rw [ct _ _ e'] at h4
   exact hS.inj b b' L L' k k' h1 h2 h3 h4 h5 h6 h7
theorem SR.kill (hS:SR φ I H w) {b:Nat} (hb:b<H.length):SR φ I (j4 H b none) w∧iC φ I H w φ I (j4 H b none) w:=by
 constructor
 ·refine ⟨fun c L hc=>⟨by have:=(hS.dom c L hc).1;rw [jG];omega,(hS.dom c L hc).2⟩,hS.imm,?_,?_⟩
  ·intro c L k hc hk
   by_cases e:c=b
   ·subst e;rw [eT] at hk;cases hk
   ·rw [ct _ _ e] at hk;exact hS.blk c L k hc hk
  ·intro c c' L L' k k' h1 h2 h3 h4 h5 h6 h7
   by_cases e:c=b
   ·subst e;rw [eT] at h3;cases h3
   ·by_cases e':c'=b
    ·subst e';rw [eT] at h4;cases h4
    ·rw [ct _ _ e] at h3;rw [ct _ _ e'] at h4;exact hS.inj c c' L L' k k' h1 h2 h3 h4 h5 h6 h7
 ·refine ⟨rfl,rfl,rfl,ax _,fun _ _ _=>rfl,fun _ _ h=>h,fun _ _ h=>h,fun _ _ h=> .inl h,fun _ h=>h,fun _ h _=> .inl h,?_⟩
  rintro B hlt ⟨c,L,k,h1,h2,h3,rfl⟩
  by_cases e:c=b
  ·subst e;rw [eT] at h2;cases h2
  ·rw [ct _ _ e] at h2;exact ⟨c,L,k,h1,h2,h3,rfl⟩
theorem vV (W:World) (g:Nat) (c c':Array Value) (t:TypeId) (hg:W.heap[g]? =some (.cells c t (0,0))) (hs:c'.size=c.size) (B:Nat) (s:TypeId×Nat) (h:W.shape? B=some s):
 (W.setRow g c').shape? B=some s:=by
 by_cases e:B=g
 ·subst e
  have:=setRow_heap W B c c' t (0,0) hg
  simp only [World.shape?,hg] at h
  simp only [World.shape?,this,hs];exact h
 ·rw [js (setRow_other W g B c' e)];exact h
theorem SR.put (hS:SR φ I H w) {b:Nat} {L:Loc} {sz:Nat} {es es':List (List V)} {c c':Array Value} {t:TypeId} (hb:φ b=some L) (hk:get H b=some (.row sz true es))
 (hg:w.heap[L.B]? =some (.cells c t (0,0))) (hs:c'.size=c.size) (hl:es'.length=es.length) (hsz:∀ (i:Nat) (e:List V),es'[i]? =some e→e.length=sz)
 (hv:∀ (i:Nat) (e:List V) (k:Nat) (v:V),es'[i]? =some e→e[k]? =some v→∃ x,c'[L.off+i*sz+k]? =some x∧VR φ I w v x):
 SR φ I (j4 H b (some (.row sz true es'))) (w.setRow L.B c')∧iC φ I H w φ I (j4 H b (some (.row sz true es'))) (w.setRow L.B c'):=by
 have hne:∀ B,B≠L.B→(w.setRow L.B c').heap[B]? =w.heap[B]? :=fun B h=>setRow_other w L.B B c' h
 have hnew:=setRow_heap w L.B c c' t (0,0) hg
 have hnI:¬I L.B:=hS.own_notI ⟨b,L,_,hb,hk,rfl,rfl⟩
 have hIs:∀ B,I B→(w.setRow L.B c').heap[B]? =w.heap[B]? :=fun B hB=>hne B (by rintro rfl;exact hnI hB)
 have hsh:=vV w L.B c c' t hg hs
 have hsize:(w.setRow L.B c').heap.size=w.heap.size:=by simp [World.setRow]
 have hkk:=hS.blk b L _ hb hk
 constructor
 ·refine ⟨fun d M hd=>⟨by have:=(hS.dom d M hd).1;rw [jG];omega,by rw [hsize];exact (hS.dom d M hd).2⟩,fun B hB=>by rw [hsize];exact hS.imm B hB,?_,?_⟩
  ·intro d M k hd hk'
   by_cases e:d=b
   ·subst e
    rw [hb] at hd;cases hd
    rw [eT] at hk';cases hk'
    obtain ⟨q1,⟨cc,tt,q2,q3⟩,_,_,q6⟩:=hkk
    rw [hg] at q2;cases q2
    refine ⟨q1,⟨c',t,hnew,by rw [hs,hl];exact q3⟩,hsz,?_,q6⟩
    intro i e k v hi hk
    obtain ⟨x,hx,hvx⟩:=hv i e k v hi hk
    exact ⟨x,by simp [World.cell?,hnew,hx],hvx.mono (fun _ _ h=>h) (fun _ h=>h) hIs hsh⟩
   ·rw [ct _ _ e] at hk'
    by_cases hB:M.B=L.B
    ·exfalso
     have h1:=hS.blk d M k hd hk'
     cases k with
     |row sz' m es2=>
      have hm:m=true:=h1.2.2.2.2.2 (by rw [hB];exact hnI)
      exact e (hS.inj d b M L _ _ hd hb hk' hk (by rw [hm];rfl) rfl hB)
     |loop l=>
      obtain ⟨_,r,h2,_⟩:=h1
      rw [hB,hg] at h2;cases h2
     |mp es2=>
      obtain ⟨_,r,clock,h2,_⟩:=h1
      rw [hB,hg] at h2;cases h2
    ·exact (hS.blk d M k hd hk').mono (fun _ _ h=>h) (fun _ h=>h) hIs hsh (hne _ hB) (fun h=>h)
  ·intro d d' M M' k k' h1 h2 h3 h4 h5 h6 h7
   have own':∀ {d:Nat} {k:Blk},get (j4 H b (some (.row sz true es'))) d=some k→k.own=true→∃ k0,get H d=some k0∧k0.own=true:=by
    intro d k h h'
    by_cases e:d=b
    ·subst e;exact ⟨_,hk,rfl⟩
    ·rw [ct _ _ e] at h;exact ⟨k,h,h'⟩
   obtain ⟨k0,a0,a1⟩:=own' h3 h5
   obtain ⟨k1,b0,b1⟩:=own' h4 h6
   exact hS.inj d d' M M' k0 k1 h1 h2 a0 b0 a1 b1 h7
 ·refine ⟨rfl,rfl,rfl,by omega,fun B hB ho=>hne B (by rintro rfl;exact ho ⟨b,L,_,hb,hk,rfl,rfl⟩),hsh,fun _ _ h=>h,fun _ _ h=> .inl h,fun _ h=>h,fun _ h _=> .inl h,?_⟩
  rintro B hlt ⟨d,M,k,h1,h2,h3,rfl⟩
  by_cases e:d=b
  ·subst e;rw [hb] at h1;cases h1;exact ⟨d,L,_,hb,hk,rfl,rfl⟩
  ·rw [ct _ _ e] at h2;exact ⟨d,M,k,h1,h2,h3,rfl⟩
end Go.Av
namespace Go.Av
open Go.RowKit
variable {P:Program} {φ φ' φ'':Nat→Option Loc} {I I' I'':Nat→Prop} {H H' H'':Hp} {w w' w'':World}
theorem g9 {t:TypeId} {i:TyI} (h:aD P t=some i):∃ (j:TypeInfo) (d:TypeDesc) (z:Value),P.info? t=some j∧P.underlying t=some d∧j.zero=some z∧
 i.sz=j.size∧i.bytes=j.bytes∧i.zero=z.cells.toList∧i.eqg=(P.eqGuardType P.depth t||P.stoodInHeld t)∧
 i.k=(match d with
    | .struct fs=> .struct (fs.toList.map fun f=>(f.type,f.offset,f.name))
    | .array n e=> .array n e
    | .slice e=> .slice e
    | .string=> .str
    | .bool=> .bool
    | .int k=> .int k
    | .map k e=> .map k e
    |_=> .one)∧(∀ x∈i.zero,uQ x=true)∧i.zero.length=i.sz∧(∀ fs,d= .struct fs→∀ f∈fs.toList,∃ j,P.info? f.type=some j):=by
 unfold aD at h
 cases h1:P.info? t with
 |none=>simp [h1] at h
 |some j=>
  cases h2:P.underlying t with
  |none=>simp [h1,h2] at h
  |some d=>
   cases h3:j.zero with
   |none=>simp [h1,h2,h3] at h
   |some z=>
    simp only [h1,h2,h3] at h
    split at h
    ·rename_i hc
     simp only [bu] at h
     subst h
     simp only [Bool.and_eq_true,List.all_eq_true,beq_iff_eq] at hc
     obtain ⟨⟨⟨c1,c2⟩,c3⟩,_⟩:=hc
     refine ⟨j,d,z,rfl,rfl,h3,rfl,rfl,rfl,rfl,rfl,c1,c2,?_⟩
     rintro fs rfl f hf
     simp only [G0,List.all_eq_true] at c3
     exact Option.isSome_iff_exists.1 (c3 f hf)
    ·cases h
theorem gV {t:TypeId} {i:TyI} (h:aD P t=some i) (w:World):(sizeOf t).run P w= .ok i.sz w:=by
 obtain ⟨j,d,z,h1,h2,h3,h4,_⟩:=g9 h
 simp [sizeOf,typeInfo,h1,h4]
theorem v5 {t:TypeId} {i:TyI} (h:aD P t=some i):∃ j,j.bytes=i.bytes∧j.size=i.sz∧(∃ z,j.zero=some z∧z.cells.toList=i.zero)∧P.info? t=some j∧∀ w,(typeInfo t).run P w= .ok j w:=by
 obtain ⟨j,d,z,h1,h2,h3,h4,h5,h6,_⟩:=g9 h
 exact ⟨j,h5.symm,h4.symm,⟨z,h3,h6.symm⟩,h1,fun w=>by simp [typeInfo,h1]⟩
theorem oU {t:TypeId} {i:TyI} (h:aD P t=some i):∃ z:Value,z.cells.toList=i.zero∧∀ w,(zeroValue t).run P w= .ok z w:=by
 obtain ⟨j,d,z,h1,h2,h3,h4,h5,h6,_⟩:=g9 h
 exact ⟨z,h6.symm,fun w=>by simp [zeroValue,typeInfo,h1,h3]⟩
theorem zw {t:TypeId} {i:TyI} (h:aD P t=some i) (w:World):(isAgg t).run P w= .ok i.k.isAgg w:=by
 obtain ⟨j,d,z,h1,h2,h3,h4,h5,h6,h7,h8,_⟩:=g9 h
 rw [h8]
 cases d<;>simp [isAgg,run_underlying h2,TK.isAgg]
theorem p7 {t:TypeId} {i:TyI} {fs:List (TypeId×Nat×String)} (h:aD P t=some i) (hk:i.k= .struct fs):
 ∃ gs:Array Field,P.underlying t=some (.struct gs)∧fs=gs.toList.map fun f=>(f.type,f.offset,f.name):=by
 obtain ⟨j,d,z,h1,h2,h3,h4,h5,h6,h7,h8,_⟩:=g9 h
 rw [h8] at hk
 cases d<;>simp at hk
 exact ⟨_,h2,hk.symm⟩
theorem gD {t e:TypeId} {i:TyI} (h:aD P t=some i) (hk:i.k= .slice e):P.underlying t=some (.slice e):=by
 obtain ⟨j,d,z,h1,h2,h3,h4,h5,h6,h7,h8,_⟩:=g9 h
 rw [h8] at hk
 cases d<;>simp at hk
 subst hk;exact h2
theorem rf {t e:TypeId} {n:Nat} {i:TyI} (h:aD P t=some i) (hk:i.k= .array n e):P.underlying t=some (.array n e):=by
 obtain ⟨j,d,z,h1,h2,h3,h4,h5,h6,h7,h8,_⟩:=g9 h
 rw [h8] at hk
 cases d<;>simp at hk
 obtain ⟨rfl,rfl⟩:=hk;exact h2
theorem qt {t:TypeId} {i:TyI} (h:aD P t=some i) (hk:i.k= .str):P.underlying t=some .string:=by
 obtain ⟨j,d,z,h1,h2,h3,h4,h5,h6,h7,h8,_⟩:=g9 h
 rw [h8] at hk
 cases d<;>simp at hk
 exact h2
theorem zY {t:TypeId} {i:TyI} (h:aD P t=some i) (hk:i.k= .bool):P.underlying t=some .bool:=by
 obtain ⟨j,d,z,h1,h2,h3,h4,h5,h6,h7,h8,_⟩:=g9 h
 rw [h8] at hk
 cases d<;>simp at hk
 exact h2
theorem uk {t:TypeId} {i:TyI} {k:IntKind} (h:aD P t=some i) (hk:i.k= .int k):P.underlying t=some (.int k):=by
 obtain ⟨j,d,z,h1,h2,h3,h4,h5,h6,h7,h8,_⟩:=g9 h
 rw [h8] at hk
 cases d<;>simp at hk
 subst hk;exact h2
theorem oD {t:TypeId} {i:TyI} (h:aD P t=some i):∀ x∈i.zero,uQ x=true:=by
 obtain ⟨j,d,z,h1,h2,h3,h4,h5,h6,h7,h8,h9,_⟩:=g9 h;exact h9
theorem lr {t:TypeId} {i:TyI} (h:aD P t=some i):i.zero.length=i.sz:=by
 obtain ⟨j,d,z,h1,h2,h3,h4,h5,h6,h7,h8,h9,h10,_⟩:=g9 h;exact h10
theorem IJ {t:TypeId} {i:TyI} (h:aD P t=some i) {gs:Array Field} (hg:P.underlying t=some (.struct gs)):∀ f∈gs.toList,∃ j,P.info? f.type=some j:=by
 obtain ⟨j,d,z,h1,h2,h3,h4,h5,h6,h7,h8,h9,h10,h11⟩:=g9 h
 rw [hg] at h2;cases h2
 exact h11 gs rfl
def oK:Operand→Bool
 | .const v=>uQ v
 |_=>true
theorem nQ:VR φ I w cW undef:= .tup rfl (fun k v x h _=>by simp at h)
theorem ia {T:List V} {a:Act} (hT:VRs φ I w T a.tmps) (x:Operand) (hx:oK x=true):VR φ I w (ev T x) (a.eval x):=by
 cases x with
 |tmp t=>
  simp only [ev,Act.eval,List.getD]
  cases h:T[t]? with
  |none=>
   have:a.tmps[t]? =none:=by rw [Array.getElem?_eq_none];rw [List.getElem?_eq_none_iff] at h;rw [←hT.len];exact h
   simp only [Option.getD_none,Array.getD_eq_getD_getElem?,this]
   exact nQ
  |some v=>
   have hlt:t<a.tmps.size:=by rw [←hT.len];exact (aH.1 h).1
   have h2:a.tmps[t]? =some a.tmps[t]:=Array.getElem?_eq_getElem hlt
   simp only [bG,Array.getD_eq_getD_getElem?,h2]
   exact hT.at_ t v _ h h2
 |const v=>exact .prim hx
 |global g=>exact .prim rfl
 |func f=>exact .clo rfl rfl (fun k v x h _=>by simp at h) (fun k v x h _=>by simp at h)
theorem VR.prim_inv {x y:Value} (h:VR φ I w (.prim x) y):y=x∧uQ x=true:=by cases h;exact ⟨rfl,‹_›⟩
theorem VR.agg_inv {cs:List V} {y:Value} (h:VR φ I w (.agg cs) y):∃ xs:Array Value,y= .agg xs∧VRs φ I w cs xs:=by
 cases h;exact ⟨_,rfl,⟨‹_›,‹_›⟩⟩
theorem VR.tup_inv {cs:List V} {y:Value} (h:VR φ I w (.tup cs) y):∃ xs:Array Value,y= .tuple xs∧VRs φ I w cs xs:=by
 cases h;exact ⟨_,rfl,⟨‹_›,‹_›⟩⟩
theorem VRs.agg {cs:List V} {xs:Array Value} (h:VRs φ I w cs xs):VR φ I w (.agg cs) (.agg xs):= .agg h.len h.at_
theorem VRs.tup {cs:List V} {xs:Array Value} (h:VRs φ I w cs xs):VR φ I w (.tup cs) (.tuple xs):= .tup h.len h.at_
theorem VRs.get {cs:List V} {xs:Array Value} (h:VRs φ I w cs xs) {k:Nat} {v:V} (hk:cs[k]? =some v):∃ x,xs[k]? =some x∧VR φ I w v x:=by
 have hlt:k<xs.size:=by rw [←h.len];exact (aH.1 hk).1
 exact ⟨xs[k],Array.getElem?_eq_getElem hlt,h.at_ k v _ hk (Array.getElem?_eq_getElem hlt)⟩
theorem VRs.nil:VRs φ I w [] #[]:=⟨rfl,fun k v x h _=>by simp at h⟩
theorem VRs.append {cs ds:List V} {xs ys:Array Value} (h:VRs φ I w cs xs) (k:VRs φ I w ds ys):VRs φ I w (cs++ds) (xs++ys):=by
 refine ⟨by simp [h.len,k.len],fun j v x h1 h2=> ?_⟩
 rcases am j cs.length with hj|hj
 ·rw [bB hj] at h1
  rw [Array.getElem?_append_left (by rw [←h.len];exact hj)] at h2
  exact h.at_ j v x h1 h2
 ·rw [bv hj] at h1
  rw [Array.getElem?_append_right (by rw [←h.len];exact hj),←h.len] at h2
  exact k.at_ _ v x h1 h2
theorem VRs.cells {v:V} {x:Value} (h:VR φ I w v x):VRs φ I w v.cells x.cells:=by
 cases v with
 |agg cs=>obtain ⟨xs,rfl,h2⟩:=h.agg_inv;exact h2
 |_=>
  have hx:x.cells=#[x]:=by cases h<;>first|rfl|(rename_i h;cases x<;>first|rfl|(simp [uQ] at h))
  rw [hx]
  refine ⟨rfl,fun k v y h1 h2=> ?_⟩
  cases k with
  |zero=>simp [V.cells] at h1 h2;subst h1;subst h2;exact h
  |succ k=>simp [V.cells] at h1
theorem VRs.prims {cs:List Value} (h:∀ x∈cs,uQ x=true):VRs φ I w (cs.map .prim) cs.toArray:=by
 refine ⟨by simp,fun k v x h1 h2=> ?_⟩
 rw [aW] at h1
 simp only [List.getElem?_toArray] at h2
 rw [h2] at h1
 simp at h1;subst h1
 exact .prim (h x (List.mem_of_getElem? h2))
theorem m7 {t:TypeId} {i:TyI} (ht:aD P t=some i) {cs:List V} {xs:Array Value} (h:VRs φ I w cs xs) {j:Nat} {v:V} (hr:eS i cs j=some v) (W:World):
 ∃ x,(part t xs j).run P W= .ok x W∧VR φ I w v x:=by
 unfold eS at hr
 by_cases hg:i.k.isAgg=true
 ·simp only [hg,if_true] at hr
  split at hr
  ·rename_i hle
   simp only [bu] at hr
   subst hr
   refine ⟨.agg (xs.extract j (j+i.sz)),by simp [part,zw ht,hg,gV ht],VRs.agg ⟨by have:=h.len;simp;omega,fun k v x h1 h2=> ?_⟩⟩
   rw [fE] at h1
   split at h1
   ·rename_i hk
    rw [List.getElem?_drop] at h1
    rw [Array.getElem?_extract] at h2
    split at h2
    ·exact h.at_ _ v x h1 h2
    ·cases h2
   ·cases h1
  ·cases hr
 ·simp only [hg,Bool.false_eq_true,if_false] at hr
  obtain ⟨x,hx,hv⟩:=h.get hr
  exact ⟨x,by simp [part,zw ht,hg,hx],hv⟩
theorem Kk:∀ (n:Nat) (t:TypeId) (u v:V) (x y:Value) (c:Bool) (d:Nat),eqA (aD P) n t u v=some c→VR φ I w u x→VR φ I w v y→n≤d→∀ W,(Op.equalIn d t x y).run P W= .ok c W:=by
 intro n
 induction n with
 |zero=>intro t u v x y c d h;simp [eqA] at h
 |succ n ih=>
  intro t u v x y c d h hu hv hd W
  obtain ⟨d,rfl⟩:∃ e,d=e+1:=⟨d-1,by omega⟩
  unfold eqA at h
  cases ht:aD P t with
  |none=>simp [ht] at h
  |some i=>
   simp only [ht] at h
   split at h
   ·rename_i hk
    obtain ⟨rfl,_⟩:=hu.prim_inv;obtain ⟨rfl,_⟩:=hv.prim_inv
    cases h
    exact run_equalIn_bool' W d t _ _ (zY ht hk)
   ·rename_i hk
    obtain ⟨rfl,_⟩:=hu.prim_inv;obtain ⟨rfl,_⟩:=hv.prim_inv
    split at h
    ·rename_i e;subst e
     cases h
     exact run_equalIn_int W d t _ _ _ _ (uk ht hk)
    ·cases h
   ·rename_i hk
    obtain ⟨rfl,_⟩:=hu.prim_inv;obtain ⟨rfl,_⟩:=hv.prim_inv
    cases h
    exact run_equalIn_string W d t _ _ (qt ht hk)
   ·rename_i e sz e0 es hk
    cases h
    obtain ⟨rfl,_⟩:=hv.prim_inv
    obtain ⟨a,cap,rfl⟩:∃ a cap,x= .slice (some a) (es.length+1) cap:=by
     generalize hl:V.lst sz (e0::es)=u at hu
     cases hu with
     |lst val hI hcap hsz hc hv=>cases hl;exact ⟨_,_,rfl⟩
     |lnil=>cases hl
     |_=>cases hl
    simp [Op.equalIn,run_underlying (gD ht hk)]
   ·rename_i e b o n' c' s' f' hk
    cases h
    obtain ⟨rfl,_⟩:=hv.prim_inv
    obtain ⟨a,n1,cap,rfl⟩:∃ a n1 cap,x= .slice (some a) n1 cap:=by cases hu;exact ⟨_,_,_,rfl⟩
    simp [Op.equalIn,run_underlying (gD ht hk)]
   ·rename_i e hk
    cases h
    obtain ⟨rfl,_⟩:=hu.prim_inv;obtain ⟨rfl,_⟩:=hv.prim_inv
    simp [Op.equalIn,run_underlying (gD ht hk)]
   ·rename_i fs xs ys hk
    split at h
    ·cases h
    ·rename_i hg
     obtain ⟨x,rfl,hxs⟩:=hu.agg_inv
     obtain ⟨y,rfl,hys⟩:=hv.agg_inv
     obtain ⟨gs,hgs,rfl⟩:=p7 ht hk
     obtain ⟨_,_,_,_,_,_,_,_,_,heq,_⟩:=g9 ht
     have hst:P.stoodInHeld t=false:=by
      cases hh:P.stoodInHeld t
      ·rfl
      ·rw [heq,hh] at hg;simp at hg
     have hf:P.fieldsOf t=gs:=by simp [Program.fieldsOf,hgs]
     rw [run_equalIn_struct W d t x y (by rw [hf];exact hgs) hst,hf]
     clear hgs hf hk
     generalize gs.toList=gl at h
     clear gs
     induction gl with
     |nil=>simp [eqA.eqFs] at h;subst h;simp [Op.eqFields]
     |cons f fl ihf=>
      simp only [aY,eqA.eqFs] at h
      split at h
      ·cases h
      ·rename_i hnm
       cases htf:aD P f.type with
       |none=>simp [htf] at h
       |some fi=>
        simp only [htf] at h
        cases hra:eS fi xs f.offset with
        |none=>simp [hra] at h
        |some a=>
         cases hrb:eS fi ys f.offset with
         |none=>simp [hra,hrb] at h
         |some b=>
          simp only [hra,hrb] at h
          obtain ⟨xa,hxa,hva⟩:=m7 htf hxs hra W
          obtain ⟨xb,hxb,hvb⟩:=m7 htf hys hrb W
          cases hc:eqA (aD P) n f.type a b with
          |none=>simp [hc] at h
          |some cc=>
           have hrun:=ih f.type a b xa xb cc d hc hva hvb (by omega) W
           cases cc with
           |false=>
            simp only [hc,bu] at h
            subst h
            simp [Op.eqFields,hnm,hxa,hxb,hrun]
           |true=>
            simp only [hc] at h
            simp [Op.eqFields,hnm,hxa,hxb,hrun,ihf h]
   ·cases h
end Go.Av
namespace Go.Av
open Go.RowKit
variable {P:Program} {φ φ' φ'':Nat→Option Loc} {I I' I'':Nat→Prop} {H H' H'':Hp} {w w' w'':World}
theorem ur {u:V} {x:Value} {sz:Nat} {e0:List V} {es:List (List V)} (h:u= .lst sz (e0::es)∨∃ b o n c s f,u= .sref b o n c s f) (hu:VR φ I w u x):∃ a n k,x= .slice (some a) n k:=by
 cases hu with
 |lst val hI hcap hsz hc hv=>exact ⟨_,_,_,rfl⟩
 |sref h hz hn hc hfx hs hA hm=>exact ⟨_,_,_,rfl⟩
 |lnil=>rcases h with h|⟨_,_,_,_,_,_,h⟩<;>cases h
 |_=>rcases h with h|⟨_,_,_,_,_,_,h⟩<;>cases h
theorem Bo {op:BinOp} {t:TypeId} {x y:Operand} {u v:V} {a b:Value} {i:TyI} (ht:aD P t=some i) (hg:i.eqg=false) (hu:VR φ I w u a) (hv:VR φ I w v b) {c:Bool} (hc:eqA (aD P) 9 t u v=some c) (W:World):
 (eqGuard op t x y a b).run P W= .ok () W:=by
 have hq:P.eqGuardType P.depth t=false:=by
  obtain ⟨_,_,_,_,_,_,_,_,_,heq,_⟩:=g9 ht
  rw [heq] at hg;simp at hg;exact hg.1
 unfold eqA at hc
 simp only [ht] at hc
 split at hc
 ·obtain ⟨rfl,_⟩:=hu.prim_inv;obtain ⟨rfl,_⟩:=hv.prim_inv;cases op<;>simp [eqGuard]
 ·obtain ⟨rfl,_⟩:=hu.prim_inv;obtain ⟨rfl,_⟩:=hv.prim_inv;cases op<;>simp [eqGuard]
 ·obtain ⟨rfl,_⟩:=hu.prim_inv;obtain ⟨rfl,_⟩:=hv.prim_inv;cases op<;>simp [eqGuard]
 ·obtain ⟨rfl,_⟩:=hv.prim_inv;obtain ⟨s,n,k,rfl⟩:=ur (.inl rfl) hu;cases op<;>simp [eqGuard]
 ·obtain ⟨rfl,_⟩:=hv.prim_inv;obtain ⟨s,n,k,rfl⟩:=ur (sz:=0) (e0:=[]) (es:=[]) (.inr ⟨_,_,_,_,_,_,rfl⟩) hu;cases op<;>simp [eqGuard]
 ·obtain ⟨rfl,_⟩:=hu.prim_inv;obtain ⟨rfl,_⟩:=hv.prim_inv;cases op<;>simp [eqGuard]
 ·obtain ⟨x,rfl,hxs⟩:=hu.agg_inv
  obtain ⟨y,rfl,hys⟩:=hv.agg_inv
  exact run_eqGuard_agg W op t _ _ _ _ hq
 ·cases hc
theorem Hw {op:BinOp} (hop:op= .eql∨op= .neq) {t:TypeId} {u v:V} {a b:Value} {i:TyI} (ht:aD P t=some i) (hu:VR φ I w u a) (hv:VR φ I w v b) {c:Bool} (hc:eqA (aD P) 9 t u v=some c)
 (hn:∀ k k' m m',¬(u= .prim (.int k m)∧v= .prim (.int k' m'))) (W:World):
 (binOp op t a b).run P W= .ok (.bool (if op= .eql then c else !c)) W:=by
 have hrun:=Kk 9 t u v a b c 10000 hc hu hv (by omega) W
 unfold eqA at hc
 simp only [ht] at hc
 split at hc
 ·obtain ⟨rfl,_⟩:=hu.prim_inv;obtain ⟨rfl,_⟩:=hv.prim_inv
  rcases hop with rfl|rfl<;>simp [binOp,Op.equal,Op.maxDepth,hrun]
 ·exact absurd ⟨rfl,rfl⟩ (hn _ _ _ _)
 ·obtain ⟨rfl,_⟩:=hu.prim_inv;obtain ⟨rfl,_⟩:=hv.prim_inv
  cases hc
  rcases hop with rfl|rfl<;>simp [binOp,Op.stringOp]
 ·obtain ⟨rfl,_⟩:=hv.prim_inv;obtain ⟨s,n,k,rfl⟩:=ur (.inl rfl) hu
  rcases hop with rfl|rfl<;>simp [binOp,Op.equal,Op.maxDepth,hrun]
 ·obtain ⟨rfl,_⟩:=hv.prim_inv;obtain ⟨s,n,k,rfl⟩:=ur (sz:=0) (e0:=[]) (es:=[]) (.inr ⟨_,_,_,_,_,_,rfl⟩) hu
  rcases hop with rfl|rfl<;>simp [binOp,Op.equal,Op.maxDepth,hrun]
 ·obtain ⟨rfl,_⟩:=hu.prim_inv;obtain ⟨rfl,_⟩:=hv.prim_inv
  rcases hop with rfl|rfl<;>simp [binOp,Op.equal,Op.maxDepth,hrun]
 ·obtain ⟨x,rfl,hxs⟩:=hu.agg_inv
  obtain ⟨y,rfl,hys⟩:=hv.agg_inv
  rcases hop with rfl|rfl
  ·rw [run_eql_struct,hrun];simp
  ·rw [run_neq_struct,hrun];simp
 ·cases hc
theorem Pz {op:BinOp} {t:TypeId} {x y:Operand} {u v r:V} {a b:Value} {c:Prop} (h:lY (aD P) op t u v=some (c,r)) (hc:c) (hu:VR φ I w u a) (hv:VR φ I w v b) (W:World):
 ∃ z,(do eqGuard op t x y a b;binOp op t a b:Sem Value).run P W= .ok z W∧VR φ I w r z:=by
 unfold lY at h
 split at h
 ·obtain ⟨rfl,_⟩:=hu.prim_inv;obtain ⟨rfl,_⟩:=hv.prim_inv;cases h
  exact ⟨_,by simp [eqGuard,binOp,Op.shift,show ¬_<(0:Int) from Int.not_lt.2 hc],.prim rfl⟩
 ·obtain ⟨rfl,_⟩:=hu.prim_inv;obtain ⟨rfl,_⟩:=hv.prim_inv;cases h
  exact ⟨_,by simp [eqGuard,binOp,Op.shift,show ¬_<(0:Int) from Int.not_lt.2 hc],.prim rfl⟩
 ·obtain ⟨rfl,_⟩:=hu.prim_inv;obtain ⟨rfl,_⟩:=hv.prim_inv
  split at h
  ·rename_i hk
   subst hk
   split at h<;>first
    |(cases h;refine ⟨_,?_,.prim rfl⟩;simp [eqGuard,binOp,Op.intArith,Op.intDiv,Op.intBits,Op.intCmp,hc];done)
    |(cases h;done)
  ·cases h
 ·obtain ⟨rfl,_⟩:=hu.prim_inv;obtain ⟨rfl,_⟩:=hv.prim_inv;cases h
  refine ⟨_,?_,.prim rfl⟩
  simp only [eqGuard,binOp,Op.stringOp]
  simp [show ¬(IntKind.i64.max<_) from Int.not_lt.2 hc]
  have h:=hc
  rw [show IntKind.i64.max=9223372036854775807 from rfl] at h
  push_cast at h
  exact h
 ·obtain ⟨rfl,_⟩:=hu.prim_inv;obtain ⟨rfl,_⟩:=hv.prim_inv;cases h
  exact ⟨_,by simp [eqGuard,binOp,Op.stringOp],.prim rfl⟩
 ·obtain ⟨rfl,_⟩:=hu.prim_inv;obtain ⟨rfl,_⟩:=hv.prim_inv;cases h
  exact ⟨_,by simp [eqGuard,binOp,Op.stringOp],.prim rfl⟩
 ·obtain ⟨rfl,_⟩:=hu.prim_inv;obtain ⟨rfl,_⟩:=hv.prim_inv;cases h
  exact ⟨_,by simp [eqGuard,binOp,Op.stringOp],.prim rfl⟩
 ·obtain ⟨rfl,_⟩:=hu.prim_inv;obtain ⟨rfl,_⟩:=hv.prim_inv;cases h
  exact ⟨_,by simp [eqGuard,binOp,Op.stringOp],.prim rfl⟩
 ·rename_i hni hns
  split at h
  ·rename_i i ht
   split at h
   ·cases h
   ·rename_i hg
    cases he:eqA (aD P) 9 t u v with
    |none=>simp [he] at h
    |some e=>
     simp [he] at h
     obtain ⟨_,rfl⟩:=h
     refine ⟨.bool (e),?_,.prim rfl⟩
     have hb:=Hw (.inl rfl) ht hu hv he (fun k k' m m' hh=>hni k m k' m' hh.1 hh.2) W
     simp [Bo ht (by simpa using hg) hu hv he,hb]
  ·cases h
 ·rename_i hni hns
  split at h
  ·rename_i i ht
   split at h
   ·cases h
   ·rename_i hg
    cases he:eqA (aD P) 9 t u v with
    |none=>simp [he] at h
    |some e=>
     simp [he] at h
     obtain ⟨_,rfl⟩:=h
     refine ⟨.bool (!e),?_,.prim rfl⟩
     have hb:=Hw (.inr rfl) ht hu hv he (fun k k' m m' hh=>hni k m k' m' hh.1 hh.2) W
     simp [Bo ht (by simpa using hg) hu hv he,hb]
  ·cases h
 ·cases h
theorem k8 {v:V} {x:Value} {n:Int} (h:gZ v=some n) (hv:VR φ I w v x):∃ k,x= .int k n:=by
 unfold gZ at h
 split at h
 ·obtain ⟨rfl,_⟩:=hv.prim_inv;cases h;exact ⟨_,rfl⟩
 ·cases h
inductive OR (φ:Nat→Option Loc) (I:Nat→Prop) (w:World):Option V→Option Value→Prop
 |none:OR φ I w none none
 |some {v:V} {x:Value} (h:VR φ I w v x):OR φ I w (some v) (some x)
theorem qd {n c cap:Nat} {fx:Bool} {lo hi mx:Option V} {lo' hi' mx':Option Value} {p:Prop} {l h c':Nat} {fx':Bool} (hs:iz n c fx lo hi mx=some (p,l,h,c',fx')) (hp:p)
 (hn:n≤c) (hc:c≤cap) (hf:fx=true→cap=c) (h1:OR φ I w lo lo') (h2:OR φ I w hi hi') (h3:OR φ I w mx mx') (isSl:Bool) (W:World):
 ∃ m,(Instr.sliceBounds isSl n cap lo' hi' mx').run P W= .ok (l,h,m) W∧l≤h∧h≤m∧h≤c∧m≤cap∧h-l≤c'∧c'≤m-l∧c'≤c-l∧(fx'=true→m-l=c'):=by
 unfold iz at hs
 split at hs
 ·rename_i l0 h0 hl hh
  cases h3 with
  |none=>
   simp only [bu,Prod.mk.injEq] at hs
   obtain ⟨rfl,rfl,rfl,rfl,rfl⟩:=hs
   obtain ⟨p1,p2,p3⟩:=hp
   refine ⟨cap,?_,by omega,by omega,by omega,ax _,by omega,by omega,by omega,fun hfx=>by rw [hf hfx]⟩
   cases h1 with
   |none=>
    simp at hl;subst hl
    cases h2 with
    |none=>simp at hh;subst hh;simp [Instr.sliceBounds]
    |some hv=>
     obtain ⟨k,rfl⟩:=k8 hh hv
     simp [Instr.sliceBounds,run_sliceBound (P:=P) W k h0 cap _ (by omega) (by omega)]
   |some lv=>
    obtain ⟨kl,rfl⟩:=k8 hl lv
    cases h2 with
    |none=>simp at hh;subst hh;simp [Instr.sliceBounds,run_sliceBound (P:=P) W kl l0 n _ (by omega) (by omega)]
    |some hv=>
     obtain ⟨k,rfl⟩:=k8 hh hv
     have e:((h0.toNat:Nat):Int)=h0:=Int.toNat_of_nonneg (by omega)
     simp [Instr.sliceBounds,run_sliceBound (P:=P) W k h0 cap _ (by omega) (by omega),run_sliceBound (P:=P) W kl l0 h0.toNat _ (by omega) (by omega)]
  |some mv=>
   rename_i mV mX
   cases h2 with
   |none=>simp at hs
   |some hv=>
    simp only at hs
    cases hm:gZ mV with
    |none=>simp [hm] at hs
    |some m0=>
     simp only [hm,bu,Prod.mk.injEq] at hs
     obtain ⟨rfl,rfl,rfl,rfl,rfl⟩:=hs
     obtain ⟨p1,p2,p3,p4⟩:=hp
     obtain ⟨k,rfl⟩:=k8 hh hv
     obtain ⟨km,rfl⟩:=k8 hm mv
     refine ⟨m0.toNat,?_,by omega,by omega,by omega,by omega,by omega,by omega,by omega,fun _=>rfl⟩
     have r1:=fun code=>run_sliceBound (P:=P) W km m0 cap code (by omega) (by omega)
     have r2:=fun code=>run_sliceBound (P:=P) W k h0 m0.toNat code (by omega) (by omega)
     cases h1 with
     |none=>simp at hl;subst hl;simp [Instr.sliceBounds,r1,r2]
     |some lv=>
      obtain ⟨kl,rfl⟩:=k8 hl lv
      have r3:=fun code=>run_sliceBound (P:=P) W kl l0 h0.toNat code (by omega) (by omega)
      simp [Instr.sliceBounds,r1,r2,r3]
 ·cases hs
end Go.Av
