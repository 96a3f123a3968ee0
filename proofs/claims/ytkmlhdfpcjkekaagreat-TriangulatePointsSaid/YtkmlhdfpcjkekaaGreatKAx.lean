/- Helping texts: Ax, Bb, Ca0, Ca. -/
import Derived.Test.YtkmlhdfpcjkekaaGreatKAr
import Derived.Test.YtkmlhdfpcjkekaaGreatProg
set_option linter.unusedSimpArgs false
set_option linter.unusedVariables false
set_option maxRecDepth 100000
set_option maxHeartbeats 16000000
namespace Go.Av
open Go.RowKit
variable {P:Program}
def fnOf (P:Program) (f:FuncId):Option (Func×Code×LC):=
 match P.funcs[f]? with
 |some fn=>match fn.body with
  |some c=>match lite c with
   |some lc=>if rfOk c&& !(fn.name== "runtime.NumGoroutine") then some (fn,c,lc) else none
   |none=>none
  |none=>none
 |none=>none
def liteOpsF (ops:Array Oper) (b:Array Nat):Nat→List Oper→List LOp
 |_,[]=>[]
 |i,o::os=>⟨o.dst,o.op,(guardTmp ops o).getD none,i,b.getD i 0⟩::liteOpsF ops b (i+1) os
def liteF:Code→LC
 | .region _ ops draw=>opsL ops draw (liteOpsF ops (if draw then Region.before ops else #[]) 0 ops.toList)
 | .seq a b=> .seq (liteF a) (liteF b)
 | .cond c a b=> .cond c (liteF a) (liteF b)
 | .block id c=> .block id (liteF c)
 | .loop c=> .loop (liteF c)
 | .rangeFunc f ps assign body=> .rangeFunc f ps assign body
 | .exit id=> .exit id
 | .goto l=> .goto l
 | .ret=> .ret
 |_=> .skip
theorem liteOpsF_eq {ops:Array Oper} {b:Array Nat}:∀ {os:List Oper} {i:Nat} {l:List LOp},liteOps ops b i os=some l→liteOpsF ops b i os=l
 |[],i,l,h=>by simp [liteOps] at h;subst h;rfl
 |o::os,i,l,h=>by
  obtain ⟨g,l',hg,hl',_,rfl⟩:=liteOps_cons h
  simp only [liteOpsF,hg,Option.getD_some,liteOpsF_eq hl']
theorem liteF_eq:∀ (c:Code) (lc:LC),lite c=some lc→liteF c=lc:=by
 intro c
 induction c with
 |skip=>intro lc h;cases h;rfl
 |region id ops draw=>
  intro lc h
  unfold lite at h
  split at h
  ·cases h
  ·obtain ⟨l,h1,h2⟩:=Option.map_eq_some_iff.1 h
   subst h2
   simp only [liteF,liteOpsF_eq h1]
 |seq a b iha ihb=>
  intro lc h
  simp only [lite] at h
  split at h
  ·rename_i x y h1 h2;cases h;simp only [liteF,iha x h1,ihb y h2]
  ·cases h
 |cond c a b iha ihb=>
  intro lc h
  simp only [lite] at h
  split at h
  ·rename_i x y h1 h2;cases h;simp only [liteF,iha x h1,ihb y h2]
  ·cases h
 |block id c ih=>
  intro lc h
  simp only [lite] at h
  obtain ⟨l,h1,h2⟩:=Option.map_eq_some_iff.1 h
  subst h2;simp only [liteF,ih l h1]
 |loop c ih=>
  intro lc h
  simp only [lite] at h
  obtain ⟨l,h1,h2⟩:=Option.map_eq_some_iff.1 h
  subst h2;simp only [liteF,ih l h1]
 |rangeFunc f ps asg body _ _=>intro lc h;cases h;rfl
 |exit id=>intro lc h;cases h;rfl
 |goto id=>intro lc h;cases h;rfl
 |label id=>intro lc h;cases h;rfl
 |ret=>intro lc h;cases h;rfl
 |scope c _=>intro lc h;simp [lite] at h
 |refuse s=>intro lc h;simp [lite] at h
def lcOf (P:Program) (f:FuncId):LC:=match P.funcs[f]? with
 |some fn=>match fn.body with
  |some c=>liteF c
  |none=> .skip
 |none=> .skip
def ntOf (P:Program) (f:FuncId):Nat:=match P.funcs[f]? with
 |some fn=>fn.ntmps
 |none=>0
def rsOf (P:Program) (f:FuncId):List ResultVar:=match P.funcs[f]? with
 |some fn=>fn.results.toList
 |none=>[]
theorem FnD.of {f:FuncId} (h:(fnOf P f).isSome=true):FnD P f (ntOf P f) (rsOf P f) (lcOf P f):=by
 obtain ⟨x,hx⟩:=Option.isSome_iff_exists.1 h
 unfold ntOf rsOf lcOf
 unfold fnOf at hx
 split at hx
 ·rename_i fn h1
  split at hx
  ·rename_i c h2
   split at hx
   ·rename_i lc h3
    split at hx
    ·rename_i h4
     simp only [Bool.and_eq_true,Bool.not_eq_true'] at h4
     refine ⟨fn,c,h1,h2,?_,h4.1,h4.2,rfl,rfl⟩
     rw [liteF_eq c lc h3];exact h3
    ·cases hx
   ·cases hx
  ·cases hx
 ·cases hx
open Go.Proofs.Tryz (prog)
theorem mixed:prog.follows .mixedOrders=true:=by kernel_rfl
def trip (P:Program) (f:FuncId):LC×Nat×List ResultVar:=(lcOf P f,ntOf P f,rsOf P f)
def runT (P:Program) (t:LC×Nat×List ResultVar) (args:List V) (H:Hp) (Q:List ResultVar→Post):Prop:=wpL P t.1 (entryT t.2.1 args) H (Q t.2.2)
theorem PCi {f:FuncId} {args:List V} {r:V} (h:runT prog (trip prog f) args [] fun rs=>retP prog rs fun v H=>view H 9 v=some r) (hk:(fnOf prog f).isSome=true:=by kernel_rfl):PC prog f args r:=PC_intro mixed (FnD.of hk) h
theorem SCi {f:FuncId} {args:List V} {H:Hp} {Q:V→Hp→Prop} (h:runT prog (trip prog f) args H fun rs=>retP prog rs Q) (hk:(fnOf prog f).isSome=true:=by kernel_rfl):SC prog f args H Q:=SC_intro mixed (FnD.of hk) h
end Go.Av
namespace Go.Av
open Go.RowKit
theorem wrap_i64 {x:Int} (h: -9223372036854775808≤x) (h':x<9223372036854775808):IntKind.i64.wrap x=x:=by
 simp only [IntKind.wrap,IntKind.bits,IntKind.signed,Bool.true_and,decide_eq_true_eq]
 split<;>rename_i hc<;>simp at hc ⊢<;>omega
theorem wrap_u64' (n:Int):IntKind.u64.wrap n=n%18446744073709551616:=by simp [IntKind.wrap,IntKind.bits,IntKind.signed]
theorem wrap_u32 {x:Int} (h:0≤x) (h':x<4294967296):IntKind.u32.wrap x=x:=by
 rw [IntKind.wrap_u32];omega
theorem wrap_u64 {x:Int} (h:0≤x) (h':x<18446744073709551616):IntKind.u64.wrap x=x:=by
 rw [wrap_u64'];omega
theorem wrap_u8 {x:Int} (h:0≤x) (h':x<256):IntKind.u8.wrap x=x:=by
 rw [IntKind.wrap_u8];omega
theorem wrap_nat_i64 {x:Nat} (h:x<9223372036854775808):IntKind.i64.wrap (x:Int)=x:=wrap_i64 (by omega) (by omega)
theorem wrap_nat_u32 (x:Nat):IntKind.u32.wrap (x:Int)=((x%4294967296:Nat):Int):=by rw [IntKind.wrap_u32];omega
theorem wrap_nat_u64 (x:Nat):IntKind.u64.wrap (x:Int)=((x%18446744073709551616:Nat):Int):=by rw [wrap_u64'];omega
theorem wrap_nat_u8 (x:Nat):IntKind.u8.wrap (x:Int)=((x%256:Nat):Int):=by rw [IntKind.wrap_u8];omega
theorem bv_or (k:Nat) (a b:Nat):(BitVec.ofInt k (a:Int)|||BitVec.ofInt k (b:Int)).toNat=((a%2^k)|||(b%2^k)):=by
 simp [BitVec.toNat_or,BitVec.ofInt_natCast]
theorem bv_and (k:Nat) (a b:Nat):(BitVec.ofInt k (a:Int)&&&BitVec.ofInt k (b:Int)).toNat=((a%2^k)&&&(b%2^k)):=by
 simp [BitVec.toNat_and,BitVec.ofInt_natCast]
theorem or_add (a b n:Nat) (h:b<2^n):(a*2^n)|||b=a*2^n+b:=by
 rw [Nat.mul_comm,Nat.two_pow_add_eq_or_of_lt h]
def bs (l:List UInt8):ByteArray:=⟨l.toArray⟩
theorem bs_nil:({ data:=#[] }:ByteArray)=bs []:=rfl
theorem bs_mk (l:List UInt8):({ data:=⟨l⟩ }:ByteArray)=bs l:=rfl
theorem bs_mk2 (l:List UInt8):({ data:=l.toArray }:ByteArray)=bs l:=rfl
theorem cons_beq_nil (b:UInt8) (l:List UInt8):(b::l==([]:List UInt8))=false:=rfl
theorem nil_beq_cons (b:UInt8) (l:List UInt8):(([]:List UInt8)==b::l)=false:=rfl
theorem bs_size (l:List UInt8):(bs l).size=l.length:=by simp [bs,ByteArray.size]
theorem bs_getD (l:List UInt8) (i:Nat):(bs l).data.getD i 0=l.getD i 0:=by simp [bs,Array.getD_eq_getD_getElem?,List.getD_eq_getElem?_getD]
theorem bs_extract (l:List UInt8) (i j:Nat):(bs l).extract i j=bs ((l.take j).drop i):=by
 have h:((bs l).extract i j).data=(bs ((l.take j).drop i)).data:=by
  rw [ByteArray.data_extract]
  simp [bs,List.drop_take]
 cases h1:(bs l).extract i j;cases h2:bs ((l.take j).drop i)
 rw [h1,h2] at h
 simp at h;rw [h]
theorem ba_loop (s:ByteArray):∀ (k i:Nat) (r:List UInt8),s.size-i=k→ByteArray.toList.loop s i r=r.reverse++s.data.toList.drop i
 |0,i,r,h=>by
  unfold ByteArray.toList.loop
  rw [if_neg (by omega),List.drop_of_length_le (by simp only [Array.length_toList];exact Nat.le_of_sub_eq_zero h)];simp
 |k+1,i,r,h=>by
  unfold ByteArray.toList.loop
  rw [if_pos (by omega),ba_loop s k (i+1) _ (by omega)]
  have hi:i<s.data.toList.length:=by simp only [Array.length_toList];show i<s.size;omega
  rw [List.drop_eq_getElem_cons hi]
  have:s.get! i=s.data.toList[i]:=by
   have hi':i<s.data.size:=by simpa using hi
   simp only [ByteArray.get!,Array.getElem_toList]
   exact getElem!_pos s.data i hi'
  rw [this];simp
theorem bs_toList (l:List UInt8):(bs l).toList=l:=by
 unfold ByteArray.toList
 rw [ba_loop _ _ _ _ rfl];simp [bs]
def bval (l:List UInt8):Nat:=l.foldl (fun a b=>a*256+b.toNat) 0
theorem bval_nil:bval []=0:=rfl
theorem bval_append (l:List UInt8) (b:UInt8):bval (l++[b])=bval l*256+b.toNat:=by simp [bval]
theorem bval_fold (l:List UInt8) (a:Nat):l.foldl (fun a b=>a*256+b.toNat) a=a*256^l.length+bval l:=by
 induction l generalizing a with
 |nil=>simp [bval]
 |cons b l ih=>
  simp only [List.foldl_cons,bval,List.length_cons]
  rw [ih,ih (0*256+b.toNat)]
  rw [Nat.pow_succ]
  grind
theorem bval_cons (b:UInt8) (l:List UInt8):bval (b::l)=b.toNat*256^l.length+bval l:=by
 simp only [bval,List.foldl_cons]
 rw [bval_fold];simp [bval]
theorem bval_lt (l:List UInt8):bval l<256^l.length:=by
 induction l with
 |nil=>simp [bval]
 |cons b l ih=>
  rw [bval_cons,List.length_cons,Nat.pow_succ]
  have:=b.toNat_lt
  have h1:b.toNat*256^l.length≤255*256^l.length:=Nat.mul_le_mul_right _ (by omega)
  omega
theorem bval_take (l:List UInt8) (i:Nat) (h:i<l.length):bval (l.take (i+1))=bval (l.take i)*256+(l.getD i 0).toNat:=by
 rw [List.take_add_one,List.getElem?_eq_getElem h]
 simp only [Option.toList_some]
 rw [bval_append,List.getD_eq_getElem?_getD,List.getElem?_eq_getElem h];rfl
end Go.Av
namespace Go.Av
open Go.RowKit
variable {P:Program} {t:V} {T:List V} {H:Hp} {K:V→Hp→Prop} {Q:Post} {Qo:List V→Hp→Prop}
theorem lt_t {a b:Int} (h:a<b):(a<b)=True:=eq_true h
theorem lt_f {a b:Int} (h:b≤a):(a<b)=False:=eq_false (by omega)
theorem le_t {a b:Int} (h:a≤b):(a≤b)=True:=eq_true h
theorem le_f {a b:Int} (h:b<a):(a≤b)=False:=eq_false (by omega)
theorem eq_t {a b:Int} (h:a=b):(a=b)=True:=eq_true h
theorem eq_f {a b:Int} (h:a≠b):(a=b)=False:=eq_false h
theorem beq_t {a b:Int} (h:a=b):(a==b)=true:=by simp [h]
theorem beq_f {a b:Int} (h:a≠b):(a==b)=false:=by simp [h]
theorem bne_t {a b:Int} (h:a≠b):(a !=b)=true:=by simp [h]
theorem bne_f {a b:Int} (h:a=b):(a !=b)=false:=by simp [h]
theorem nlt_t {a b:Nat} (h:a<b):(a<b)=True:=eq_true h
theorem nlt_f {a b:Nat} (h:b≤a):(a<b)=False:=eq_false (by omega)
theorem nle_t {a b:Nat} (h:a≤b):(a≤b)=True:=eq_true h
theorem nle_f {a b:Nat} (h:b<a):(a≤b)=False:=eq_false (by omega)
theorem neq_t {a b:Nat} (h:a=b):(a=b)=True:=eq_true h
theorem neq_f {a b:Nat} (h:a≠b):(a=b)=False:=eq_false h
theorem beqI {a b:Int}:((a==b)=true)=(a=b):=by simp
theorem bneI {a b:Int}:((a !=b)=true)=(a≠b):=by simp
theorem beqIf {a b:Int}:((a==b)=false)=(a≠b):=by simp
theorem bneIf {a b:Int}:((a !=b)=false)=(a=b):=by simp
def callW (P:Program) (H:Hp) (K:V→Hp→Prop) (g:FuncId) (vs:List V) (o:Option (List V)):Prop:=
 (∃ us r,o=some us∧PC P g us r∧(vs.all (flat 9)=true∨dry 9 r=true)∧K r H)∨SC P g vs H K
def callX (P:Program) (H:Hp) (K:V→Hp→Prop) (g:FuncId) (vs:List V) (o:Option (List V)):Prop:=
 (∃ us r,o=some us∧PC P g us r∧(vs.all (flat 9)=true∨dry 9 r=true)∧K r H)∨(∃ v q,quiet vs H v q∧QC P g vs H v q (vs.flatMap (touch H 9))∧K v (setO H q))
def callP (P:Program) (H:Hp) (K:V→Hp→Prop) (vs:List V):V→Prop
 | .clo g first cap=>callW P H K g (first++vs++cap) (viewArgs H (first++vs++cap))
 | .yld b=>YC P b vs H K
 |_=>False
def callPD (P:Program) (H:Hp) (K:V→Hp→Prop) (vs:List V):V→Prop
 | .clo g first cap=>callX P H K g (first++vs++cap) (viewArgs H (first++vs++cap))
 |_=>False
theorem wpOp_call {fv:Operand} {args:Array Operand} {ts:Array TypeId}:wpOp P T H (.call { callee:= .value fv,args,argTypes:=ts }) K=callP P H K (args.toList.map (ev T)) (ev T fv):=by
 unfold wpOp wpVal
 simp only [evN,evA,evL,wpEff]
 cases h:ev T fv<;>simp only [callP,callW,wpPC,h]
theorem wpOpD_call {fv:Operand} {args:Array Operand} {ts:Array TypeId}:wpOpD P T H (.call { callee:= .value fv,args,argTypes:=ts }) K=callPD P H K (args.toList.map (ev T)) (ev T fv):=by
 unfold wpOpD
 simp only [wpPC,wpQC]
 cases h:ev T fv<;>simp only [callPD,callX,or_self]
theorem callP_clo {vs first cap:List V} {g:FuncId}:callP P H K vs (.clo g first cap)=callW P H K g (first++vs++cap) (viewArgs H (first++vs++cap)):=rfl
theorem callP_yld {vs:List V} {b:Nat}:callP P H K vs (.yld b)=YC P b vs H K:=rfl
theorem callPD_clo {vs first cap:List V} {g:FuncId}:callPD P H K vs (.clo g first cap)=callX P H K g (first++vs++cap) (viewArgs H (first++vs++cap)):=rfl
theorem call_pc {g:FuncId} {vs us:List V} {r:V} (hp:PC P g us r) (hd:vs.all (flat 9)=true∨dry 9 r=true) (hK:K r H):callW P H K g vs (some us):= .inl ⟨us,r,rfl,hp,hd,hK⟩
theorem call_sc {g:FuncId} {vs:List V} {o:Option (List V)} (h:SC P g vs H K):callW P H K g vs o:= .inr h
theorem evT_cons {T:List V} {a:Operand} {l:List Operand}:(a::l).map (ev T)=ev T a::l.map (ev T):=rfl
theorem evT_nil {T:List V}:([]:List Operand).map (ev T)=[]:=rfl
theorem retP_normal {rs:List ResultVar} {R:V→Hp→Prop}:retP P rs R .normal T H=(match resVs (tyOf P) T H rs with
 |some vs=>R (retV vs) H
 |none=>False):=rfl
theorem wr_i64 {x:Int} (h: -9223372036854775808≤x∧x<9223372036854775808):IntKind.i64.wrap x=x:=wrap_i64 h.1 h.2
theorem wr_u32 {x:Int} (h:0≤x∧x<4294967296):IntKind.u32.wrap x=x:=wrap_u32 h.1 h.2
theorem wr_u64 {x:Int} (h:0≤x∧x<18446744073709551616):IntKind.u64.wrap x=x:=wrap_u64 h.1 h.2
theorem wr_u8 {x:Int} (h:0≤x∧x<256):IntKind.u8.wrap x=x:=wrap_u8 h.1 h.2
theorem nc_add {a b:Nat}:(a:Int)+(b:Int)=((a+b:Nat):Int):=rfl
theorem nc_add1 {a:Nat}:(a:Int)+1=((a+1:Nat):Int):=rfl
theorem nc_add2 {a:Nat}:(a:Int)+2=((a+2:Nat):Int):=rfl
theorem nc_1add {a:Nat}:1+(a:Int)=((1+a:Nat):Int):=rfl
theorem nc_mul {a b:Nat}:(a:Int)*(b:Int)=((a*b:Nat):Int):=rfl
theorem nc_sub {a b:Nat} (h:b≤a):(a:Int)-(b:Int)=((a-b:Nat):Int):=by omega
theorem nc_sub1 {a:Nat} (h:1≤a):(a:Int)-1=((a-1:Nat):Int):=by omega
theorem nc_pos {a:Nat}:(0≤(a:Int))=True:=by simp
theorem nc_lt {a b:Nat}:((a:Int)<(b:Int))=(a<b):=by simp
theorem nc_le {a b:Nat}:((a:Int)≤(b:Int))=(a≤b):=by simp
theorem nc_eq {a b:Nat}:((a:Int)=(b:Int))=(a=b):=propext ⟨fun h=>Int.ofNat.inj h,fun h=>by rw [h]⟩
theorem nc_lt0 {a:Nat}:((a:Int)<0)=False:=by simp
theorem nc_gt {a b:Int}:(a>b)=(b<a):=rfl
theorem nc_ge {a b:Int}:(a≥b)=(b≤a):=rfl
theorem nat_gt {a b:Nat}:(a>b)=(b<a):=rfl
theorem nat_ge {a b:Nat}:(a≥b)=(b≤a):=rfl
theorem mod_lt' {a b:Nat} (h:a<b):a%b=a:=Nat.mod_eq_of_lt h
def lpQ {S:Type} (st:S→(Nat→V)→List V) (Inv:S→Hp→Prop) (m:S→Nat) (s:S) (Q:Post):Post:=fun x T' H'=>match x with
 | .normal=>∃ s',T'=st s' (fun k=>T'.getD k undefV)∧Inv s' H'∧m s'<m s
 |x=>Q x T' H'
theorem lp_next {S:Type} {st:S→(Nat→V)→List V} {Inv:S→Hp→Prop} {m:S→Nat} {s:S} {Q:Post} (s':S) (h1:T=st s' (fun k=>T.getD k undefV)) (h2:Inv s' H) (h3:m s'<m s):lpQ st Inv m s Q .normal T H:=⟨s',h1,h2,h3⟩
theorem lpQ_exit {S:Type} {st:S→(Nat→V)→List V} {Inv:S→Hp→Prop} {m:S→Nat} {s:S} {Q:Post} {i:Nat}:lpQ st Inv m s Q (.exit i) T H=Q (.exit i) T H:=rfl
theorem lpQ_goto {S:Type} {st:S→(Nat→V)→List V} {Inv:S→Hp→Prop} {m:S→Nat} {s:S} {Q:Post} {i:Nat}:lpQ st Inv m s Q (.goto i) T H=Q (.goto i) T H:=rfl
theorem lpQ_ret {S:Type} {st:S→(Nat→V)→List V} {Inv:S→Hp→Prop} {m:S→Nat} {s:S} {Q:Post}:lpQ st Inv m s Q .ret T H=Q .ret T H:=rfl
theorem wp_lp {c:LC} {S:Type} (st:S→(Nat→V)→List V) (Inv:S→Hp→Prop) (m:S→Nat) (s0:S) (h1:T=st s0 (fun k=>T.getD k undefV)) (h2:Inv s0 H)
 (step:∀ s J H,Inv s H→wpL P c (st s J) H (lpQ st Inv m s Q)):wpL P (.loop c) T H Q:=
 wp_loop st Inv m s0 h1 h2 fun s J H hi=>wpL_mono c (fun x T' H' hq=>by cases x<;>exact hq) (step s J H hi)
theorem RS:(∀ {a0 a1 a2 a3 a4 a5 a6 a7 a8 a9 a10 a11 a12 a13 a14 a15 a16 a17 a18 a19 a20 a21 a22 a23 a24 a25 a26 a27 a28 a29 a30 a31:V} {xs:List V} {i:Nat} {v:V},(a0::a1::a2::a3::a4::a5::a6::a7::a8::a9::a10::a11::a12::a13::a14::a15::a16::a17::a18::a19::a20::a21::a22::a23::a24::a25::a26::a27::a28::a29::a30::a31::xs).set (i+32) v=a0::a1::a2::a3::a4::a5::a6::a7::a8::a9::a10::a11::a12::a13::a14::a15::a16::a17::a18::a19::a20::a21::a22::a23::a24::a25::a26::a27::a28::a29::a30::a31::xs.set i v)∧
 (∀ {a0 a1 a2 a3 a4 a5 a6 a7 a8 a9 a10 a11 a12 a13 a14 a15 a16 a17 a18 a19 a20 a21 a22 a23 a24 a25 a26 a27 a28 a29 a30 a31:V} {xs:List V} {i:Nat} {v:V},(a0::a1::a2::a3::a4::a5::a6::a7::a8::a9::a10::a11::a12::a13::a14::a15::a16::a17::a18::a19::a20::a21::a22::a23::a24::a25::a26::a27::a28::a29::a30::a31::xs).getD (i+32) v=xs.getD i v)∧
 (∀ {a0 a1 a2 a3 a4 a5 a6 a7:V} {xs:List V} {i:Nat} {v:V},(a0::a1::a2::a3::a4::a5::a6::a7::xs).set (i+8) v=a0::a1::a2::a3::a4::a5::a6::a7::xs.set i v)∧
 (∀ {a0 a1 a2 a3 a4 a5 a6 a7:V} {xs:List V} {i:Nat} {v:V},(a0::a1::a2::a3::a4::a5::a6::a7::xs).getD (i+8) v=xs.getD i v):=
 ⟨by intros;rfl,by intros;simp only [List.getD_cons_succ],by intros;rfl,by intros;simp only [List.getD_cons_succ]⟩
def condG (P:Program) (a b:LC) (T:List V) (H:Hp) (Q:Post):V→Prop
 | .prim (.bool t)=>(t=true→wpL P a T H Q)∧(t=false→wpL P b T H Q)
 |_=>False
theorem wpL_condG {c:Operand} {a b:LC}:wpL P (.cond c a b) (t::T) H Q=condG P a b (t::T) H Q (ev (t::T) c):=by rw [wpL];rfl
theorem condG_t {a b:LC}:condG P a b T H Q (.prim (.bool true))=wpL P a T H Q:=by simp [condG]
theorem condG_f {a b:LC}:condG P a b T H Q (.prim (.bool false))=wpL P b T H Q:=by simp [condG]
theorem condG_d {a b:LC} {p:Prop} [Decidable p]:condG P a b T H Q (.prim (.bool (decide p)))=((p→wpL P a T H Q)∧(¬p→wpL P b T H Q)):=by simp [condG]
def gG (W:List V→Hp→Op→(V→Hp→Prop)→Prop) (want:Bool) (T:List V) (H:Hp) (op:Op) (K:V→Hp→Prop):V→Prop
 | .prim (.bool t)=>(t=want→W T H op K)∧(t= !want→K undefV H)
 | .tup []=>K undefV H
 |_=>False
theorem wpG_someG {W:List V→Hp→Op→(V→Hp→Prop)→Prop} {d:Option Tmp} {op:Op} {i b g:Nat} {want:Bool}:wpG W (t::T) H ⟨d,op,some (g,want),i,b⟩ K=gG W want (t::T) H op K ((t::T).getD g undefV):=rfl
theorem gG_tt {W:List V→Hp→Op→(V→Hp→Prop)→Prop} {op:Op}:gG W true T H op K (.prim (.bool true))=W T H op K:=by simp [gG]
theorem gG_ff {W:List V→Hp→Op→(V→Hp→Prop)→Prop} {op:Op}:gG W false T H op K (.prim (.bool false))=W T H op K:=by simp [gG]
theorem gG_tf {W:List V→Hp→Op→(V→Hp→Prop)→Prop} {op:Op}:gG W true T H op K (.prim (.bool false))=K undefV H:=by simp [gG]
theorem gG_ft {W:List V→Hp→Op→(V→Hp→Prop)→Prop} {op:Op}:gG W false T H op K (.prim (.bool true))=K undefV H:=by simp [gG]
theorem gG_u {W:List V→Hp→Op→(V→Hp→Prop)→Prop} {op:Op} {want:Bool}:gG W want T H op K (.tup [])=K undefV H:=rfl
theorem gG_dt {W:List V→Hp→Op→(V→Hp→Prop)→Prop} {op:Op} {p:Prop} [Decidable p]:gG W true T H op K (.prim (.bool (decide p)))=((p→W T H op K)∧(¬p→K undefV H)):=by simp [gG]
theorem gG_df {W:List V→Hp→Op→(V→Hp→Prop)→Prop} {op:Op} {p:Prop} [Decidable p]:gG W false T H op K (.prim (.bool (decide p)))=((¬p→W T H op K)∧(p→K undefV H)):=by simp [gG]
theorem gG_v {W:List V→Hp→Op→(V→Hp→Prop)→Prop} {op:Op} {want:Bool}:gG W want T H op K undefV=K undefV H:=rfl
theorem tn1:Int.toNat 1=1:=rfl
theorem tn2:Int.toNat 2=2:=rfl
theorem RX:(Int.toNat 0=0)∧(Int.toNat 1=1)∧(Int.toNat 2=2)∧(Int.toNat 3=3)∧(Int.toNat 4=4)∧(Int.toNat 5=5)∧(Int.toNat 6=6)∧(Int.toNat 7=7)∧
 (∀ {α β:Type} (f:β→α→β) (b:β) (a:α) (l:List α),(a::l).foldl f b=l.foldl f (f b a))∧(∀ {α β:Type} (f:β→α→β) (b:β),([]:List α).foldl f b=b)∧
 (∀ {α:Type} (a:α) (l:List α),(a::l).length=l.length+1)∧(∀ n:Nat,0+n=n)∧(∀ p:Prop,(p∧p)=p)∧(∀ {α:Type} (l:List α),l.drop 0=l)∧
 (∀ {α:Type} (a:α) (l:List α) (n:Nat),(a::l).take (n+1)=a::l.take n)∧(∀ {α:Type} (l:List α),l.take 0=[])∧(∀ {α:Type} (a:α) (l:List α) (n:Nat),(a::l).drop (n+1)=l.drop n)∧
 (∀ {α:Type} (n:Nat),([]:List α).drop n=[])∧(∀ {α:Type} (n:Nat),([]:List α).take n=[])∧(∀ (a b:Nat) (l:List Nat),(a::l).contains b=(b==a||l.contains b))∧(∀ b:Nat,([]:List Nat).contains b=false)∧
 (∀ b:Bool,(b&&false)=false)∧(∀ b:Bool,(false&&b)=false)∧(∀ b:Bool,(true&&b)=b)∧(∀ b:Bool,(b||true)=true)∧(∀ b:Bool,(true||b)=true)∧(∀ b:Bool,(false||b)=b):=
 ⟨rfl,rfl,rfl,rfl,rfl,rfl,rfl,rfl,fun _ _ _ _=>rfl,fun _ _=>rfl,fun _ _=>rfl,Nat.zero_add,and_self,fun _=>rfl,fun _ _ _=>rfl,fun _=>List.take_zero,fun _ _ _=>rfl,fun _=>List.drop_nil,fun _=>List.take_nil,
  fun _ _ _=>List.contains_cons,fun _=>rfl,Bool.and_false,Bool.false_and,Bool.true_and,Bool.or_true,Bool.true_or,Bool.false_or⟩
theorem retV_nil:retV []= .tup []:=rfl
theorem retV_two {a b:V} {l:List V}:retV (a::b::l)= .tup (a::b::l):=rfl
theorem RE:type_of%(And.intro @readAt.eq_1 (And.intro @writeAt.eq_1 (And.intro @wpStore.eq_1 (And.intro @appP.eq_1 (And.intro @copyP.eq_1 (And.intro @resVs.eq_1 (And.intro @resVs.eq_2 (And.intro @resV.eq_1 (And.intro @resV.eq_2 (And.intro @retV.eq_1 (And.intro retV_nil @retV_two))))))))))):=
 And.intro @readAt.eq_1 (And.intro @writeAt.eq_1 (And.intro @wpStore.eq_1 (And.intro @appP.eq_1 (And.intro @copyP.eq_1 (And.intro @resVs.eq_1 (And.intro @resVs.eq_2 (And.intro @resV.eq_1 (And.intro @resV.eq_2 (And.intro @retV.eq_1 (And.intro retV_nil @retV_two))))))))))
theorem RK:(∀ {α:Type} (a:α),(a=a)=True)∧type_of% @clash.eq_1:=⟨fun _=>eq_self _,@clash.eq_1⟩
theorem RN:(∀ (k:Nat) (l:List V),entryT k l=l++List.replicate (k-l.length) undefV)∧(∀ (a:V) (l:List V),(a::l).length=l.length+1)∧(([]:List V).length=0)∧
 (∀ (n:Nat) (a:V),List.replicate (n+1) a=a::List.replicate n a)∧(∀ a:V,List.replicate 0 a=[])∧(∀ (a:V) (l m:List V),a::l++m=a::(l++m))∧(∀ m:List V,[]++m=m):=
 ⟨fun _ _=>rfl,fun _ _=>rfl,rfl,fun _ _=>rfl,fun _=>rfl,fun _ _ _=>rfl,fun _=>rfl⟩
theorem cX {P:Program} {H:Hp} {K:V→Hp→Prop} {g:FuncId} {vs us:List V} {r:V} {Q:Prop} (hp:PC P g us r) (hK:K r H) (hd:vs.all (flat 9)=true∨dry 9 r=true:=by first|exact .inl rfl|exact .inr rfl):
 (∃ us' r',some us=some us'∧PC P g us' r'∧(vs.all (flat 9)=true∨dry 9 r'=true)∧K r' H)∨Q:= .inl ⟨us,r,rfl,hp,hd,hK⟩
theorem RO:(∀ {α:Type} (a d:α),(some a).getD d=a)∧(∀ {α:Type} (d:α),(none:Option α).getD d=d):=⟨fun _ _=>rfl,fun _=>rfl⟩
end Go.Av
namespace Go.Av
open Go.RowKit
theorem RW:type_of% @wpL_skip∧
 type_of% @wpL_opsF∧
 type_of% @wpL_opsT∧
 type_of% @wpL_seq∧
 type_of% @wpL_block∧
 type_of% @wpL_exit∧
 type_of% @wpL_goto∧
 type_of% @wpL_ret∧
 type_of% @seqQ_normal∧
 type_of% @seqQ_exit∧
 type_of% @seqQ_goto∧
 type_of% @seqQ_ret∧
 type_of% @blockQ_normal∧
 type_of% @blockQ_exit∧
 type_of% @blockQ_goto∧
 type_of% @blockQ_ret∧
 type_of% @opsK_eq∧
 type_of% @opsKD_eq∧
 type_of% @putT_some∧
 type_of% @putT_none∧
 type_of% @wpOps_nil∧
 type_of% @wpOps_cons∧
 type_of% @wpOpsD_nil∧
 type_of% @wpOpsD_cons∧
 type_of% @footQ_none∧
 type_of% @footQ_some∧
 type_of% @wpG_none∧
 type_of% @ev_tmp∧
 type_of% @ev_const∧
 type_of% @ev_func∧
 type_of% @ev_global∧
 type_of% @orP_some∧
 type_of% @slP_some∧
 type_of% @orV_some∧
 type_of% @orA_some∧
 type_of% @wpOp_move∧
 type_of% @wpOp_assign∧
 type_of% @wpOp_pick∧
 type_of% @pickV_eq∧
 type_of% @wpOp_build∧
 type_of% @wpOp_binOp∧
 type_of% @wpOp_unOp∧
 type_of% @wpOp_makeFunc∧
 type_of% @wpOp_fieldAddr∧
 type_of% @wpOp_field∧
 type_of% @wpOp_indexAddr∧
 type_of% @wpOp_index∧
 type_of% @wpOp_slice∧
 type_of% @wpOp_extract∧
 type_of% @extractV_tup∧
 type_of% @wpOp_len∧
 type_of% @wpOp_cap∧
 type_of% @wpOp_max∧
 type_of% @wpOp_min∧
 type_of% @wpOp_load∧
 type_of% @wpOp_alloc∧
 type_of% @wpOp_box∧
 type_of% @wpOp_makeSlice∧
 type_of% @wpOp_buildSlice∧
 type_of% @wpOp_store∧
 type_of% @wpOp_convert∧
 type_of% @orE_some∧
 type_of% @orE_none∧
 type_of% @wpOpD_move∧
 type_of% @wpOpD_assign∧
 type_of% @wpOpD_pick∧
 type_of% @wpOpD_build∧
 type_of% @wpOpD_binOp∧
 type_of% @wpOpD_unOp∧
 type_of% @wpOpD_convert∧
 type_of% @wpOpD_makeFunc∧
 type_of% @wpOpD_fieldAddr∧
 type_of% @wpOpD_field∧
 type_of% @wpOpD_indexAddr∧
 type_of% @wpOpD_index∧
 type_of% @wpOpD_slice∧
 type_of% @wpOpD_extract∧
 type_of% @wpOpD_builtin∧
 type_of% @wpOpD_load∧
 type_of% @wpOpD_alloc∧
 type_of% @wpOpD_box∧
 type_of% @wpOpD_makeSlice∧
 type_of% @wpOpD_buildSlice∧
 type_of% @wpOpD_store∧
 type_of% @List.set_cons_succ.{0}∧
 type_of% @List.set_cons_zero.{0}∧
 type_of% @List.getD_cons_succ.{0}∧
 type_of% @List.getD_cons_zero.{0}∧
 type_of% @List.getElem?_toArray.{0}∧
 type_of% @List.getElem?_cons_zero.{0}∧
 type_of% @List.getElem?_cons_succ.{0}∧
 type_of% @true_and∧
 type_of% @if_true.{1}∧
 type_of% @Bool.false_eq_true∧
 type_of% @Bool.true_eq_false∧
 type_of% @if_false.{1}∧
 type_of% @List.length_nil.{0}∧
 type_of% @List.length_singleton.{0}∧
 type_of% @get_zero∧
 type_of% @get_succ∧
 type_of% @writeAt_one∧
 type_of% @cells_prim∧
 type_of% @cells_agg∧
 type_of% @cells_lst∧
 type_of% @cells_sref∧
 type_of% @cells_ptr∧
 type_of% @cells_clo∧
 type_of% @cellV_prim∧
 type_of% @cellV_lst∧
 type_of% @cellV_sref∧
 type_of% @cellV_ptr∧
 type_of% @cellV_clo∧
 type_of% @List.all_cons.{0}∧
 type_of% @List.all_nil.{0}∧
 type_of% @Bool.and_true∧
 type_of% @Bool.and_self∧
 type_of% @Option.map_some.{0,0}∧
 type_of% @Option.map_none.{0,0}∧
 type_of% @true_implies∧
 type_of% @false_implies∧
 type_of% @and_true∧
 type_of% @decide_eq_true_eq∧
 type_of% @decide_eq_false_iff_not∧
 type_of% @Bool.not_true∧
 type_of% @Bool.not_false∧
 type_of% @beq_self_eq_true.{0}∧
 type_of% @not_true_eq_false∧
 type_of% @not_false_eq_true∧
 type_of% @decide_true∧
 type_of% @decide_false∧
 type_of% @decide_not∧
 type_of% @foot_move∧
 type_of% @foot_assign∧
 type_of% @foot_pick∧
 type_of% @foot_build∧
 type_of% @foot_binOp∧
 type_of% @foot_unOp∧
 type_of% @foot_makeFunc∧
 type_of% @foot_fieldAddr∧
 type_of% @foot_field∧
 type_of% @foot_indexAddr∧
 type_of% @foot_index∧
 type_of% @foot_slice∧
 type_of% @foot_extract∧
 type_of% @foot_len∧
 type_of% @foot_cap∧
 type_of% @foot_max∧
 type_of% @foot_min∧
 type_of% @foot_load∧
 type_of% @foot_convert∧
 type_of% @foot_store∧
 type_of% @foot_alloc∧
 type_of% @foot_box∧
 type_of% @foot_makeSlice∧
 type_of% @foot_buildSlice∧
 type_of% @foot_append∧
 type_of% @foot_copy∧
 type_of% @foot_clear∧
 type_of% @foot_call∧
 type_of% @footC_clo∧
 type_of% @blkOf_prim∧
 type_of% @blkOf_ivp∧
 type_of% @blkOf_lst∧
 type_of% @blkOf_agg∧
 type_of% @blkOf_tup∧
 type_of% @blkOf_ptr∧
 type_of% @blkOf_sref∧
 type_of% @clash_rr∧
 type_of% @clash_nl∧
 type_of% @clash_nr∧
 type_of% @clash_bef∧
 type_of% @Nat.testBit_eq_decide_div_mod_eq∧
 type_of% @touch_prim∧
 type_of% @touch_lst∧
 type_of% @touch_agg∧
 type_of% @touch_tup∧
 type_of% @touch_clo∧
 type_of% @touch_ptr∧
 type_of% @touchB_row∧
 type_of% @hasPtr_prim∧
 type_of% @hasPtr_lst∧
 type_of% @hasPtr_sref∧
 type_of% @touch_undef∧
 type_of%hasTop_undef∧
 type_of% @hasPtr_undef∧
 type_of% @hasTop_prim∧
 type_of% @hasTop_lst∧
 type_of% @hasTop_sref∧
 type_of% @hasTop_agg∧
 type_of% @hasTop_tup∧
 type_of% @hasTop_clo∧
 type_of% @hasTop_ptr∧
 type_of% @hasTop_yld∧
 type_of% @hasPtr_agg∧
 type_of% @hasPtr_tup∧
 type_of% @hasPtr_clo∧
 type_of% @hasPtr_ptr∧
 type_of% @hasPtr_yld∧
 type_of% @cells_mpr∧
 type_of% @cellV_mpr∧
 type_of% @blkOf_mpr∧
 type_of% @touch_mpr∧
 type_of% @hasPtr_mpr∧
 type_of% @hasTop_mpr∧
 type_of% @foot_lookup∧
 type_of% @foot_mapUpdate∧
 type_of% @foot_insert∧
 type_of% @foot_makeMap∧
 type_of% @wpOp_lookup∧
 type_of% @wpOp_makeMap∧
 type_of% @wpOp_mapUpdate∧
 type_of% @wpOp_insert∧
 type_of% @wpOpD_lookup∧
 type_of% @wpOpD_makeMap∧
 type_of% @wpOpD_mapUpdate∧
 type_of% @wpOpD_insert∧
 type_of% @view_prim∧
 type_of% @view_lst∧
 type_of% @view_clo∧
 type_of% @view_agg∧
 type_of% @view_tup∧
 type_of% @viewL_nil∧
 type_of% @viewL_cons∧
 type_of% @consO_some∧
 type_of% @viewArgs_nil∧
 type_of% @viewArgs_cons∧
 type_of% @wpOp_append∧
 type_of% @wpOp_copy∧
 type_of% @List.any_nil.{0}∧
 type_of% @List.any_cons.{0}∧
 type_of% @Bool.or_self∧
 type_of% @Bool.or_false∧
 type_of% @List.flatMap_cons.{0,0}∧
 type_of% @List.flatMap_nil.{0,0}∧
 type_of% @List.append_nil.{0}∧
 type_of% @List.nil_append.{0}∧
 type_of% @List.map_cons.{0,0}∧
 type_of% @List.map_nil.{0,0}∧
 type_of% @cons_beq_nil∧
 type_of% @nil_beq_cons∧
 type_of% @bs_nil∧
 type_of% @bs_mk∧
 type_of% @bs_mk2∧
 type_of% @bs_size∧
 type_of% @bs_getD∧
 type_of% @bs_extract∧
 type_of% @bs_toList∧
 type_of% @Int.toNat_natCast∧
 type_of% @wpL_condG∧
 type_of% @condG_t∧
 type_of% @condG_f∧
 type_of% @condG_d∧
 type_of% @wpG_someG∧
 type_of% @gG_tt∧
 type_of% @gG_ff∧
 type_of% @gG_tf∧
 type_of% @gG_ft∧
 type_of% @gG_u∧
 type_of% @gG_v∧
 type_of% @gG_dt∧
 type_of% @gG_df∧
 type_of% @nc_add∧
 type_of% @nc_add1∧
 type_of% @nc_add2∧
 type_of% @nc_1add∧
 type_of% @nc_mul∧
 type_of% @nc_sub∧
 type_of% @nc_sub1∧
 type_of% @nc_pos∧
 type_of% @nc_lt∧
 type_of% @nc_le∧
 type_of% @nc_eq∧
 type_of% @nc_lt0∧
 type_of% @nc_gt∧
 type_of% @nc_ge∧
 type_of% @nat_gt∧
 type_of% @nat_ge∧
 type_of% @mod_lt'∧
 type_of% @lpQ_exit∧
 type_of% @lpQ_goto∧
 type_of% @lpQ_ret∧
 type_of% @wrap_nat_u8∧
 type_of% @wrap_nat_u32∧
 type_of% @wrap_nat_u64∧
 type_of% @wpOp_call∧
 type_of% @wpOpD_call∧
 type_of% @callP_clo∧
 type_of% @callP_yld∧
 type_of% @callPD_clo∧
 type_of% @evT_cons∧
 type_of% @evT_nil∧
 type_of% @retP_eq∧
 type_of% @retP_normal∧
 type_of% @wr_i64∧
 type_of% @wr_u8∧
 type_of% @wr_u32∧
 type_of% @wr_u64∧
 type_of% @List.cons_append.{0}∧
 type_of% @get_app_len∧
 type_of% @ne_eq.{1}∧
 type_of% @beqI∧
 type_of% @bneI∧
 type_of% @beqIf∧
 type_of% @bneIf:=
 ⟨@wpL_skip,@wpL_opsF,@wpL_opsT,@wpL_seq,@wpL_block,@wpL_exit,@wpL_goto,@wpL_ret,@seqQ_normal,@seqQ_exit,@seqQ_goto,@seqQ_ret,@blockQ_normal,@blockQ_exit,@blockQ_goto,@blockQ_ret,@opsK_eq,@opsKD_eq,@putT_some,@putT_none,@wpOps_nil,@wpOps_cons,@wpOpsD_nil,@wpOpsD_cons,@footQ_none,@footQ_some,@wpG_none,@ev_tmp,@ev_const,@ev_func,@ev_global,@orP_some,@slP_some,@orV_some,@orA_some,@wpOp_move,@wpOp_assign,@wpOp_pick,@pickV_eq,@wpOp_build,@wpOp_binOp,@wpOp_unOp,@wpOp_makeFunc,@wpOp_fieldAddr,@wpOp_field,@wpOp_indexAddr,@wpOp_index,@wpOp_slice,@wpOp_extract,@extractV_tup,@wpOp_len,@wpOp_cap,@wpOp_max,@wpOp_min,@wpOp_load,@wpOp_alloc,@wpOp_box,@wpOp_makeSlice,@wpOp_buildSlice,@wpOp_store,@wpOp_convert,@orE_some,@orE_none,@wpOpD_move,@wpOpD_assign,@wpOpD_pick,@wpOpD_build,@wpOpD_binOp,@wpOpD_unOp,@wpOpD_convert,@wpOpD_makeFunc,@wpOpD_fieldAddr,@wpOpD_field,@wpOpD_indexAddr,@wpOpD_index,@wpOpD_slice,@wpOpD_extract,@wpOpD_builtin,@wpOpD_load,@wpOpD_alloc,@wpOpD_box,@wpOpD_makeSlice,@wpOpD_buildSlice,@wpOpD_store,@List.set_cons_succ.{0},@List.set_cons_zero.{0},@List.getD_cons_succ.{0},@List.getD_cons_zero.{0},@List.getElem?_toArray.{0},@List.getElem?_cons_zero.{0},@List.getElem?_cons_succ.{0},@true_and,@if_true.{1},@Bool.false_eq_true,@Bool.true_eq_false,@if_false.{1},@List.length_nil.{0},@List.length_singleton.{0},@get_zero,@get_succ,@writeAt_one,@cells_prim,@cells_agg,@cells_lst,@cells_sref,@cells_ptr,@cells_clo,@cellV_prim,@cellV_lst,@cellV_sref,@cellV_ptr,@cellV_clo,@List.all_cons.{0},@List.all_nil.{0},@Bool.and_true,@Bool.and_self,@Option.map_some.{0,0},@Option.map_none.{0,0},@true_implies,@false_implies,@and_true,@decide_eq_true_eq,@decide_eq_false_iff_not,@Bool.not_true,@Bool.not_false,@beq_self_eq_true.{0},@not_true_eq_false,@not_false_eq_true,@decide_true,@decide_false,@decide_not,@foot_move,@foot_assign,@foot_pick,@foot_build,@foot_binOp,@foot_unOp,@foot_makeFunc,@foot_fieldAddr,@foot_field,@foot_indexAddr,@foot_index,@foot_slice,@foot_extract,@foot_len,@foot_cap,@foot_max,@foot_min,@foot_load,@foot_convert,@foot_store,@foot_alloc,@foot_box,@foot_makeSlice,@foot_buildSlice,@foot_append,@foot_copy,@foot_clear,@foot_call,@footC_clo,@blkOf_prim,@blkOf_ivp,@blkOf_lst,@blkOf_agg,@blkOf_tup,@blkOf_ptr,@blkOf_sref,@clash_rr,@clash_nl,@clash_nr,@clash_bef,@Nat.testBit_eq_decide_div_mod_eq,@touch_prim,@touch_lst,@touch_agg,@touch_tup,@touch_clo,@touch_ptr,@touchB_row,@hasPtr_prim,@hasPtr_lst,@hasPtr_sref,@touch_undef,hasTop_undef,@hasPtr_undef,@hasTop_prim,@hasTop_lst,@hasTop_sref,@hasTop_agg,@hasTop_tup,@hasTop_clo,@hasTop_ptr,@hasTop_yld,@hasPtr_agg,@hasPtr_tup,@hasPtr_clo,@hasPtr_ptr,@hasPtr_yld,@cells_mpr,@cellV_mpr,@blkOf_mpr,@touch_mpr,@hasPtr_mpr,@hasTop_mpr,@foot_lookup,@foot_mapUpdate,@foot_insert,@foot_makeMap,@wpOp_lookup,@wpOp_makeMap,@wpOp_mapUpdate,@wpOp_insert,@wpOpD_lookup,@wpOpD_makeMap,@wpOpD_mapUpdate,@wpOpD_insert,@view_prim,@view_lst,@view_clo,@view_agg,@view_tup,@viewL_nil,@viewL_cons,@consO_some,@viewArgs_nil,@viewArgs_cons,@wpOp_append,@wpOp_copy,@List.any_nil.{0},@List.any_cons.{0},@Bool.or_self,@Bool.or_false,@List.flatMap_cons.{0,0},@List.flatMap_nil.{0,0},@List.append_nil.{0},@List.nil_append.{0},@List.map_cons.{0,0},@List.map_nil.{0,0},@cons_beq_nil,@nil_beq_cons,@bs_nil,@bs_mk,@bs_mk2,@bs_size,@bs_getD,@bs_extract,@bs_toList,@Int.toNat_natCast,@wpL_condG,@condG_t,@condG_f,@condG_d,@wpG_someG,@gG_tt,@gG_ff,@gG_tf,@gG_ft,@gG_u,@gG_v,@gG_dt,@gG_df,@nc_add,@nc_add1,@nc_add2,@nc_1add,@nc_mul,@nc_sub,@nc_sub1,@nc_pos,@nc_lt,@nc_le,@nc_eq,@nc_lt0,@nc_gt,@nc_ge,@nat_gt,@nat_ge,@mod_lt',@lpQ_exit,@lpQ_goto,@lpQ_ret,@wrap_nat_u8,@wrap_nat_u32,@wrap_nat_u64,@wpOp_call,@wpOpD_call,@callP_clo,@callP_yld,@callPD_clo,@evT_cons,@evT_nil,@retP_eq,@retP_normal,@wr_i64,@wr_u8,@wr_u32,@wr_u64,@List.cons_append.{0},@get_app_len,@ne_eq.{1},@beqI,@bneI,@beqIf,@bneIf⟩
theorem RB:(∀ {a b:Int},a<b→(a<b)=True)∧
 (∀ {a b:Int},b≤a→(a<b)=False)∧
 (∀ {a b:Int},a≤b→(a≤b)=True)∧
 (∀ {a b:Int},b<a→(a≤b)=False)∧
 (∀ {a b:Int},a=b→(a=b)=True)∧
 (∀ {a b:Int},a≠b→(a=b)=False)∧
 (∀ {a b:Int},a=b→(a==b)=true)∧
 (∀ {a b:Int},a≠b→(a==b)=false)∧
 (∀ {a b:Int},a≠b→(a !=b)=true)∧
 (∀ {a b:Int},a=b→(a !=b)=false)∧
 (∀ {a b:Nat},a<b→(a<b)=True)∧
 (∀ {a b:Nat},b≤a→(a<b)=False)∧
 (∀ {a b:Nat},a≤b→(a≤b)=True)∧
 (∀ {a b:Nat},b<a→(a≤b)=False)∧
 (∀ {a b:Nat},a=b→(a=b)=True)∧
 (∀ {a b:Nat},a≠b→(a=b)=False):=
 ⟨@lt_t,@lt_f,@le_t,@le_f,@eq_t,@eq_f,@beq_t,@beq_f,@bne_t,@bne_f,@nlt_t,@nlt_f,@nle_t,@nle_f,@neq_t,@neq_f⟩
theorem RF:type_of% @evN.eq_def∧
 type_of% @evA.eq_def∧
 type_of% @evL.eq_def∧
 type_of% @binV.eq_def∧
 type_of% @unV.eq_def∧
 type_of% @intOfV.eq_def∧
 type_of% @lenV.eq_def∧
 type_of% @TK.isAgg.eq_def∧
 type_of% @sliceV.eq_def∧
 type_of% @elemsOf.eq_def∧
 type_of% @added.eq_def∧
 type_of% @view.eq_1∧
 type_of% @view.eq_2∧
 type_of% @view.eq_3∧
 type_of% @view.eq_4∧
 type_of% @view.eq_5∧
 type_of% @view.eq_6∧
 type_of% @view.eq_7∧
 type_of% @view.eq_8∧
 type_of% @view.viewL.eq_1∧
 type_of% @view.viewL.eq_2∧
 type_of% @view.viewLL.eq_1∧
 type_of% @view.viewLL.eq_2:=
 ⟨@evN.eq_def,@evA.eq_def,@evL.eq_def,@binV.eq_def,@unV.eq_def,@intOfV.eq_def,@lenV.eq_def,@TK.isAgg.eq_def,@sliceV.eq_def,@elemsOf.eq_def,@added.eq_def,@view.eq_1,@view.eq_2,@view.eq_3,@view.eq_4,@view.eq_5,@view.eq_6,@view.eq_7,@view.eq_8,@view.viewL.eq_1,@view.viewL.eq_2,@view.viewLL.eq_1,@view.viewLL.eq_2⟩
end Go.Av
