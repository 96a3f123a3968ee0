/- Helping texts: Ax, Bb, Ca0, Ca. -/
import Derived.Test.YtkmlhdfpcjkekaaGreatKAr
import Derived.Test.YtkmlhdfpcjkekaaGreatProg
set_option linter.unusedSimpArgs false
set_option linter.unusedVariables false
set_option maxRecDepth 100000
set_option maxHeartbeats 16000000
namespace Go.Av
open Go.RowKit
variable {P:Program}
def QK (P:Program) (f:FuncId):Option (Func×Code×LC):=
 match P.funcs[f]? with
 |some fn=>match fn.body with
  |some c=>match mf c with
   |some lc=>if r8 c&& !(fn.name== "runtime.NumGoroutine") then some (fn,c,lc) else none
   |none=>none
  |none=>none
 |none=>none
def ws (ops:Array Oper) (b:Array Nat):Nat→List Oper→List LOp
 |_,[]=>[]
 |i,o::os=>⟨o.dst,o.op,(oe ops o).getD none,i,b.getD i 0⟩::ws ops b (i+1) os
def oX:Code→LC
 | .region _ ops draw=>Qp ops draw (ws ops (if draw then Region.before ops else #[]) 0 ops.toList)
 | .seq a b=> .seq (oX a) (oX b)
 | .cond c a b=> .cond c (oX a) (oX b)
 | .block id c=> .block id (oX c)
 | .loop c=> .loop (oX c)
 | .rangeFunc f ps assign body=> .rangeFunc f ps assign body
 | .exit id=> .exit id
 | .goto l=> .goto l
 | .ret=> .ret
 |_=> .skip
theorem yC {ops:Array Oper} {b:Array Nat}:∀ {os:List Oper} {i:Nat} {l:List LOp},kg ops b i os=some l→ws ops b i os=l
 |[],i,l,h=>by simp [kg] at h;subst h;rfl
 |o::os,i,l,h=>by
  obtain ⟨g,l',hg,hl',_,rfl⟩:=n8 h
  simp only [ws,hg,bG,yC hl']
theorem AE:∀ (c:Code) (lc:LC),mf c=some lc→oX c=lc:=by
 intro c
 induction c with
 |skip=>intro lc h;cases h;rfl
 |region id ops draw=>
  intro lc h
  unfold mf at h
  split at h
  ·cases h
  ·obtain ⟨l,h1,h2⟩:=Option.map_eq_some_iff.1 h
   subst h2
   simp only [oX,yC h1]
 |seq a b iha ihb=>
  intro lc h
  simp only [mf] at h
  split at h
  ·rename_i x y h1 h2;cases h;simp only [oX,iha x h1,ihb y h2]
  ·cases h
 |cond c a b iha ihb=>
  intro lc h
  simp only [mf] at h
  split at h
  ·rename_i x y h1 h2;cases h;simp only [oX,iha x h1,ihb y h2]
  ·cases h
 |block id c ih=>
  intro lc h
  simp only [mf] at h
  obtain ⟨l,h1,h2⟩:=Option.map_eq_some_iff.1 h
  subst h2;simp only [oX,ih l h1]
 |loop c ih=>
  intro lc h
  simp only [mf] at h
  obtain ⟨l,h1,h2⟩:=Option.map_eq_some_iff.1 h
  subst h2;simp only [oX,ih l h1]
 |rangeFunc f ps asg body _ _=>intro lc h;cases h;rfl
 |exit id=>intro lc h;cases h;rfl
 |goto id=>intro lc h;cases h;rfl
 |label id=>intro lc h;cases h;rfl
 |ret=>intro lc h;cases h;rfl
 |scope c _=>intro lc h;simp [mf] at h
 |refuse s=>intro lc h;simp [mf] at h
def OH (P:Program) (f:FuncId):LC:=match P.funcs[f]? with
 |some fn=>match fn.body with
  |some c=>oX c
  |none=> .skip
 |none=> .skip
def Ik (P:Program) (f:FuncId):Nat:=match P.funcs[f]? with
 |some fn=>fn.ntmps
 |none=>0
def H8 (P:Program) (f:FuncId):List ResultVar:=match P.funcs[f]? with
 |some fn=>fn.results.toList
 |none=>[]
theorem FnD.of {f:FuncId} (h:(QK P f).isSome=true):FnD P f (Ik P f) (H8 P f) (OH P f):=by
 obtain ⟨x,hx⟩:=Option.isSome_iff_exists.1 h
 unfold Ik H8 OH
 unfold QK at hx
 split at hx
 ·rename_i fn h1
  split at hx
  ·rename_i c h2
   split at hx
   ·rename_i lc h3
    split at hx
    ·rename_i h4
     simp only [Bool.and_eq_true,Bool.not_eq_true'] at h4
     refine ⟨fn,c,h1,h2,?_,h4.1,h4.2,rfl,rfl⟩
     rw [AE c lc h3];exact h3
    ·cases hx
   ·cases hx
  ·cases hx
 ·cases hx
open Go.Proofs.Tryz (prog)
theorem rE:prog.follows .mixedOrders=true:=by kernel_rfl
def bL (P:Program) (f:FuncId):LC×Nat×List ResultVar:=(OH P f,Ik P f,H8 P f)
def bM (P:Program) (t:LC×Nat×List ResultVar) (args:List V) (H:Hp) (Q:List ResultVar→kF):Prop:=wpL P t.1 (vu t.2.1 args) H (Q t.2.2)
theorem PCi {f:FuncId} {args:List V} {r:V} (h:bM prog (bL prog f) args [] fun rs=>ru prog rs fun v H=>view H 9 v=some r) (hk:(QK prog f).isSome=true:=by kernel_rfl):PC prog f args r:=BR rE (FnD.of hk) h
theorem SCi {f:FuncId} {args:List V} {H:Hp} {Q:V→Hp→Prop} (h:bM prog (bL prog f) args H fun rs=>ru prog rs Q) (hk:(QK prog f).isSome=true:=by kernel_rfl):SC prog f args H Q:=HG rE (FnD.of hk) h
end Go.Av
namespace Go.Av
open Go.RowKit
theorem jd {x:Int} (h: -9223372036854775808≤x) (h':x<9223372036854775808):IntKind.i64.wrap x=x:=by
 simp only [IntKind.wrap,IntKind.bits,IntKind.signed,Bool.true_and,aE]
 split<;>rename_i hc<;>simp at hc ⊢<;>omega
theorem uh (n:Int):IntKind.u64.wrap n=n%18446744073709551616:=by simp [IntKind.wrap,IntKind.bits,IntKind.signed]
theorem wrap_u32 {x:Int} (h:0≤x) (h':x<4294967296):IntKind.u32.wrap x=x:=by
 rw [IntKind.wrap_u32];omega
theorem Mz {x:Int} (h:0≤x) (h':x<18446744073709551616):IntKind.u64.wrap x=x:=by
 rw [uh];omega
theorem wrap_u8 {x:Int} (h:0≤x) (h':x<256):IntKind.u8.wrap x=x:=by
 rw [IntKind.wrap_u8];omega
theorem nN {x:Nat} (h:x<9223372036854775808):IntKind.i64.wrap (x:Int)=x:=jd (by omega) (by omega)
theorem vH (x:Nat):IntKind.u32.wrap (x:Int)=((x%4294967296:Nat):Int):=by rw [IntKind.wrap_u32];omega
theorem kS (x:Nat):IntKind.u64.wrap (x:Int)=((x%18446744073709551616:Nat):Int):=by rw [uh];omega
theorem qs (x:Nat):IntKind.u8.wrap (x:Int)=((x%256:Nat):Int):=by rw [IntKind.wrap_u8];omega
theorem Ht (k:Nat) (a b:Nat):(BitVec.ofInt k (a:Int)|||BitVec.ofInt k (b:Int)).toNat=((a%2^k)|||(b%2^k)):=by
 simp [BitVec.toNat_or,BitVec.ofInt_natCast]
theorem SO (k:Nat) (a b:Nat):(BitVec.ofInt k (a:Int)&&&BitVec.ofInt k (b:Int)).toNat=((a%2^k)&&&(b%2^k)):=by
 simp [BitVec.toNat_and,BitVec.ofInt_natCast]
theorem As (a b n:Nat) (h:b<2^n):(a*2^n)|||b=a*2^n+b:=by
 rw [Nat.mul_comm,Nat.two_pow_add_eq_or_of_lt h]
def bs (l:List UInt8):ByteArray:=⟨l.toArray⟩
theorem kf:({ data:=#[] }:ByteArray)=bs []:=rfl
theorem lM (l:List UInt8):({ data:=⟨l⟩ }:ByteArray)=bs l:=rfl
theorem j7 (l:List UInt8):({ data:=l.toArray }:ByteArray)=bs l:=rfl
theorem cK (b:UInt8) (l:List UInt8):(b::l==([]:List UInt8))=false:=rfl
theorem cJ (b:UInt8) (l:List UInt8):(([]:List UInt8)==b::l)=false:=rfl
theorem fP (l:List UInt8):(bs l).size=l.length:=by simp [bs,ByteArray.size]
theorem it (l:List UInt8) (i:Nat):(bs l).data.getD i 0=l.getD i 0:=by simp [bs,Array.getD_eq_getD_getElem?,ae]
theorem dG (l:List UInt8) (i j:Nat):(bs l).extract i j=bs ((l.take j).drop i):=by
 have h:((bs l).extract i j).data=(bs ((l.take j).drop i)).data:=by
  rw [ByteArray.data_extract]
  simp [bs,List.drop_take]
 cases h1:(bs l).extract i j;cases h2:bs ((l.take j).drop i)
 rw [h1,h2] at h
 simp at h;rw [h]
theorem Kw (s:ByteArray):∀ (k i:Nat) (r:List UInt8),s.size-i=k→ByteArray.toList.loop s i r=r.reverse++s.data.toList.drop i
 |0,i,r,h=>by
  unfold ByteArray.toList.loop
  rw [if_neg (by omega),List.drop_of_length_le (by simp only [Array.length_toList];exact Nat.le_of_sub_eq_zero h)];simp
 |k+1,i,r,h=>by
  unfold ByteArray.toList.loop
  rw [if_pos (by omega),Kw s k (i+1) _ (by omega)]
  have hi:i<s.data.toList.length:=by simp only [Array.length_toList];show i<s.size;omega
  rw [List.drop_eq_getElem_cons hi]
  have:s.get! i=s.data.toList[i]:=by
   have hi':i<s.data.size:=by simpa using hi
   simp only [ByteArray.get!,Array.getElem_toList]
   exact getElem!_pos s.data i hi'
  rw [this];simp
theorem eE (l:List UInt8):(bs l).toList=l:=by
 unfold ByteArray.toList
 rw [Kw _ _ _ _ rfl];simp [bs]
def bn (l:List UInt8):Nat:=l.foldl (fun a b=>a*256+b.toNat) 0
theorem Hq:bn []=0:=rfl
theorem qN (l:List UInt8) (b:UInt8):bn (l++[b])=bn l*256+b.toNat:=by simp [bn]
theorem Mp (l:List UInt8) (a:Nat):l.foldl (fun a b=>a*256+b.toNat) a=a*256^l.length+bn l:=by
 induction l generalizing a with
 |nil=>simp [bn]
 |cons b l ih=>
  simp only [List.foldl_cons,bn,aC]
  rw [ih,ih (0*256+b.toNat)]
  rw [Nat.pow_succ]
  grind
theorem uJ (b:UInt8) (l:List UInt8):bn (b::l)=b.toNat*256^l.length+bn l:=by
 simp only [bn,List.foldl_cons]
 rw [Mp];simp [bn]
theorem qM (l:List UInt8):bn l<256^l.length:=by
 induction l with
 |nil=>simp [bn]
 |cons b l ih=>
  rw [uJ,aC,Nat.pow_succ]
  have:=b.toNat_lt
  have h1:b.toNat*256^l.length≤255*256^l.length:=aS _ (by omega)
  omega
theorem D9 (l:List UInt8) (i:Nat) (h:i<l.length):bn (l.take (i+1))=bn (l.take i)*256+(l.getD i 0).toNat:=by
 rw [List.take_add_one,af h]
 simp only [Option.toList_some]
 rw [qN,ae,af h];rfl
end Go.Av
namespace Go.Av
open Go.RowKit
variable {P:Program} {t:V} {T:List V} {H:Hp} {K:V→Hp→Prop} {Q:kF} {Qo:List V→Hp→Prop}
theorem lt_t {a b:Int} (h:a<b):(a<b)=True:=eq_true h
theorem lt_f {a b:Int} (h:b≤a):(a<b)=False:=eq_false (by omega)
theorem le_t {a b:Int} (h:a≤b):(a≤b)=True:=eq_true h
theorem le_f {a b:Int} (h:b<a):(a≤b)=False:=eq_false (by omega)
theorem eq_t {a b:Int} (h:a=b):(a=b)=True:=eq_true h
theorem eq_f {a b:Int} (h:a≠b):(a=b)=False:=eq_false h
theorem beq_t {a b:Int} (h:a=b):(a==b)=true:=by simp [h]
theorem beq_f {a b:Int} (h:a≠b):(a==b)=false:=by simp [h]
theorem bne_t {a b:Int} (h:a≠b):(a !=b)=true:=by simp [h]
theorem bne_f {a b:Int} (h:a=b):(a !=b)=false:=by simp [h]
theorem nlt_t {a b:Nat} (h:a<b):(a<b)=True:=eq_true h
theorem nlt_f {a b:Nat} (h:b≤a):(a<b)=False:=eq_false (by omega)
theorem nle_t {a b:Nat} (h:a≤b):(a≤b)=True:=eq_true h
theorem nle_f {a b:Nat} (h:b<a):(a≤b)=False:=eq_false (by omega)
theorem neq_t {a b:Nat} (h:a=b):(a=b)=True:=eq_true h
theorem neq_f {a b:Nat} (h:a≠b):(a=b)=False:=eq_false h
theorem beqI {a b:Int}:((a==b)=true)=(a=b):=by simp
theorem bneI {a b:Int}:((a !=b)=true)=(a≠b):=by simp
theorem Sc {a b:Int}:((a==b)=false)=(a≠b):=by simp
theorem Sa {a b:Int}:((a !=b)=false)=(a=b):=by simp
def Ho (P:Program) (H:Hp) (K:V→Hp→Prop) (g:FuncId) (vs:List V) (o:Option (List V)):Prop:=
 (∃ us r,o=some us∧PC P g us r∧(vs.all (flat 9)=true∨dry 9 r=true)∧K r H)∨SC P g vs H K
def Pv (P:Program) (H:Hp) (K:V→Hp→Prop) (g:FuncId) (vs:List V) (o:Option (List V)):Prop:=
 (∃ us r,o=some us∧PC P g us r∧(vs.all (flat 9)=true∨dry 9 r=true)∧K r H)∨(∃ v q,NL vs H v q∧QC P g vs H v q (vs.flatMap (eD H 9))∧K v (BW H q))
def Ku (P:Program) (H:Hp) (K:V→Hp→Prop) (vs:List V):V→Prop
 | .clo g first cap=>Ho P H K g (first++vs++cap) (ii H (first++vs++cap))
 | .yld b=>YC P b vs H K
 |_=>False
def I4 (P:Program) (H:Hp) (K:V→Hp→Prop) (vs:List V):V→Prop
 | .clo g first cap=>Pv P H K g (first++vs++cap) (ii H (first++vs++cap))
 |_=>False
theorem CF {fv:Operand} {args:Array Operand} {ts:Array TypeId}:eV P T H (.call { callee:= .value fv,args,argTypes:=ts }) K=Ku P H K (args.toList.map (ev T)) (ev T fv):=by
 unfold eV mn
 simp only [evN,evA,evL,nD]
 cases h:ev T fv<;>simp only [Ku,Ho,BT,h]
theorem zS {fv:Operand} {args:Array Operand} {ts:Array TypeId}:iE P T H (.call { callee:= .value fv,args,argTypes:=ts }) K=I4 P H K (args.toList.map (ev T)) (ev T fv):=by
 unfold iE
 simp only [BT,HM]
 cases h:ev T fv<;>simp only [I4,Pv,or_self]
theorem D8 {vs first cap:List V} {g:FuncId}:Ku P H K vs (.clo g first cap)=Ho P H K g (first++vs++cap) (ii H (first++vs++cap)):=rfl
theorem D7 {vs:List V} {b:Nat}:Ku P H K vs (.yld b)=YC P b vs H K:=rfl
theorem BF {vs first cap:List V} {g:FuncId}:I4 P H K vs (.clo g first cap)=Pv P H K g (first++vs++cap) (ii H (first++vs++cap)):=rfl
theorem gB {g:FuncId} {vs us:List V} {r:V} (hp:PC P g us r) (hd:vs.all (flat 9)=true∨dry 9 r=true) (hK:K r H):Ho P H K g vs (some us):= .inl ⟨us,r,rfl,hp,hd,hK⟩
theorem bI {g:FuncId} {vs:List V} {o:Option (List V)} (h:SC P g vs H K):Ho P H K g vs o:= .inr h
theorem G4 {T:List V} {a:Operand} {l:List Operand}:(a::l).map (ev T)=ev T a::l.map (ev T):=rfl
theorem Ki {T:List V}:([]:List Operand).map (ev T)=[]:=rfl
theorem yt {rs:List ResultVar} {R:V→Hp→Prop}:ru P rs R .normal T H=(match lB (aD P) T H rs with
 |some vs=>R (pH vs) H
 |none=>False):=rfl
theorem MC {x:Int} (h: -9223372036854775808≤x∧x<9223372036854775808):IntKind.i64.wrap x=x:=jd h.1 h.2
theorem MB {x:Int} (h:0≤x∧x<4294967296):IntKind.u32.wrap x=x:=wrap_u32 h.1 h.2
theorem MA {x:Int} (h:0≤x∧x<18446744073709551616):IntKind.u64.wrap x=x:=Mz h.1 h.2
theorem Ry {x:Int} (h:0≤x∧x<256):IntKind.u8.wrap x=x:=wrap_u8 h.1 h.2
theorem N9 {a b:Nat}:(a:Int)+(b:Int)=((a+b:Nat):Int):=rfl
theorem JZ {a:Nat}:(a:Int)+1=((a+1:Nat):Int):=rfl
theorem JY {a:Nat}:(a:Int)+2=((a+2:Nat):Int):=rfl
theorem J0 {a:Nat}:1+(a:Int)=((1+a:Nat):Int):=rfl
theorem N7 {a b:Nat}:(a:Int)*(b:Int)=((a*b:Nat):Int):=rfl
theorem N5 {a b:Nat} (h:b≤a):(a:Int)-(b:Int)=((a-b:Nat):Int):=by omega
theorem JX {a:Nat} (h:1≤a):(a:Int)-1=((a-1:Nat):Int):=by omega
theorem N6 {a:Nat}:(0≤(a:Int))=True:=by simp
theorem RJ {a b:Nat}:((a:Int)<(b:Int))=(a<b):=by simp
theorem RL {a b:Nat}:((a:Int)≤(b:Int))=(a≤b):=by simp
theorem RQ {a b:Nat}:((a:Int)=(b:Int))=(a=b):=propext ⟨fun h=>Int.ofNat.inj h,fun h=>by rw [h]⟩
theorem N8 {a:Nat}:((a:Int)<0)=False:=by simp
theorem RM {a b:Int}:(a>b)=(b<a):=rfl
theorem RP {a b:Int}:(a≥b)=(b≤a):=rfl
theorem Oo {a b:Nat}:(a>b)=(b<a):=rfl
theorem Ot {a b:Nat}:(a≥b)=(b≤a):=rfl
theorem J7 {a b:Nat} (h:a<b):a%b=a:=bA h
def lpQ {S:Type} (st:S→(Nat→V)→List V) (Inv:S→Hp→Prop) (m:S→Nat) (s:S) (Q:kF):kF:=fun x T' H'=>match x with
 | .normal=>∃ s',T'=st s' (fun k=>T'.getD k cW)∧Inv s' H'∧m s'<m s
 |x=>Q x T' H'
theorem bl {S:Type} {st:S→(Nat→V)→List V} {Inv:S→Hp→Prop} {m:S→Nat} {s:S} {Q:kF} (s':S) (h1:T=st s' (fun k=>T.getD k cW)) (h2:Inv s' H) (h3:m s'<m s):lpQ st Inv m s Q .normal T H:=⟨s',h1,h2,h3⟩
theorem GJ {S:Type} {st:S→(Nat→V)→List V} {Inv:S→Hp→Prop} {m:S→Nat} {s:S} {Q:kF} {i:Nat}:lpQ st Inv m s Q (.exit i) T H=Q (.exit i) T H:=rfl
theorem GI {S:Type} {st:S→(Nat→V)→List V} {Inv:S→Hp→Prop} {m:S→Nat} {s:S} {Q:kF} {i:Nat}:lpQ st Inv m s Q (.goto i) T H=Q (.goto i) T H:=rfl
theorem J9 {S:Type} {st:S→(Nat→V)→List V} {Inv:S→Hp→Prop} {m:S→Nat} {s:S} {Q:kF}:lpQ st Inv m s Q .ret T H=Q .ret T H:=rfl
theorem eG {c:LC} {S:Type} (st:S→(Nat→V)→List V) (Inv:S→Hp→Prop) (m:S→Nat) (s0:S) (h1:T=st s0 (fun k=>T.getD k cW)) (h2:Inv s0 H)
 (step:∀ s J H,Inv s H→wpL P c (st s J) H (lpQ st Inv m s Q)):wpL P (.loop c) T H Q:=
 rU st Inv m s0 h1 h2 fun s J H hi=>rd c (fun x T' H' hq=>by cases x<;>exact hq) (step s J H hi)
theorem RS:(∀ {a0 a1 a2 a3 a4 a5 a6 a7 a8 a9 a10 a11 a12 a13 a14 a15 a16 a17 a18 a19 a20 a21 a22 a23 a24 a25 a26 a27 a28 a29 a30 a31:V} {xs:List V} {i:Nat} {v:V},(a0::a1::a2::a3::a4::a5::a6::a7::a8::a9::a10::a11::a12::a13::a14::a15::a16::a17::a18::a19::a20::a21::a22::a23::a24::a25::a26::a27::a28::a29::a30::a31::xs).set (i+32) v=a0::a1::a2::a3::a4::a5::a6::a7::a8::a9::a10::a11::a12::a13::a14::a15::a16::a17::a18::a19::a20::a21::a22::a23::a24::a25::a26::a27::a28::a29::a30::a31::xs.set i v)∧
 (∀ {a0 a1 a2 a3 a4 a5 a6 a7 a8 a9 a10 a11 a12 a13 a14 a15 a16 a17 a18 a19 a20 a21 a22 a23 a24 a25 a26 a27 a28 a29 a30 a31:V} {xs:List V} {i:Nat} {v:V},(a0::a1::a2::a3::a4::a5::a6::a7::a8::a9::a10::a11::a12::a13::a14::a15::a16::a17::a18::a19::a20::a21::a22::a23::a24::a25::a26::a27::a28::a29::a30::a31::xs).getD (i+32) v=xs.getD i v)∧
 (∀ {a0 a1 a2 a3 a4 a5 a6 a7:V} {xs:List V} {i:Nat} {v:V},(a0::a1::a2::a3::a4::a5::a6::a7::xs).set (i+8) v=a0::a1::a2::a3::a4::a5::a6::a7::xs.set i v)∧
 (∀ {a0 a1 a2 a3 a4 a5 a6 a7:V} {xs:List V} {i:Nat} {v:V},(a0::a1::a2::a3::a4::a5::a6::a7::xs).getD (i+8) v=xs.getD i v):=
 ⟨by intros;rfl,by intros;simp only [aB],by intros;rfl,by intros;simp only [aB]⟩
def Bz (P:Program) (a b:LC) (T:List V) (H:Hp) (Q:kF):V→Prop
 | .prim (.bool t)=>(t=true→wpL P a T H Q)∧(t=false→wpL P b T H Q)
 |_=>False
theorem CI {c:Operand} {a b:LC}:wpL P (.cond c a b) (t::T) H Q=Bz P a b (t::T) H Q (ev (t::T) c):=by rw [wpL];rfl
theorem Kp {a b:LC}:Bz P a b T H Q (.prim (.bool true))=wpL P a T H Q:=by simp [Bz]
theorem Kq {a b:LC}:Bz P a b T H Q (.prim (.bool false))=wpL P b T H Q:=by simp [Bz]
theorem Kr {a b:LC} {p:Prop} [Decidable p]:Bz P a b T H Q (.prim (.bool (decide p)))=((p→wpL P a T H Q)∧(¬p→wpL P b T H Q)):=by simp [Bz]
def gG (W:List V→Hp→Op→(V→Hp→Prop)→Prop) (want:Bool) (T:List V) (H:Hp) (op:Op) (K:V→Hp→Prop):V→Prop
 | .prim (.bool t)=>(t=want→W T H op K)∧(t= !want→K cW H)
 | .tup []=>K cW H
 |_=>False
theorem CJ {W:List V→Hp→Op→(V→Hp→Prop)→Prop} {d:Option Tmp} {op:Op} {i b g:Nat} {want:Bool}:wpG W (t::T) H ⟨d,op,some (g,want),i,b⟩ K=gG W want (t::T) H op K ((t::T).getD g cW):=rfl
theorem R0 {W:List V→Hp→Op→(V→Hp→Prop)→Prop} {op:Op}:gG W true T H op K (.prim (.bool true))=W T H op K:=by simp [gG]
theorem R3 {W:List V→Hp→Op→(V→Hp→Prop)→Prop} {op:Op}:gG W false T H op K (.prim (.bool false))=W T H op K:=by simp [gG]
theorem R1 {W:List V→Hp→Op→(V→Hp→Prop)→Prop} {op:Op}:gG W true T H op K (.prim (.bool false))=K cW H:=by simp [gG]
theorem R2 {W:List V→Hp→Op→(V→Hp→Prop)→Prop} {op:Op}:gG W false T H op K (.prim (.bool true))=K cW H:=by simp [gG]
theorem gG_u {W:List V→Hp→Op→(V→Hp→Prop)→Prop} {op:Op} {want:Bool}:gG W want T H op K (.tup [])=K cW H:=rfl
theorem R4 {W:List V→Hp→Op→(V→Hp→Prop)→Prop} {op:Op} {p:Prop} [Decidable p]:gG W true T H op K (.prim (.bool (decide p)))=((p→W T H op K)∧(¬p→K cW H)):=by simp [gG]
theorem R5 {W:List V→Hp→Op→(V→Hp→Prop)→Prop} {op:Op} {p:Prop} [Decidable p]:gG W false T H op K (.prim (.bool (decide p)))=((¬p→W T H op K)∧(p→K cW H)):=by simp [gG]
theorem gG_v {W:List V→Hp→Op→(V→Hp→Prop)→Prop} {op:Op} {want:Bool}:gG W want T H op K cW=K cW H:=rfl
theorem tn1:Int.toNat 1=1:=rfl
theorem tn2:Int.toNat 2=2:=rfl
theorem RX:(Int.toNat 0=0)∧(Int.toNat 1=1)∧(Int.toNat 2=2)∧(Int.toNat 3=3)∧(Int.toNat 4=4)∧(Int.toNat 5=5)∧(Int.toNat 6=6)∧(Int.toNat 7=7)∧
 (∀ {α β:Type} (f:β→α→β) (b:β) (a:α) (l:List α),(a::l).foldl f b=l.foldl f (f b a))∧(∀ {α β:Type} (f:β→α→β) (b:β),([]:List α).foldl f b=b)∧
 (∀ {α:Type} (a:α) (l:List α),(a::l).length=l.length+1)∧(∀ n:Nat,0+n=n)∧(∀ p:Prop,(p∧p)=p)∧(∀ {α:Type} (l:List α),l.drop 0=l)∧
 (∀ {α:Type} (a:α) (l:List α) (n:Nat),(a::l).take (n+1)=a::l.take n)∧(∀ {α:Type} (l:List α),l.take 0=[])∧(∀ {α:Type} (a:α) (l:List α) (n:Nat),(a::l).drop (n+1)=l.drop n)∧
 (∀ {α:Type} (n:Nat),([]:List α).drop n=[])∧(∀ {α:Type} (n:Nat),([]:List α).take n=[])∧(∀ (a b:Nat) (l:List Nat),(a::l).contains b=(b==a||l.contains b))∧(∀ b:Nat,([]:List Nat).contains b=false)∧
 (∀ b:Bool,(b&&false)=false)∧(∀ b:Bool,(false&&b)=false)∧(∀ b:Bool,(true&&b)=b)∧(∀ b:Bool,(b||true)=true)∧(∀ b:Bool,(true||b)=true)∧(∀ b:Bool,(false||b)=b):=
 ⟨rfl,rfl,rfl,rfl,rfl,rfl,rfl,rfl,fun _ _ _ _=>rfl,fun _ _=>rfl,fun _ _=>rfl,aX,and_self,fun _=>rfl,fun _ _ _=>rfl,fun _=>List.take_zero,fun _ _ _=>rfl,fun _=>List.drop_nil,fun _=>List.take_nil,
  fun _ _ _=>List.contains_cons,fun _=>rfl,Bool.and_false,Bool.false_and,Bool.true_and,Bool.or_true,Bool.true_or,Bool.false_or⟩
theorem Gh:pH []= .tup []:=rfl
theorem Gg {a b:V} {l:List V}:pH (a::b::l)= .tup (a::b::l):=rfl
theorem RE:type_of%(And.intro @eS.eq_1 (And.intro @jf.eq_1 (And.intro @fT.eq_1 (And.intro @sI.eq_1 (And.intro @ou.eq_1 (And.intro @lB.eq_1 (And.intro @lB.eq_2 (And.intro @qT.eq_1 (And.intro @qT.eq_2 (And.intro @pH.eq_1 (And.intro Gh @Gg))))))))))):=
 And.intro @eS.eq_1 (And.intro @jf.eq_1 (And.intro @fT.eq_1 (And.intro @sI.eq_1 (And.intro @ou.eq_1 (And.intro @lB.eq_1 (And.intro @lB.eq_2 (And.intro @qT.eq_1 (And.intro @qT.eq_2 (And.intro @pH.eq_1 (And.intro Gh @Gg))))))))))
theorem RK:(∀ {α:Type} (a:α),(a=a)=True)∧type_of% @pd.eq_1:=⟨fun _=>eq_self _,@pd.eq_1⟩
theorem RN:(∀ (k:Nat) (l:List V),vu k l=l++List.replicate (k-l.length) cW)∧(∀ (a:V) (l:List V),(a::l).length=l.length+1)∧(([]:List V).length=0)∧
 (∀ (n:Nat) (a:V),List.replicate (n+1) a=a::List.replicate n a)∧(∀ a:V,List.replicate 0 a=[])∧(∀ (a:V) (l m:List V),a::l++m=a::(l++m))∧(∀ m:List V,[]++m=m):=
 ⟨fun _ _=>rfl,fun _ _=>rfl,rfl,fun _ _=>rfl,fun _=>rfl,fun _ _ _=>rfl,fun _=>rfl⟩
theorem cX {P:Program} {H:Hp} {K:V→Hp→Prop} {g:FuncId} {vs us:List V} {r:V} {Q:Prop} (hp:PC P g us r) (hK:K r H) (hd:vs.all (flat 9)=true∨dry 9 r=true:=by first|exact .inl rfl|exact .inr rfl):
 (∃ us' r',some us=some us'∧PC P g us' r'∧(vs.all (flat 9)=true∨dry 9 r'=true)∧K r' H)∨Q:= .inl ⟨us,r,rfl,hp,hd,hK⟩
theorem RO:(∀ {α:Type} (a d:α),(some a).getD d=a)∧(∀ {α:Type} (d:α),(none:Option α).getD d=d):=⟨fun _ _=>rfl,fun _=>rfl⟩
end Go.Av
namespace Go.Av
open Go.RowKit
theorem RW:type_of% @fQ∧
 type_of% @f7∧
 type_of% @f6∧
 type_of% @jg∧
 type_of% @eQ∧
 type_of% @f9∧
 type_of% @f8∧
 type_of% @jh∧
 type_of% @dr∧
 type_of% @fh∧
 type_of% @fg∧
 type_of% @gm∧
 type_of% @cG∧
 type_of% @dy∧
 type_of% @dw∧
 type_of% @d8∧
 type_of% @ji∧
 type_of% @gw∧
 type_of% @fj∧
 type_of% @fm∧
 type_of% @eY∧
 type_of% @dK∧
 type_of% @dL∧
 type_of% @dc∧
 type_of% @dZ∧
 type_of% @dY∧
 type_of% @gg∧
 type_of% @jy∧
 type_of% @fF∧
 type_of% @ib∧
 type_of% @fo∧
 type_of% @gq∧
 type_of% @gh∧
 type_of% @gp∧
 type_of% @gv∧
 type_of% @fd∧
 type_of% @de∧
 type_of% @fc∧
 type_of% @gn∧
 type_of% @dR∧
 type_of% @dS∧
 type_of% @eZ∧
 type_of% @cC∧
 type_of% @cj∧
 type_of% @dQ∧
 type_of% @ch∧
 type_of% @dP∧
 type_of% @dN∧
 type_of% @cP∧
 type_of% @cT∧
 type_of% @fY∧
 type_of% @fZ∧
 type_of% @fX∧
 type_of% @fW∧
 type_of% @fe∧
 type_of% @dT∧
 type_of% @f5∧
 type_of% @cg∧
 type_of% @bQ∧
 type_of% @dM∧
 type_of% @cQ∧
 type_of% @gr∧
 type_of% @gu∧
 type_of% @dW∧
 type_of% @cR∧
 type_of% @dV∧
 type_of% @dm∧
 type_of% @dp∧
 type_of% @dU∧
 type_of% @cE∧
 type_of% @cm∧
 type_of% @bU∧
 type_of% @dk∧
 type_of% @bT∧
 type_of% @dj∧
 type_of% @dh∧
 type_of% @cD∧
 type_of% @cF∧
 type_of% @dX∧
 type_of% @dq∧
 type_of% @ff∧
 type_of% @bS∧
 type_of% @bJ∧
 type_of% @df∧
 type_of% @List.set_cons_succ.{0}∧
 type_of% @List.set_cons_zero.{0}∧
 type_of% @aB.{0}∧
 type_of% @aM.{0}∧
 type_of% @List.getElem?_toArray.{0}∧
 type_of% @aN.{0}∧
 type_of% @aV.{0}∧
 type_of% @true_and∧
 type_of% @if_true.{1}∧
 type_of% @Bool.false_eq_true∧
 type_of% @Bool.true_eq_false∧
 type_of% @if_false.{1}∧
 type_of% @aI.{0}∧
 type_of% @bD.{0}∧
 type_of% @fO∧
 type_of% @gz∧
 type_of% @db∧
 type_of% @d5∧
 type_of% @fw∧
 type_of% @fq∧
 type_of% @d4∧
 type_of% @fp∧
 type_of% @fu∧
 type_of% @d7∧
 type_of% @fz∧
 type_of% @d6∧
 type_of% @fy∧
 type_of% @fA∧
 type_of% @List.all_cons.{0}∧
 type_of% @List.all_nil.{0}∧
 type_of% @Bool.and_true∧
 type_of% @Bool.and_self∧
 type_of% @bj.{0,0}∧
 type_of% @Option.map_none.{0,0}∧
 type_of% @true_implies∧
 type_of% @false_implies∧
 type_of% @and_true∧
 type_of% @aE∧
 type_of% @aG∧
 type_of% @Bool.not_true∧
 type_of% @Bool.not_false∧
 type_of% @beq_self_eq_true.{0}∧
 type_of% @not_true_eq_false∧
 type_of% @not_false_eq_true∧
 type_of% @decide_true∧
 type_of% @decide_false∧
 type_of% @decide_not∧
 type_of% @iU∧
 type_of% @fJ∧
 type_of% @iT∧
 type_of% @gO∧
 type_of% @gQ∧
 type_of% @iS∧
 type_of% @dJ∧
 type_of% @dC∧
 type_of% @gL∧
 type_of% @dB∧
 type_of% @gK∧
 type_of% @gJ∧
 type_of% @eK∧
 type_of% @jS∧
 type_of% @jT∧
 type_of% @jR∧
 type_of% @jQ∧
 type_of% @iV∧
 type_of% @eL∧
 type_of% @gI∧
 type_of% @gR∧
 type_of% @jU∧
 type_of% @dA∧
 type_of% @cZ∧
 type_of% @fK∧
 type_of% @iW∧
 type_of% @gN∧
 type_of% @iX∧
 type_of% @iY∧
 type_of% @gU∧
 type_of% @jb∧
 type_of% @ja∧
 type_of% @jc∧
 type_of% @i8∧
 type_of% @i9∧
 type_of% @gT∧
 type_of% @jW∧
 type_of% @jY∧
 type_of% @jX∧
 type_of% @i7∧
 type_of% @Nat.testBit_eq_decide_div_mod_eq∧
 type_of% @gH∧
 type_of% @iP∧
 type_of% @iR∧
 type_of% @iM∧
 type_of% @iQ∧
 type_of% @iO∧
 type_of% @z7∧
 type_of% @yJ∧
 type_of% @A5∧
 type_of% @yI∧
 type_of% @ym∧
 type_of%wC∧
 type_of% @wD∧
 type_of% @yH∧
 type_of% @AV∧
 type_of% @yG∧
 type_of% @AX∧
 type_of% @AR∧
 type_of% @AW∧
 type_of% @AS∧
 type_of% @AQ∧
 type_of% @A7∧
 type_of% @AZ∧
 type_of% @A6∧
 type_of% @A3∧
 type_of% @AY∧
 type_of% @D4∧
 type_of% @D6∧
 type_of% @Ed∧
 type_of% @CQ∧
 type_of% @A4∧
 type_of% @AU∧
 type_of% @yL∧
 type_of% @tO∧
 type_of% @yM∧
 type_of% @wG∧
 type_of% @yh∧
 type_of% @vJ∧
 type_of% @sX∧
 type_of% @yi∧
 type_of% @vK∧
 type_of% @uU∧
 type_of% @sJ∧
 type_of% @vL∧
 type_of% @iK∧
 type_of% @jN∧
 type_of% @jO∧
 type_of% @jP∧
 type_of% @jM∧
 type_of% @iL∧
 type_of% @gF∧
 type_of% @gS∧
 type_of% @eJ∧
 type_of% @dI∧
 type_of% @fH∧
 type_of% @iJ∧
 type_of% @List.any_nil.{0}∧
 type_of% @List.any_cons.{0}∧
 type_of% @Bool.or_self∧
 type_of% @Bool.or_false∧
 type_of% @List.flatMap_cons.{0,0}∧
 type_of% @List.flatMap_nil.{0,0}∧
 type_of% @List.append_nil.{0}∧
 type_of% @List.nil_append.{0}∧
 type_of% @aY.{0,0}∧
 type_of% @List.map_nil.{0,0}∧
 type_of% @cK∧
 type_of% @cJ∧
 type_of% @kf∧
 type_of% @lM∧
 type_of% @j7∧
 type_of% @fP∧
 type_of% @it∧
 type_of% @dG∧
 type_of% @eE∧
 type_of% @Int.toNat_natCast∧
 type_of% @CI∧
 type_of% @Kp∧
 type_of% @Kq∧
 type_of% @Kr∧
 type_of% @CJ∧
 type_of% @R0∧
 type_of% @R3∧
 type_of% @R1∧
 type_of% @R2∧
 type_of% @gG_u∧
 type_of% @gG_v∧
 type_of% @R4∧
 type_of% @R5∧
 type_of% @N9∧
 type_of% @JZ∧
 type_of% @JY∧
 type_of% @J0∧
 type_of% @N7∧
 type_of% @N5∧
 type_of% @JX∧
 type_of% @N6∧
 type_of% @RJ∧
 type_of% @RL∧
 type_of% @RQ∧
 type_of% @N8∧
 type_of% @RM∧
 type_of% @RP∧
 type_of% @Oo∧
 type_of% @Ot∧
 type_of% @J7∧
 type_of% @GJ∧
 type_of% @GI∧
 type_of% @J9∧
 type_of% @qs∧
 type_of% @vH∧
 type_of% @kS∧
 type_of% @CF∧
 type_of% @zS∧
 type_of% @D8∧
 type_of% @D7∧
 type_of% @BF∧
 type_of% @G4∧
 type_of% @Ki∧
 type_of% @JG∧
 type_of% @yt∧
 type_of% @MC∧
 type_of% @Ry∧
 type_of% @MB∧
 type_of% @MA∧
 type_of% @List.cons_append.{0}∧
 type_of% @bo∧
 type_of% @ne_eq.{1}∧
 type_of% @beqI∧
 type_of% @bneI∧
 type_of% @Sc∧
 type_of% @Sa:=
 ⟨@fQ,@f7,@f6,@jg,@eQ,@f9,@f8,@jh,@dr,@fh,@fg,@gm,@cG,@dy,@dw,@d8,@ji,@gw,@fj,@fm,@eY,@dK,@dL,@dc,@dZ,@dY,@gg,@jy,@fF,@ib,@fo,@gq,@gh,@gp,@gv,@fd,@de,@fc,@gn,@dR,@dS,@eZ,@cC,@cj,@dQ,@ch,@dP,@dN,@cP,@cT,@fY,@fZ,@fX,@fW,@fe,@dT,@f5,@cg,@bQ,@dM,@cQ,@gr,@gu,@dW,@cR,@dV,@dm,@dp,@dU,@cE,@cm,@bU,@dk,@bT,@dj,@dh,@cD,@cF,@dX,@dq,@ff,@bS,@bJ,@df,@List.set_cons_succ.{0},@List.set_cons_zero.{0},@aB.{0},@aM.{0},@List.getElem?_toArray.{0},@aN.{0},@aV.{0},@true_and,@if_true.{1},@Bool.false_eq_true,@Bool.true_eq_false,@if_false.{1},@aI.{0},@bD.{0},@fO,@gz,@db,@d5,@fw,@fq,@d4,@fp,@fu,@d7,@fz,@d6,@fy,@fA,@List.all_cons.{0},@List.all_nil.{0},@Bool.and_true,@Bool.and_self,@bj.{0,0},@Option.map_none.{0,0},@true_implies,@false_implies,@and_true,@aE,@aG,@Bool.not_true,@Bool.not_false,@beq_self_eq_true.{0},@not_true_eq_false,@not_false_eq_true,@decide_true,@decide_false,@decide_not,@iU,@fJ,@iT,@gO,@gQ,@iS,@dJ,@dC,@gL,@dB,@gK,@gJ,@eK,@jS,@jT,@jR,@jQ,@iV,@eL,@gI,@gR,@jU,@dA,@cZ,@fK,@iW,@gN,@iX,@iY,@gU,@jb,@ja,@jc,@i8,@i9,@gT,@jW,@jY,@jX,@i7,@Nat.testBit_eq_decide_div_mod_eq,@gH,@iP,@iR,@iM,@iQ,@iO,@z7,@yJ,@A5,@yI,@ym,wC,@wD,@yH,@AV,@yG,@AX,@AR,@AW,@AS,@AQ,@A7,@AZ,@A6,@A3,@AY,@D4,@D6,@Ed,@CQ,@A4,@AU,@yL,@tO,@yM,@wG,@yh,@vJ,@sX,@yi,@vK,@uU,@sJ,@vL,@iK,@jN,@jO,@jP,@jM,@iL,@gF,@gS,@eJ,@dI,@fH,@iJ,@List.any_nil.{0},@List.any_cons.{0},@Bool.or_self,@Bool.or_false,@List.flatMap_cons.{0,0},@List.flatMap_nil.{0,0},@List.append_nil.{0},@List.nil_append.{0},@aY.{0,0},@List.map_nil.{0,0},@cK,@cJ,@kf,@lM,@j7,@fP,@it,@dG,@eE,@Int.toNat_natCast,@CI,@Kp,@Kq,@Kr,@CJ,@R0,@R3,@R1,@R2,@gG_u,@gG_v,@R4,@R5,@N9,@JZ,@JY,@J0,@N7,@N5,@JX,@N6,@RJ,@RL,@RQ,@N8,@RM,@RP,@Oo,@Ot,@J7,@GJ,@GI,@J9,@qs,@vH,@kS,@CF,@zS,@D8,@D7,@BF,@G4,@Ki,@JG,@yt,@MC,@Ry,@MB,@MA,@List.cons_append.{0},@bo,@ne_eq.{1},@beqI,@bneI,@Sc,@Sa⟩
theorem RB:(∀ {a b:Int},a<b→(a<b)=True)∧
 (∀ {a b:Int},b≤a→(a<b)=False)∧
 (∀ {a b:Int},a≤b→(a≤b)=True)∧
 (∀ {a b:Int},b<a→(a≤b)=False)∧
 (∀ {a b:Int},a=b→(a=b)=True)∧
 (∀ {a b:Int},a≠b→(a=b)=False)∧
 (∀ {a b:Int},a=b→(a==b)=true)∧
 (∀ {a b:Int},a≠b→(a==b)=false)∧
 (∀ {a b:Int},a≠b→(a !=b)=true)∧
 (∀ {a b:Int},a=b→(a !=b)=false)∧
 (∀ {a b:Nat},a<b→(a<b)=True)∧
 (∀ {a b:Nat},b≤a→(a<b)=False)∧
 (∀ {a b:Nat},a≤b→(a≤b)=True)∧
 (∀ {a b:Nat},b<a→(a≤b)=False)∧
 (∀ {a b:Nat},a=b→(a=b)=True)∧
 (∀ {a b:Nat},a≠b→(a=b)=False):=
 ⟨@lt_t,@lt_f,@le_t,@le_f,@eq_t,@eq_f,@beq_t,@beq_f,@bne_t,@bne_f,@nlt_t,@nlt_f,@nle_t,@nle_f,@neq_t,@neq_f⟩
theorem RF:type_of% @evN.eq_def∧
 type_of% @evA.eq_def∧
 type_of% @evL.eq_def∧
 type_of% @lY.eq_def∧
 type_of% @unV.eq_def∧
 type_of% @gZ.eq_def∧
 type_of% @nb.eq_def∧
 type_of% @TK.isAgg.eq_def∧
 type_of% @iz.eq_def∧
 type_of% @jz.eq_def∧
 type_of% @rR.eq_def∧
 type_of% @view.eq_1∧
 type_of% @view.eq_2∧
 type_of% @view.eq_3∧
 type_of% @view.eq_4∧
 type_of% @view.eq_5∧
 type_of% @view.eq_6∧
 type_of% @view.eq_7∧
 type_of% @view.eq_8∧
 type_of% @view.viewL.eq_1∧
 type_of% @view.viewL.eq_2∧
 type_of% @view.viewLL.eq_1∧
 type_of% @view.viewLL.eq_2:=
 ⟨@evN.eq_def,@evA.eq_def,@evL.eq_def,@lY.eq_def,@unV.eq_def,@gZ.eq_def,@nb.eq_def,@TK.isAgg.eq_def,@iz.eq_def,@jz.eq_def,@rR.eq_def,@view.eq_1,@view.eq_2,@view.eq_3,@view.eq_4,@view.eq_5,@view.eq_6,@view.eq_7,@view.eq_8,@view.viewL.eq_1,@view.viewL.eq_2,@view.viewLL.eq_1,@view.viewLL.eq_2⟩
end Go.Av
