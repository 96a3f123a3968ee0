/- Helping texts: Ax, Bb, Ca0, Ca. -/
import Derived.Test.YtbidkolaahnbiaaGreatKAr
import Derived.Test.YtbidkolaahnbiaaGreatProg
set_option linter.unusedSimpArgs false
set_option linter.unusedVariables false
namespace Go.Av
open Go.RowKit
variable {P : Program}
def fnOf (P : Program) (f : FuncId) : Option (Func × Code × LC) :=
  match P.funcs[f]? with
  | some fn => match fn.body with
    | some c => match lite c with
      | some lc => if rfOk c && !(fn.name == "runtime.NumGoroutine") then some (fn, c, lc) else none
      | none => none
    | none => none
  | none => none
def liteOpsF (ops : Array Oper) (b : Array Nat) : Nat → List Oper → List LOp
  | _, [] => []
  | i, o :: os => ⟨o.dst, o.op, (guardTmp ops o).getD none, i, b.getD i 0⟩ :: liteOpsF ops b (i + 1) os
/-- Light code, without a look at whether it may be light. -/
def liteF : Code → LC
  | .region _ ops draw => opsL ops draw (liteOpsF ops (if draw then Region.before ops else #[]) 0 ops.toList)
  | .seq a b => .seq (liteF a) (liteF b)
  | .cond c a b => .cond c (liteF a) (liteF b)
  | .block id c => .block id (liteF c)
  | .loop c => .loop (liteF c)
  | .rangeFunc f ps assign body => .rangeFunc f ps assign body
  | .exit id => .exit id
  | .goto l => .goto l
  | .ret => .ret
  | _ => .skip
theorem liteOpsF_eq {ops : Array Oper} {b : Array Nat} : ∀ {os : List Oper} {i : Nat} {l : List LOp}, liteOps ops b i os = some l → liteOpsF ops b i os = l
  | [], i, l, h => by simp [liteOps] at h; subst h; rfl
  | o :: os, i, l, h => by
    obtain ⟨g, l', hg, hl', _, rfl⟩ := liteOps_cons h
    simp only [liteOpsF, hg, Option.getD_some, liteOpsF_eq hl']
theorem liteF_eq : ∀ (c : Code) (lc : LC), lite c = some lc → liteF c = lc := by
  intro c
  induction c with
  | skip => intro lc h; cases h; rfl
  | region id ops draw =>
    intro lc h
    unfold lite at h
    split at h
    · cases h
    · obtain ⟨l, h1, h2⟩ := Option.map_eq_some_iff.1 h
      subst h2
      simp only [liteF, liteOpsF_eq h1]
  | seq a b iha ihb =>
    intro lc h
    simp only [lite] at h
    split at h
    · rename_i x y h1 h2; cases h; simp only [liteF, iha x h1, ihb y h2]
    · cases h
  | cond c a b iha ihb =>
    intro lc h
    simp only [lite] at h
    split at h
    · rename_i x y h1 h2; cases h; simp only [liteF, iha x h1, ihb y h2]
    · cases h
  | block id c ih =>
    intro lc h
    simp only [lite] at h
    obtain ⟨l, h1, h2⟩ := Option.map_eq_some_iff.1 h
    subst h2; simp only [liteF, ih l h1]
  | loop c ih =>
    intro lc h
    simp only [lite] at h
    obtain ⟨l, h1, h2⟩ := Option.map_eq_some_iff.1 h
    subst h2; simp only [liteF, ih l h1]
  | rangeFunc f ps asg body _ _ => intro lc h; cases h; rfl
  | exit id => intro lc h; cases h; rfl
  | goto id => intro lc h; cases h; rfl
  | label id => intro lc h; cases h; rfl
  | ret => intro lc h; cases h; rfl
  | scope c _ => intro lc h; simp [lite] at h
  | refuse s => intro lc h; simp [lite] at h

def lcOf (P : Program) (f : FuncId) : LC := match P.funcs[f]? with
  | some fn => match fn.body with
    | some c => liteF c
    | none => .skip
  | none => .skip
def ntOf (P : Program) (f : FuncId) : Nat := match P.funcs[f]? with
  | some fn => fn.ntmps
  | none => 0
def rsOf (P : Program) (f : FuncId) : List ResultVar := match P.funcs[f]? with
  | some fn => fn.results.toList
  | none => []

theorem FnD.of {f : FuncId} (h : (fnOf P f).isSome = true) : FnD P f (ntOf P f) (rsOf P f) (lcOf P f) := by
  obtain ⟨x, hx⟩ := Option.isSome_iff_exists.1 h
  unfold ntOf rsOf lcOf
  unfold fnOf at hx
  split at hx
  · rename_i fn h1
    split at hx
    · rename_i c h2
      split at hx
      · rename_i lc h3
        split at hx
        · rename_i h4
          simp only [Bool.and_eq_true, Bool.not_eq_true'] at h4
          refine ⟨fn, c, h1, h2, ?_, h4.1, h4.2, rfl, rfl⟩
          rw [liteF_eq c lc h3]; exact h3
        · cases hx
      · cases hx
    · cases hx
  · cases hx

open Go.Proofs.Tryz (prog)
theorem mixed : prog.follows .mixedOrders = true := by kernel_rfl

end Go.Av
namespace Go.Av
open Go.RowKit
theorem wrap_i64 {x : Int} (h : -9223372036854775808 ≤ x) (h' : x < 9223372036854775808) : IntKind.i64.wrap x = x := by
  simp only [IntKind.wrap, IntKind.bits, IntKind.signed, Bool.true_and, decide_eq_true_eq]
  split <;> rename_i hc <;> simp at hc ⊢ <;> omega
theorem wrap_u64' (n : Int) : IntKind.u64.wrap n = n % 18446744073709551616 := by simp [IntKind.wrap, IntKind.bits, IntKind.signed]
theorem wrap_u32 {x : Int} (h : 0 ≤ x) (h' : x < 4294967296) : IntKind.u32.wrap x = x := by
  rw [IntKind.wrap_u32]; omega
theorem wrap_u64 {x : Int} (h : 0 ≤ x) (h' : x < 18446744073709551616) : IntKind.u64.wrap x = x := by
  rw [wrap_u64']; omega
theorem wrap_u8 {x : Int} (h : 0 ≤ x) (h' : x < 256) : IntKind.u8.wrap x = x := by
  rw [IntKind.wrap_u8]; omega
theorem wrap_nat_i64 {x : Nat} (h : x < 9223372036854775808) : IntKind.i64.wrap (x : Int) = x := wrap_i64 (by omega) (by omega)
theorem wrap_nat_u32 (x : Nat) : IntKind.u32.wrap (x : Int) = ((x % 4294967296 : Nat) : Int) := by rw [IntKind.wrap_u32]; omega
theorem wrap_nat_u64 (x : Nat) : IntKind.u64.wrap (x : Int) = ((x % 18446744073709551616 : Nat) : Int) := by rw [wrap_u64']; omega
theorem wrap_nat_u8 (x : Nat) : IntKind.u8.wrap (x : Int) = ((x % 256 : Nat) : Int) := by rw [IntKind.wrap_u8]; omega

theorem bv_or (k : Nat) (a b : Nat) : (BitVec.ofInt k (a : Int) ||| BitVec.ofInt k (b : Int)).toNat = ((a % 2 ^ k) ||| (b % 2 ^ k)) := by
  simp [BitVec.toNat_or, BitVec.ofInt_natCast]
theorem bv_and (k : Nat) (a b : Nat) : (BitVec.ofInt k (a : Int) &&& BitVec.ofInt k (b : Int)).toNat = ((a % 2 ^ k) &&& (b % 2 ^ k)) := by
  simp [BitVec.toNat_and, BitVec.ofInt_natCast]
theorem or_add (a b n : Nat) (h : b < 2 ^ n) : (a * 2 ^ n) ||| b = a * 2 ^ n + b := by
  rw [Nat.mul_comm, Nat.two_pow_add_eq_or_of_lt h]

def bs (l : List UInt8) : ByteArray := ⟨l.toArray⟩
theorem bs_nil : ({ data := #[] } : ByteArray) = bs [] := rfl
theorem bs_mk (l : List UInt8) : ({ data := ⟨l⟩ } : ByteArray) = bs l := rfl
theorem bs_mk2 (l : List UInt8) : ({ data := l.toArray } : ByteArray) = bs l := rfl
theorem cons_beq_nil (b : UInt8) (l : List UInt8) : (b :: l == ([] : List UInt8)) = false := rfl
theorem nil_beq_cons (b : UInt8) (l : List UInt8) : (([] : List UInt8) == b :: l) = false := rfl
theorem bs_size (l : List UInt8) : (bs l).size = l.length := by simp [bs, ByteArray.size]
theorem bs_getD (l : List UInt8) (i : Nat) : (bs l).data.getD i 0 = l.getD i 0 := by simp [bs, Array.getD_eq_getD_getElem?, List.getD_eq_getElem?_getD]
theorem bs_extract (l : List UInt8) (i j : Nat) : (bs l).extract i j = bs ((l.take j).drop i) := by
  have h : ((bs l).extract i j).data = (bs ((l.take j).drop i)).data := by
    rw [ByteArray.data_extract]
    simp [bs, List.drop_take]
  cases h1 : (bs l).extract i j; cases h2 : bs ((l.take j).drop i)
  rw [h1, h2] at h
  simp at h; rw [h]
theorem ba_loop (s : ByteArray) : ∀ (k i : Nat) (r : List UInt8), s.size - i = k → ByteArray.toList.loop s i r = r.reverse ++ s.data.toList.drop i
  | 0, i, r, h => by
    unfold ByteArray.toList.loop
    rw [if_neg (by omega), List.drop_of_length_le (by simp only [Array.length_toList]; exact Nat.le_of_sub_eq_zero h)]; simp
  | k + 1, i, r, h => by
    unfold ByteArray.toList.loop
    rw [if_pos (by omega), ba_loop s k (i + 1) _ (by omega)]
    have hi : i < s.data.toList.length := by simp only [Array.length_toList]; show i < s.size; omega
    rw [List.drop_eq_getElem_cons hi]
    have : s.get! i = s.data.toList[i] := by
      have hi' : i < s.data.size := by simpa using hi
      simp only [ByteArray.get!, Array.getElem_toList]
      exact getElem!_pos s.data i hi'
    rw [this]; simp
theorem bs_toList (l : List UInt8) : (bs l).toList = l := by
  unfold ByteArray.toList
  rw [ba_loop _ _ _ _ rfl]; simp [bs]

/-- The value of digits, the most significant first. -/
def bval (l : List UInt8) : Nat := l.foldl (fun a b => a * 256 + b.toNat) 0
theorem bval_nil : bval [] = 0 := rfl
theorem bval_append (l : List UInt8) (b : UInt8) : bval (l ++ [b]) = bval l * 256 + b.toNat := by simp [bval]
theorem bval_fold (l : List UInt8) (a : Nat) : l.foldl (fun a b => a * 256 + b.toNat) a = a * 256 ^ l.length + bval l := by
  induction l generalizing a with
  | nil => simp [bval]
  | cons b l ih =>
    simp only [List.foldl_cons, bval, List.length_cons]
    rw [ih, ih (0 * 256 + b.toNat)]
    rw [Nat.pow_succ]
    grind
theorem bval_cons (b : UInt8) (l : List UInt8) : bval (b :: l) = b.toNat * 256 ^ l.length + bval l := by
  simp only [bval, List.foldl_cons]
  rw [bval_fold]; simp [bval]
theorem bval_lt (l : List UInt8) : bval l < 256 ^ l.length := by
  induction l with
  | nil => simp [bval]
  | cons b l ih =>
    rw [bval_cons, List.length_cons, Nat.pow_succ]
    have := b.toNat_lt
    have h1 : b.toNat * 256 ^ l.length ≤ 255 * 256 ^ l.length := Nat.mul_le_mul_right _ (by omega)
    omega
theorem bval_take (l : List UInt8) (i : Nat) (h : i < l.length) : bval (l.take (i + 1)) = bval (l.take i) * 256 + (l.getD i 0).toNat := by
  rw [List.take_add_one, List.getElem?_eq_getElem h]
  simp only [Option.toList_some]
  rw [bval_append, List.getD_eq_getElem?_getD, List.getElem?_eq_getElem h]; rfl

end Go.Av
namespace Go.Av
open Go.RowKit
variable {P : Program} {t : V} {T : List V} {H : Hp} {K : V → Hp → Prop} {Q : Post} {Qo : List V → Hp → Prop}
theorem lt_t {a b : Int} (h : a < b) : (a < b) = True := eq_true h
theorem lt_f {a b : Int} (h : b ≤ a) : (a < b) = False := eq_false (by omega)
theorem le_t {a b : Int} (h : a ≤ b) : (a ≤ b) = True := eq_true h
theorem le_f {a b : Int} (h : b < a) : (a ≤ b) = False := eq_false (by omega)
theorem eq_t {a b : Int} (h : a = b) : (a = b) = True := eq_true h
theorem eq_f {a b : Int} (h : a ≠ b) : (a = b) = False := eq_false h
theorem beq_t {a b : Int} (h : a = b) : (a == b) = true := by simp [h]
theorem beq_f {a b : Int} (h : a ≠ b) : (a == b) = false := by simp [h]
theorem bne_t {a b : Int} (h : a ≠ b) : (a != b) = true := by simp [h]
theorem bne_f {a b : Int} (h : a = b) : (a != b) = false := by simp [h]
theorem nlt_t {a b : Nat} (h : a < b) : (a < b) = True := eq_true h
theorem nlt_f {a b : Nat} (h : b ≤ a) : (a < b) = False := eq_false (by omega)
theorem nle_t {a b : Nat} (h : a ≤ b) : (a ≤ b) = True := eq_true h
theorem nle_f {a b : Nat} (h : b < a) : (a ≤ b) = False := eq_false (by omega)
theorem neq_t {a b : Nat} (h : a = b) : (a = b) = True := eq_true h
theorem neq_f {a b : Nat} (h : a ≠ b) : (a = b) = False := eq_false h
theorem beqI {a b : Int} : ((a == b) = true) = (a = b) := by simp
theorem bneI {a b : Int} : ((a != b) = true) = (a ≠ b) := by simp
theorem beqIf {a b : Int} : ((a == b) = false) = (a ≠ b) := by simp
theorem bneIf {a b : Int} : ((a != b) = false) = (a = b) := by simp
/-- Calls. -/
def callW (P : Program) (H : Hp) (K : V → Hp → Prop) (g : FuncId) (vs : List V) (o : Option (List V)) : Prop :=
  (∃ us r, o = some us ∧ PC P g us r ∧ (vs.all (flat 9) = true ∨ dry 9 r = true) ∧ K r H) ∨ SC P g vs H K
def callX (P : Program) (H : Hp) (K : V → Hp → Prop) (g : FuncId) (vs : List V) (o : Option (List V)) : Prop :=
  (∃ us r, o = some us ∧ PC P g us r ∧ (vs.all (flat 9) = true ∨ dry 9 r = true) ∧ K r H) ∨ (∃ v q, quiet vs H v q ∧ QC P g vs H v q (vs.flatMap (touch H 9)) ∧ K v (setO H q))
def callP (P : Program) (H : Hp) (K : V → Hp → Prop) (vs : List V) : V → Prop
  | .clo g first cap => callW P H K g (first ++ vs ++ cap) (viewArgs H (first ++ vs ++ cap))
  | .yld b => YC P b vs H K
  | _ => False
def callPD (P : Program) (H : Hp) (K : V → Hp → Prop) (vs : List V) : V → Prop
  | .clo g first cap => callX P H K g (first ++ vs ++ cap) (viewArgs H (first ++ vs ++ cap))
  | _ => False
theorem wpOp_call {fv : Operand} {args : Array Operand} {ts : Array TypeId} : wpOp P T H (.call { callee := .value fv, args, argTypes := ts }) K = callP P H K (args.toList.map (ev T)) (ev T fv) := by
  unfold wpOp wpVal
  simp only [evN, evA, evL, wpEff]
  cases h : ev T fv <;> simp only [callP, callW, wpPC, h]
theorem wpOpD_call {fv : Operand} {args : Array Operand} {ts : Array TypeId} : wpOpD P T H (.call { callee := .value fv, args, argTypes := ts }) K = callPD P H K (args.toList.map (ev T)) (ev T fv) := by
  unfold wpOpD
  simp only [wpPC, wpQC]
  cases h : ev T fv <;> simp only [callPD, callX, or_self]
theorem callP_clo {vs first cap : List V} {g : FuncId} : callP P H K vs (.clo g first cap) = callW P H K g (first ++ vs ++ cap) (viewArgs H (first ++ vs ++ cap)) := rfl
theorem callP_yld {vs : List V} {b : Nat} : callP P H K vs (.yld b) = YC P b vs H K := rfl
theorem callPD_clo {vs first cap : List V} {g : FuncId} : callPD P H K vs (.clo g first cap) = callX P H K g (first ++ vs ++ cap) (viewArgs H (first ++ vs ++ cap)) := rfl
theorem call_pc {g : FuncId} {vs us : List V} {r : V} (hp : PC P g us r) (hd : vs.all (flat 9) = true ∨ dry 9 r = true) (hK : K r H) : callW P H K g vs (some us) := .inl ⟨us, r, rfl, hp, hd, hK⟩
theorem call_sc {g : FuncId} {vs : List V} {o : Option (List V)} (h : SC P g vs H K) : callW P H K g vs o := .inr h
theorem callD_pc {g : FuncId} {vs us : List V} {r : V} (hp : PC P g us r) (hd : vs.all (flat 9) = true ∨ dry 9 r = true) (hK : K r H) : callX P H K g vs (some us) := .inl ⟨us, r, rfl, hp, hd, hK⟩
theorem evT_cons {T : List V} {a : Operand} {l : List Operand} : (a :: l).map (ev T) = ev T a :: l.map (ev T) := rfl
theorem evT_nil {T : List V} : ([] : List Operand).map (ev T) = [] := rfl
theorem retP_normal {rs : List ResultVar} {R : V → Hp → Prop} : retP P rs R .normal T H = (match resVs (tyOf P) T H rs with
  | some vs => R (retV vs) H
  | none => False) := rfl

theorem wr_i64 {x : Int} (h : -9223372036854775808 ≤ x ∧ x < 9223372036854775808) : IntKind.i64.wrap x = x := wrap_i64 h.1 h.2
theorem wr_u32 {x : Int} (h : 0 ≤ x ∧ x < 4294967296) : IntKind.u32.wrap x = x := wrap_u32 h.1 h.2
theorem wr_u64 {x : Int} (h : 0 ≤ x ∧ x < 18446744073709551616) : IntKind.u64.wrap x = x := wrap_u64 h.1 h.2
theorem wr_u8 {x : Int} (h : 0 ≤ x ∧ x < 256) : IntKind.u8.wrap x = x := wrap_u8 h.1 h.2
theorem nc_add {a b : Nat} : (a : Int) + (b : Int) = ((a + b : Nat) : Int) := rfl
theorem nc_add1 {a : Nat} : (a : Int) + 1 = ((a + 1 : Nat) : Int) := rfl
theorem nc_add2 {a : Nat} : (a : Int) + 2 = ((a + 2 : Nat) : Int) := rfl
theorem nc_1add {a : Nat} : 1 + (a : Int) = ((1 + a : Nat) : Int) := rfl
theorem nc_mul {a b : Nat} : (a : Int) * (b : Int) = ((a * b : Nat) : Int) := rfl
theorem nc_sub {a b : Nat} (h : b ≤ a) : (a : Int) - (b : Int) = ((a - b : Nat) : Int) := by omega
theorem nc_sub1 {a : Nat} (h : 1 ≤ a) : (a : Int) - 1 = ((a - 1 : Nat) : Int) := by omega
theorem nc_pos {a : Nat} : (0 ≤ (a : Int)) = True := by simp
theorem nc_lt {a b : Nat} : ((a : Int) < (b : Int)) = (a < b) := by simp
theorem nc_le {a b : Nat} : ((a : Int) ≤ (b : Int)) = (a ≤ b) := by simp
theorem nc_eq {a b : Nat} : ((a : Int) = (b : Int)) = (a = b) := propext ⟨fun h => Int.ofNat.inj h, fun h => by rw [h]⟩
theorem nc_lt0 {a : Nat} : ((a : Int) < 0) = False := by simp
theorem nc_gt {a b : Int} : (a > b) = (b < a) := rfl
theorem nc_ge {a b : Int} : (a ≥ b) = (b ≤ a) := rfl
theorem nat_gt {a b : Nat} : (a > b) = (b < a) := rfl
theorem nat_ge {a b : Nat} : (a ≥ b) = (b ≤ a) := rfl
theorem mod_lt' {a b : Nat} (h : a < b) : a % b = a := Nat.mod_eq_of_lt h
/-- What is owed at the end of a round of a loop. -/
def lpQ {S : Type} (st : S → (Nat → V) → List V) (Inv : S → Hp → Prop) (m : S → Nat) (s : S) (Q : Post) : Post := fun x T' H' => match x with
  | .normal => ∃ s', T' = st s' (fun k => T'.getD k undefV) ∧ Inv s' H' ∧ m s' < m s
  | x => Q x T' H'
theorem lp_next {S : Type} {st : S → (Nat → V) → List V} {Inv : S → Hp → Prop} {m : S → Nat} {s : S} {Q : Post} (s' : S) (h1 : T = st s' (fun k => T.getD k undefV)) (h2 : Inv s' H) (h3 : m s' < m s) : lpQ st Inv m s Q .normal T H := ⟨s', h1, h2, h3⟩
theorem lpQ_exit {S : Type} {st : S → (Nat → V) → List V} {Inv : S → Hp → Prop} {m : S → Nat} {s : S} {Q : Post} {i : Nat} : lpQ st Inv m s Q (.exit i) T H = Q (.exit i) T H := rfl
theorem lpQ_goto {S : Type} {st : S → (Nat → V) → List V} {Inv : S → Hp → Prop} {m : S → Nat} {s : S} {Q : Post} {i : Nat} : lpQ st Inv m s Q (.goto i) T H = Q (.goto i) T H := rfl
theorem lpQ_ret {S : Type} {st : S → (Nat → V) → List V} {Inv : S → Hp → Prop} {m : S → Nat} {s : S} {Q : Post} : lpQ st Inv m s Q .ret T H = Q .ret T H := rfl
theorem wp_lp {c : LC} {S : Type} (st : S → (Nat → V) → List V) (Inv : S → Hp → Prop) (m : S → Nat) (s0 : S) (h1 : T = st s0 (fun k => T.getD k undefV)) (h2 : Inv s0 H)
    (step : ∀ s J H, Inv s H → wpL P c (st s J) H (lpQ st Inv m s Q)) : wpL P (.loop c) T H Q :=
  wp_loop st Inv m s0 h1 h2 fun s J H hi => wpL_mono c (fun x T' H' hq => by cases x <;> exact hq) (step s J H hi)
theorem RS : (∀ {a0 a1 a2 a3 a4 a5 a6 a7 a8 a9 a10 a11 a12 a13 a14 a15 a16 a17 a18 a19 a20 a21 a22 a23 a24 a25 a26 a27 a28 a29 a30 a31 : V} {xs : List V} {i : Nat} {v : V}, (a0 :: a1 :: a2 :: a3 :: a4 :: a5 :: a6 :: a7 :: a8 :: a9 :: a10 :: a11 :: a12 :: a13 :: a14 :: a15 :: a16 :: a17 :: a18 :: a19 :: a20 :: a21 :: a22 :: a23 :: a24 :: a25 :: a26 :: a27 :: a28 :: a29 :: a30 :: a31 :: xs).set (i + 32) v = a0 :: a1 :: a2 :: a3 :: a4 :: a5 :: a6 :: a7 :: a8 :: a9 :: a10 :: a11 :: a12 :: a13 :: a14 :: a15 :: a16 :: a17 :: a18 :: a19 :: a20 :: a21 :: a22 :: a23 :: a24 :: a25 :: a26 :: a27 :: a28 :: a29 :: a30 :: a31 :: xs.set i v) ∧
  (∀ {a0 a1 a2 a3 a4 a5 a6 a7 a8 a9 a10 a11 a12 a13 a14 a15 a16 a17 a18 a19 a20 a21 a22 a23 a24 a25 a26 a27 a28 a29 a30 a31 : V} {xs : List V} {i : Nat} {v : V}, (a0 :: a1 :: a2 :: a3 :: a4 :: a5 :: a6 :: a7 :: a8 :: a9 :: a10 :: a11 :: a12 :: a13 :: a14 :: a15 :: a16 :: a17 :: a18 :: a19 :: a20 :: a21 :: a22 :: a23 :: a24 :: a25 :: a26 :: a27 :: a28 :: a29 :: a30 :: a31 :: xs).getD (i + 32) v = xs.getD i v) ∧
  (∀ {a0 a1 a2 a3 a4 a5 a6 a7 : V} {xs : List V} {i : Nat} {v : V}, (a0 :: a1 :: a2 :: a3 :: a4 :: a5 :: a6 :: a7 :: xs).set (i + 8) v = a0 :: a1 :: a2 :: a3 :: a4 :: a5 :: a6 :: a7 :: xs.set i v) ∧
  (∀ {a0 a1 a2 a3 a4 a5 a6 a7 : V} {xs : List V} {i : Nat} {v : V}, (a0 :: a1 :: a2 :: a3 :: a4 :: a5 :: a6 :: a7 :: xs).getD (i + 8) v = xs.getD i v) :=
  ⟨by intros; rfl, by intros; simp only [List.getD_cons_succ], by intros; rfl, by intros; simp only [List.getD_cons_succ]⟩

/-- Ways, taken only when the condition is known. -/
def condG (P : Program) (a b : LC) (T : List V) (H : Hp) (Q : Post) : V → Prop
  | .prim (.bool t) => (t = true → wpL P a T H Q) ∧ (t = false → wpL P b T H Q)
  | _ => False
theorem wpL_condG {c : Operand} {a b : LC} : wpL P (.cond c a b) (t :: T) H Q = condG P a b (t :: T) H Q (ev (t :: T) c) := by rw [wpL]; rfl
theorem condG_t {a b : LC} : condG P a b T H Q (.prim (.bool true)) = wpL P a T H Q := by simp [condG]
theorem condG_f {a b : LC} : condG P a b T H Q (.prim (.bool false)) = wpL P b T H Q := by simp [condG]
theorem condG_d {a b : LC} {p : Prop} [Decidable p] : condG P a b T H Q (.prim (.bool (decide p))) = ((p → wpL P a T H Q) ∧ (¬ p → wpL P b T H Q)) := by simp [condG]
def gG (W : List V → Hp → Op → (V → Hp → Prop) → Prop) (want : Bool) (T : List V) (H : Hp) (op : Op) (K : V → Hp → Prop) : V → Prop
  | .prim (.bool t) => (t = want → W T H op K) ∧ (t = !want → K undefV H)
  | .tup [] => K undefV H
  | _ => False
theorem wpG_someG {W : List V → Hp → Op → (V → Hp → Prop) → Prop} {d : Option Tmp} {op : Op} {i b g : Nat} {want : Bool} : wpG W (t :: T) H ⟨d, op, some (g, want), i, b⟩ K = gG W want (t :: T) H op K ((t :: T).getD g undefV) := rfl
theorem gG_tt {W : List V → Hp → Op → (V → Hp → Prop) → Prop} {op : Op} : gG W true T H op K (.prim (.bool true)) = W T H op K := by simp [gG]
theorem gG_ff {W : List V → Hp → Op → (V → Hp → Prop) → Prop} {op : Op} : gG W false T H op K (.prim (.bool false)) = W T H op K := by simp [gG]
theorem gG_tf {W : List V → Hp → Op → (V → Hp → Prop) → Prop} {op : Op} : gG W true T H op K (.prim (.bool false)) = K undefV H := by simp [gG]
theorem gG_ft {W : List V → Hp → Op → (V → Hp → Prop) → Prop} {op : Op} : gG W false T H op K (.prim (.bool true)) = K undefV H := by simp [gG]
theorem gG_u {W : List V → Hp → Op → (V → Hp → Prop) → Prop} {op : Op} {want : Bool} : gG W want T H op K (.tup []) = K undefV H := rfl
theorem gG_dt {W : List V → Hp → Op → (V → Hp → Prop) → Prop} {op : Op} {p : Prop} [Decidable p] : gG W true T H op K (.prim (.bool (decide p))) = ((p → W T H op K) ∧ (¬ p → K undefV H)) := by simp [gG]
theorem gG_df {W : List V → Hp → Op → (V → Hp → Prop) → Prop} {op : Op} {p : Prop} [Decidable p] : gG W false T H op K (.prim (.bool (decide p))) = ((¬ p → W T H op K) ∧ (p → K undefV H)) := by simp [gG]
theorem gG_v {W : List V → Hp → Op → (V → Hp → Prop) → Prop} {op : Op} {want : Bool} : gG W want T H op K undefV = K undefV H := rfl
theorem tn1 : Int.toNat 1 = 1 := rfl
theorem tn2 : Int.toNat 2 = 2 := rfl
/-- Small rules under one name (for the claims' texts). -/
theorem RX : (Int.toNat 0 = 0) ∧ (Int.toNat 1 = 1) ∧ (Int.toNat 2 = 2) ∧ (Int.toNat 3 = 3) ∧ (Int.toNat 4 = 4) ∧ (Int.toNat 5 = 5) ∧ (Int.toNat 6 = 6) ∧ (Int.toNat 7 = 7) ∧
  (∀ {α β : Type} (f : β → α → β) (b : β) (a : α) (l : List α), (a :: l).foldl f b = l.foldl f (f b a)) ∧ (∀ {α β : Type} (f : β → α → β) (b : β), ([] : List α).foldl f b = b) ∧
  (∀ {α : Type} (a : α) (l : List α), (a :: l).length = l.length + 1) ∧ (∀ n : Nat, 0 + n = n) ∧ (∀ p : Prop, (p ∧ p) = p) ∧ (∀ {α : Type} (l : List α), l.drop 0 = l) ∧
  (∀ {α : Type} (a : α) (l : List α) (n : Nat), (a :: l).take (n + 1) = a :: l.take n) ∧ (∀ {α : Type} (l : List α), l.take 0 = []) ∧ (∀ {α : Type} (a : α) (l : List α) (n : Nat), (a :: l).drop (n + 1) = l.drop n) ∧
  (∀ {α : Type} (n : Nat), ([] : List α).drop n = []) ∧ (∀ {α : Type} (n : Nat), ([] : List α).take n = []) ∧ (∀ (a b : Nat) (l : List Nat), (a :: l).contains b = (b == a || l.contains b)) ∧ (∀ b : Nat, ([] : List Nat).contains b = false) ∧
  (∀ b : Bool, (b && false) = false) ∧ (∀ b : Bool, (false && b) = false) ∧ (∀ b : Bool, (true && b) = b) ∧ (∀ b : Bool, (b || true) = true) ∧ (∀ b : Bool, (true || b) = true) ∧ (∀ b : Bool, (false || b) = b) :=
  ⟨rfl, rfl, rfl, rfl, rfl, rfl, rfl, rfl, fun _ _ _ _ => rfl, fun _ _ => rfl, fun _ _ => rfl, Nat.zero_add, and_self, fun _ => rfl, fun _ _ _ => rfl, fun _ => List.take_zero, fun _ _ _ => rfl, fun _ => List.drop_nil, fun _ => List.take_nil,
   fun _ _ _ => List.contains_cons, fun _ => rfl, Bool.and_false, Bool.false_and, Bool.true_and, Bool.or_true, Bool.true_or, Bool.false_or⟩
theorem retV_nil : retV [] = .tup [] := rfl
theorem retV_two {a b : V} {l : List V} : retV (a :: b :: l) = .tup (a :: b :: l) := rfl
theorem RE : type_of% (And.intro @readAt.eq_1 (And.intro @writeAt.eq_1 (And.intro @wpStore.eq_1 (And.intro @appP.eq_1 (And.intro @copyP.eq_1 (And.intro @resVs.eq_1 (And.intro @resVs.eq_2 (And.intro @resV.eq_1 (And.intro @resV.eq_2 (And.intro @retV.eq_1 (And.intro retV_nil @retV_two))))))))))) :=
  And.intro @readAt.eq_1 (And.intro @writeAt.eq_1 (And.intro @wpStore.eq_1 (And.intro @appP.eq_1 (And.intro @copyP.eq_1 (And.intro @resVs.eq_1 (And.intro @resVs.eq_2 (And.intro @resV.eq_1 (And.intro @resV.eq_2 (And.intro @retV.eq_1 (And.intro retV_nil @retV_two))))))))))
theorem RK : (∀ {α : Type} (a : α), (a = a) = True) ∧ type_of% @clash.eq_1 := ⟨fun _ => eq_self _, @clash.eq_1⟩
theorem RN : (∀ (k : Nat) (l : List V), entryT k l = l ++ List.replicate (k - l.length) undefV) ∧ (∀ (a : V) (l : List V), (a :: l).length = l.length + 1) ∧ (([] : List V).length = 0) ∧
  (∀ (n : Nat) (a : V), List.replicate (n + 1) a = a :: List.replicate n a) ∧ (∀ a : V, List.replicate 0 a = []) ∧ (∀ (a : V) (l m : List V), a :: l ++ m = a :: (l ++ m)) ∧ (∀ m : List V, [] ++ m = m) :=
  ⟨fun _ _ => rfl, fun _ _ => rfl, rfl, fun _ _ => rfl, fun _ => rfl, fun _ _ _ => rfl, fun _ => rfl⟩
theorem cP {P : Program} {H : Hp} {K : V → Hp → Prop} {g : FuncId} {vs us : List V} {r : V} (hp : PC P g us r) (hK : K r H) (hd : vs.all (flat 9) = true ∨ dry 9 r = true := by first | exact .inl rfl | exact .inr rfl) : callW P H K g vs (some us) := call_pc hp hd hK
theorem cD {P : Program} {H : Hp} {K : V → Hp → Prop} {g : FuncId} {vs us : List V} {r : V} (hp : PC P g us r) (hK : K r H) (hd : vs.all (flat 9) = true ∨ dry 9 r = true := by first | exact .inl rfl | exact .inr rfl) : callX P H K g vs (some us) := callD_pc hp hd hK
end Go.Av
namespace Go.Av
open Go.RowKit
set_option maxRecDepth 100000 in
theorem RW : (∀ {P : Program} {t : V} {T : List V} {H : Hp} {Q : Post}, wpL P LC.skip (t :: T) H Q = Q X.normal (t :: T) H) ∧
  (∀ {P : Program} {t : V} {T : List V} {H : Hp} {Q : Post} {l : List LOp}, wpL P (LC.ops false l) (t :: T) H Q = wpOps P l (t :: T) H (Q X.normal)) ∧
  (∀ {P : Program} {t : V} {T : List V} {H : Hp} {Q : Post} {l : List LOp}, wpL P (LC.ops true l) (t :: T) H Q = wpOpsD P l [] (t :: T) H (Q X.normal)) ∧
  (∀ {P : Program} {t : V} {T : List V} {H : Hp} {Q : Post} {a b : LC}, wpL P (a.seq b) (t :: T) H Q = wpL P a (t :: T) H (seqQ P b Q)) ∧
  (∀ {P : Program} {t : V} {T : List V} {H : Hp} {Q : Post} {id : Nat} {c : LC}, wpL P (LC.block id c) (t :: T) H Q = wpL P c (t :: T) H (blockQ id Q)) ∧
  (∀ {P : Program} {t : V} {T : List V} {H : Hp} {Q : Post} {id : Nat}, wpL P (LC.exit id) (t :: T) H Q = Q (X.exit id) (t :: T) H) ∧
  (∀ {P : Program} {t : V} {T : List V} {H : Hp} {Q : Post} {id : Nat}, wpL P (LC.goto id) (t :: T) H Q = Q (X.goto id) (t :: T) H) ∧
  (∀ {P : Program} {t : V} {T : List V} {H : Hp} {Q : Post}, wpL P LC.ret (t :: T) H Q = Q X.ret (t :: T) H) ∧
  (∀ {P : Program} {T : List V} {H : Hp} {Q : Post} {b : LC}, seqQ P b Q X.normal T H = wpL P b T H Q) ∧
  (∀ {P : Program} {T : List V} {H : Hp} {Q : Post} {b : LC} {i : Nat}, seqQ P b Q (X.exit i) T H = Q (X.exit i) T H) ∧
  (∀ {P : Program} {T : List V} {H : Hp} {Q : Post} {b : LC} {i : Nat}, seqQ P b Q (X.goto i) T H = Q (X.goto i) T H) ∧
  (∀ {P : Program} {T : List V} {H : Hp} {Q : Post} {b : LC}, seqQ P b Q X.ret T H = Q X.ret T H) ∧
  (∀ {T : List V} {H : Hp} {Q : Post} {id : Nat}, blockQ id Q X.normal T H = Q X.normal T H) ∧
  (∀ {T : List V} {H : Hp} {Q : Post} {id i : Nat}, blockQ id Q (X.exit i) T H = if i = id then Q X.normal T H else Q (X.exit i) T H) ∧
  (∀ {T : List V} {H : Hp} {Q : Post} {id i : Nat}, blockQ id Q (X.goto i) T H = Q (X.goto i) T H) ∧
  (∀ {T : List V} {H : Hp} {Q : Post} {id : Nat}, blockQ id Q X.ret T H = Q X.ret T H) ∧
  (∀ {P : Program} {t : V} {T : List V} {H : Hp} {Qo : List V → Hp → Prop} {os : List LOp} {d : Option Tmp} {v : V}, opsK P os (t :: T) d Qo v H = wpOps P os (putT (t :: T) d v) H Qo) ∧
  (∀ {P : Program} {t : V} {T : List V} {H : Hp} {Qo : List V → Hp → Prop} {os : List LOp} {h : Hist} {d : Option Tmp} {v : V}, opsKD P os h (t :: T) d Qo v H = wpOpsD P os h (putT (t :: T) d v) H Qo) ∧
  (∀ {T : List V} {d : Tmp} {v : V}, putT T (some d) v = T.set d v) ∧
  (∀ {T : List V} {v : V}, putT T none v = T) ∧
  (∀ {P : Program} {t : V} {T : List V} {H : Hp} {Qo : List V → Hp → Prop}, wpOps P [] (t :: T) H Qo = Qo (t :: T) H) ∧
  (∀ {P : Program} {t : V} {T : List V} {H : Hp} {Qo : List V → Hp → Prop} {o : LOp} {os : List LOp}, wpOps P (o :: os) (t :: T) H Qo = wpG (wpOp P) (t :: T) H o (opsK P os (t :: T) o.dst Qo)) ∧
  (∀ {P : Program} {t : V} {T : List V} {H : Hp} {Qo : List V → Hp → Prop} {h : Hist}, wpOpsD P [] h (t :: T) H Qo = Qo (t :: T) H) ∧
  (∀ {P : Program} {t : V} {T : List V} {H : Hp} {Qo : List V → Hp → Prop} {o : LOp} {os : List LOp} {h : Hist}, wpOpsD P (o :: os) h (t :: T) H Qo = footQ P o os h (t :: T) H Qo (foot (t :: T) H (List.length H) o.op)) ∧
  (∀ {P : Program} {t : V} {T : List V} {H : Hp} {Qo : List V → Hp → Prop} {o : LOp} {os : List LOp} {h : Hist}, footQ P o os h (t :: T) H Qo none = wpG (wpOpD P) (t :: T) H o (opsKD P os h (t :: T) o.dst Qo)) ∧
  (∀ {P : Program} {t : V} {T : List V} {H : Hp} {Qo : List V → Hp → Prop} {o : LOp} {os : List LOp} {h : Hist} {f : Bool × List Nat}, footQ P o os h (t :: T) H Qo (some f) = (List.any h (clash o.bef f) = false ∧ wpG (wpOpD P) (t :: T) H o (opsKD P os ((o.idx, f) :: h) (t :: T) o.dst Qo))) ∧
  (∀ {t : V} {T : List V} {H : Hp} {K : V → Hp → Prop} {W : List V → Hp → Op → (V → Hp → Prop) → Prop} {d : Option Tmp} {op : Op} {i b : Nat}, wpG W (t :: T) H { dst := d, op := op, guard := none, idx := i, bef := b } K = W (t :: T) H op K) ∧
  (∀ {T : List V} {k : Tmp}, ev T (Operand.tmp k) = T.getD k undefV) ∧
  (∀ {T : List V} {v : Value}, ev T (Operand.const v) = V.prim v) ∧
  (∀ {T : List V} {f : FuncId}, ev T (Operand.func f) = V.clo f [] []) ∧
  (∀ {T : List V} {g : Nat}, ev T (Operand.global g) = V.prim (Value.pointer (some { block := g, off := 0 }))) ∧
  (∀ {H : Hp} {K : V → Hp → Prop} {c : Prop} {v : V}, orP (some (c, v)) K H = (c ∧ K v H)) ∧
  (∀ {P : Program} {T : List V} {H : Hp} {K : V → Hp → Prop} {s : TypeId} {x : Operand} {l h m : Option Operand} {c : Prop} {v : V}, slP P T H s x l h m (some (c, v)) K = (c ∧ K v H)) ∧
  (∀ {H : Hp} {K : V → Hp → Prop} {v : V}, orV (some v) K H = K v H) ∧
  (∀ {H : Hp} {K : V → Hp → Prop} {c : Prop} {k : Blk} {mk : Nat → V}, orA (some (c, k, mk)) K H = (c ∧ K (mk (List.length H)) (H ++ [some k]))) ∧
  (∀ {P : Program} {T : List V} {H : Hp} {K : V → Hp → Prop} {x : Operand}, wpOp P T H (Op.move x) K = K (ev T x) H) ∧
  (∀ {P : Program} {T : List V} {H : Hp} {K : V → Hp → Prop} {x : Operand}, wpOp P T H (Op.assign x) K = K (ev T x) H) ∧
  (∀ {P : Program} {T : List V} {H : Hp} {K : V → Hp → Prop} {c a b : Operand}, wpOp P T H (Op.pick c a b) K = orP (pickV (ev T c) (ev T a) (ev T b)) K H) ∧
  (∀ {c : Bool} {a b : V}, pickV (V.prim (Value.bool c)) a b = some (True, if c = true then a else b)) ∧
  (∀ {P : Program} {T : List V} {H : Hp} {K : V → Hp → Prop} {ty : TypeId} {ps : Array (Nat × Operand)}, wpOp P T H (Op.build ty ps) K = orP (evN (tyOf P) T (Op.build ty ps)) K H) ∧
  (∀ {P : Program} {T : List V} {H : Hp} {K : V → Hp → Prop} {op : BinOp} {ty ty' : TypeId} {x y : Operand}, wpOp P T H (Op.binOp op ty x y ty') K = orP (binV (tyOf P) op ty (ev T x) (ev T y)) K H) ∧
  (∀ {P : Program} {T : List V} {H : Hp} {K : V → Hp → Prop} {op : UnOp} {ty : TypeId} {x : Operand}, wpOp P T H (Op.unOp op ty x) K = orV (unV op (ev T x)) K H) ∧
  (∀ {P : Program} {T : List V} {H : Hp} {K : V → Hp → Prop} {f : FuncId} {first cap : Array Operand}, wpOp P T H (Op.makeFunc (Fn.func f) first cap) K = K (V.clo f (List.map (ev T) first.toList) (List.map (ev T) cap.toList)) H) ∧
  (∀ {P : Program} {T : List V} {H : Hp} {K : V → Hp → Prop} {s : TypeId} {x : Operand} {f : Nat}, wpOp P T H (Op.fieldAddr s x f) K = orP (evN (tyOf P) T (Op.fieldAddr s x f)) K H) ∧
  (∀ {P : Program} {T : List V} {H : Hp} {K : V → Hp → Prop} {s : TypeId} {x : Operand} {f : Nat}, wpOp P T H (Op.field s x f) K = orP (evN (tyOf P) T (Op.field s x f)) K H) ∧
  (∀ {P : Program} {T : List V} {H : Hp} {K : V → Hp → Prop} {s : TypeId} {x f : Operand}, wpOp P T H (Op.indexAddr s x f) K = orP (evN (tyOf P) T (Op.indexAddr s x f)) K H) ∧
  (∀ {P : Program} {T : List V} {H : Hp} {K : V → Hp → Prop} {s : TypeId} {x f : Operand}, wpOp P T H (Op.index s x f) K = orP (evN (tyOf P) T (Op.index s x f)) K H) ∧
  (∀ {P : Program} {T : List V} {H : Hp} {K : V → Hp → Prop} {s : TypeId} {x : Operand} {l h m : Option Operand}, wpOp P T H (Op.slice s x l h m) K = slP P T H s x l h m (evN (tyOf P) T (Op.slice s x l h m)) K) ∧
  (∀ {P : Program} {T : List V} {H : Hp} {K : V → Hp → Prop} {x : Operand} {ix : Nat}, wpOp P T H (Op.extract x ix) K = orV (extractV (ev T x) ix) K H) ∧
  (∀ {vs : List V} {ix : Nat}, extractV (V.tup vs) ix = vs[ix]?) ∧
  (∀ {P : Program} {T : List V} {H : Hp} {K : V → Hp → Prop} {args : Array Operand} {ts : Array TypeId}, wpOp P T H (Op.call { callee := Callee.builtin Builtin.len, args := args, argTypes := ts }) K = orP (evN (tyOf P) T (Op.call { callee := Callee.builtin Builtin.len, args := args, argTypes := ts })) K H) ∧
  (∀ {P : Program} {T : List V} {H : Hp} {K : V → Hp → Prop} {args : Array Operand} {ts : Array TypeId}, wpOp P T H (Op.call { callee := Callee.builtin Builtin.cap, args := args, argTypes := ts }) K = orP (evN (tyOf P) T (Op.call { callee := Callee.builtin Builtin.cap, args := args, argTypes := ts })) K H) ∧
  (∀ {P : Program} {T : List V} {H : Hp} {K : V → Hp → Prop} {args : Array Operand} {ts : Array TypeId}, wpOp P T H (Op.call { callee := Callee.builtin Builtin.max, args := args, argTypes := ts }) K = orP (evN (tyOf P) T (Op.call { callee := Callee.builtin Builtin.max, args := args, argTypes := ts })) K H) ∧
  (∀ {P : Program} {T : List V} {H : Hp} {K : V → Hp → Prop} {args : Array Operand} {ts : Array TypeId}, wpOp P T H (Op.call { callee := Callee.builtin Builtin.min, args := args, argTypes := ts }) K = orP (evN (tyOf P) T (Op.call { callee := Callee.builtin Builtin.min, args := args, argTypes := ts })) K H) ∧
  (∀ {P : Program} {T : List V} {H : Hp} {K : V → Hp → Prop} {ty : TypeId} {x : Operand}, wpOp P T H (Op.load ty x) K = orV (evL (tyOf P) T H (Op.load ty x)) K H) ∧
  (∀ {P : Program} {T : List V} {H : Hp} {K : V → Hp → Prop} {ty : TypeId}, wpOp P T H (Op.alloc ty) K = orA (evA (tyOf P) T (Op.alloc ty)) K H) ∧
  (∀ {P : Program} {T : List V} {H : Hp} {K : V → Hp → Prop} {ty : TypeId} {x : Operand}, wpOp P T H (Op.box ty x) K = K (V.ptr (List.length H) 0 0) (H ++ [some (Blk.row (ev T x).cells.length true [(ev T x).cells])])) ∧
  (∀ {P : Program} {T : List V} {H : Hp} {K : V → Hp → Prop} {ty : TypeId} {l c : Operand}, wpOp P T H (Op.makeSlice ty l c) K = orA (evA (tyOf P) T (Op.makeSlice ty l c)) K H) ∧
  (∀ {P : Program} {T : List V} {H : Hp} {K : V → Hp → Prop} {ty : TypeId} {l : Nat} {ps : Array (Nat × Operand)}, wpOp P T H (Op.buildSlice ty l ps) K = orA (evA (tyOf P) T (Op.buildSlice ty l ps)) K H) ∧
  (∀ {P : Program} {T : List V} {H : Hp} {K : V → Hp → Prop} {ty : TypeId} {a x : Operand}, wpOp P T H (Op.store ty a x) K = wpStore P T H ty a x K) ∧
  (∀ {P : Program} {T : List V} {H : Hp} {K : V → Hp → Prop} {s d : TypeId} {x : Operand}, wpOp P T H (Op.convert s d x) K = orE (evN (tyOf P) T (Op.convert s d x)) (evL (tyOf P) T H (Op.convert s d x)) K H) ∧
  (∀ {H : Hp} {K : V → Hp → Prop} {c : Prop} {v : V} {b : Option V}, orE (some (c, v)) b K H = (c ∧ K v H)) ∧
  (∀ {H : Hp} {K : V → Hp → Prop} {b : Option V}, orE none b K H = orV b K H) ∧
  (∀ {P : Program} {T : List V} {H : Hp} {K : V → Hp → Prop} {x : Operand}, wpOpD P T H (Op.move x) K = wpOp P T H (Op.move x) K) ∧
  (∀ {P : Program} {T : List V} {H : Hp} {K : V → Hp → Prop} {x : Operand}, wpOpD P T H (Op.assign x) K = wpOp P T H (Op.assign x) K) ∧
  (∀ {P : Program} {T : List V} {H : Hp} {K : V → Hp → Prop} {c a b : Operand}, wpOpD P T H (Op.pick c a b) K = wpOp P T H (Op.pick c a b) K) ∧
  (∀ {P : Program} {T : List V} {H : Hp} {K : V → Hp → Prop} {ty : TypeId} {ps : Array (Nat × Operand)}, wpOpD P T H (Op.build ty ps) K = wpOp P T H (Op.build ty ps) K) ∧
  (∀ {P : Program} {T : List V} {H : Hp} {K : V → Hp → Prop} {op : BinOp} {ty ty' : TypeId} {x y : Operand}, wpOpD P T H (Op.binOp op ty x y ty') K = wpOp P T H (Op.binOp op ty x y ty') K) ∧
  (∀ {P : Program} {T : List V} {H : Hp} {K : V → Hp → Prop} {op : UnOp} {ty : TypeId} {x : Operand}, wpOpD P T H (Op.unOp op ty x) K = wpOp P T H (Op.unOp op ty x) K) ∧
  (∀ {P : Program} {T : List V} {H : Hp} {K : V → Hp → Prop} {s d : TypeId} {x : Operand}, wpOpD P T H (Op.convert s d x) K = wpOp P T H (Op.convert s d x) K) ∧
  (∀ {P : Program} {T : List V} {H : Hp} {K : V → Hp → Prop} {f : Fn} {first cap : Array Operand}, wpOpD P T H (Op.makeFunc f first cap) K = wpOp P T H (Op.makeFunc f first cap) K) ∧
  (∀ {P : Program} {T : List V} {H : Hp} {K : V → Hp → Prop} {s : TypeId} {x : Operand} {f : Nat}, wpOpD P T H (Op.fieldAddr s x f) K = wpOp P T H (Op.fieldAddr s x f) K) ∧
  (∀ {P : Program} {T : List V} {H : Hp} {K : V → Hp → Prop} {s : TypeId} {x : Operand} {f : Nat}, wpOpD P T H (Op.field s x f) K = wpOp P T H (Op.field s x f) K) ∧
  (∀ {P : Program} {T : List V} {H : Hp} {K : V → Hp → Prop} {s : TypeId} {x f : Operand}, wpOpD P T H (Op.indexAddr s x f) K = wpOp P T H (Op.indexAddr s x f) K) ∧
  (∀ {P : Program} {T : List V} {H : Hp} {K : V → Hp → Prop} {s : TypeId} {x f : Operand}, wpOpD P T H (Op.index s x f) K = wpOp P T H (Op.index s x f) K) ∧
  (∀ {P : Program} {T : List V} {H : Hp} {K : V → Hp → Prop} {s : TypeId} {x : Operand} {l h m : Option Operand}, wpOpD P T H (Op.slice s x l h m) K = orP (evN (tyOf P) T (Op.slice s x l h m)) K H) ∧
  (∀ {P : Program} {T : List V} {H : Hp} {K : V → Hp → Prop} {x : Operand} {ix : Nat}, wpOpD P T H (Op.extract x ix) K = wpOp P T H (Op.extract x ix) K) ∧
  (∀ {P : Program} {T : List V} {H : Hp} {K : V → Hp → Prop} {b : Builtin} {args : Array Operand} {ts : Array TypeId}, wpOpD P T H (Op.call { callee := Callee.builtin b, args := args, argTypes := ts }) K = wpOp P T H (Op.call { callee := Callee.builtin b, args := args, argTypes := ts }) K) ∧
  (∀ {P : Program} {T : List V} {H : Hp} {K : V → Hp → Prop} {ty : TypeId} {x : Operand}, wpOpD P T H (Op.load ty x) K = wpOp P T H (Op.load ty x) K) ∧
  (∀ {P : Program} {T : List V} {H : Hp} {K : V → Hp → Prop} {ty : TypeId}, wpOpD P T H (Op.alloc ty) K = wpOp P T H (Op.alloc ty) K) ∧
  (∀ {P : Program} {T : List V} {H : Hp} {K : V → Hp → Prop} {ty : TypeId} {x : Operand}, wpOpD P T H (Op.box ty x) K = wpOp P T H (Op.box ty x) K) ∧
  (∀ {P : Program} {T : List V} {H : Hp} {K : V → Hp → Prop} {ty : TypeId} {l c : Operand}, wpOpD P T H (Op.makeSlice ty l c) K = wpOp P T H (Op.makeSlice ty l c) K) ∧
  (∀ {P : Program} {T : List V} {H : Hp} {K : V → Hp → Prop} {ty : TypeId} {l : Nat} {ps : Array (Nat × Operand)}, wpOpD P T H (Op.buildSlice ty l ps) K = wpOp P T H (Op.buildSlice ty l ps) K) ∧
  (∀ {P : Program} {T : List V} {H : Hp} {K : V → Hp → Prop} {ty : TypeId} {a x : Operand}, wpOpD P T H (Op.store ty a x) K = wpOp P T H (Op.store ty a x) K) ∧
  (∀ {α : Type} {x : α} {xs : List α} {i : Nat} {a : α}, (x :: xs).set (i + 1) a = x :: xs.set i a) ∧
  (∀ {α : Type} {x : α} {xs : List α} {a : α}, (x :: xs).set 0 a = a :: xs) ∧
  (∀ {α : Type} {x : α} {xs : List α} {n : Nat} {d : α}, (x :: xs).getD (n + 1) d = xs.getD n d) ∧
  (∀ {α : Type} {x : α} {xs : List α} {d : α}, (x :: xs).getD 0 d = x) ∧
  (∀ {α : Type} {xs : List α} {i : Nat}, xs.toArray[i]? = xs[i]?) ∧
  (∀ {α : Type} {a : α} {l : List α}, (a :: l)[0]? = some a) ∧
  (∀ {α : Type} {a : α} {i : Nat} {l : List α}, (a :: l)[i + 1]? = l[i]?) ∧
  (∀ (p : Prop), (True ∧ p) = p) ∧
  (∀ {α : Type} {x : Decidable True} (t e : α), (if True then t else e) = t) ∧
  ((false = true) = False) ∧
  ((true = false) = False) ∧
  (∀ {α : Type} {x : Decidable False} (t e : α), (if False then t else e) = e) ∧
  (∀ {α : Type}, ([] : List α).length = 0) ∧
  (∀ {α : Type} {a : α}, [a].length = 1) ∧
  (∀ {H : Hp} {k : Option Blk}, get (k :: H) 0 = k) ∧
  (∀ {H : Hp} {k : Option Blk} {n : Nat}, get (k :: H) (n + 1) = get H n) ∧
  (∀ {x y : V}, writeAt [x] 0 [y] = [y]) ∧
  (∀ {x : Value}, (V.prim x).cells = [V.prim x]) ∧
  (∀ {e : List V}, (V.agg e).cells = e) ∧
  (∀ {n : Nat} {e : List (List V)}, (V.lst n e).cells = [V.lst n e]) ∧
  (∀ {b o n c z : Nat} {fx : Bool}, (V.sref b o n c z fx).cells = [V.sref b o n c z fx]) ∧
  (∀ {b i j : Nat}, (V.ptr b i j).cells = [V.ptr b i j]) ∧
  (∀ {f : FuncId} {a b : List V}, (V.clo f a b).cells = [V.clo f a b]) ∧
  (∀ {x : Value}, cellV (V.prim x) = true) ∧
  (∀ {n : Nat} {e : List (List V)}, cellV (V.lst n e) = true) ∧
  (∀ {b o n c z : Nat} {fx : Bool}, cellV (V.sref b o n c z fx) = true) ∧
  (∀ {b i j : Nat}, cellV (V.ptr b i j) = true) ∧
  (∀ {f : FuncId} {a b : List V}, cellV (V.clo f a b) = true) ∧
  (∀ {α : Type} {a : α} {l : List α} {f : α → Bool}, (a :: l).all f = (f a && l.all f)) ∧
  (∀ {α : Type} {f : α → Bool}, [].all f = true) ∧
  (∀ (b : Bool), (b && true) = b) ∧
  (∀ (b : Bool), (b && b) = b) ∧
  (∀ {α : Type} {β : Type} (a : α) (f : α → β), Option.map f (some a) = some (f a)) ∧
  (∀ {α : Type} {β : Type} (f : α → β), Option.map f none = none) ∧
  (∀ (p : Prop), (True → p) = p) ∧
  (∀ (p : Prop), (False → p) = True) ∧
  (∀ (p : Prop), (p ∧ True) = p) ∧
  (∀ {p : Prop} [inst : Decidable p], (decide p = true) = p) ∧
  (∀ {p : Prop} {x : Decidable p}, decide p = false ↔ ¬p) ∧
  ((!true) = false) ∧
  ((!false) = true) ∧
  (∀ {α : Type} [inst : BEq α] [ReflBEq α] (a : α), (a == a) = true) ∧
  ((¬True) = False) ∧
  ((¬False) = True) ∧
  (∀ (h : Decidable True), decide True = true) ∧
  (∀ (h : Decidable False), decide False = false) ∧
  (∀ {p : Prop} [g : Decidable p] [h : Decidable ¬p], (decide ¬p) = !decide p) ∧
  (∀ {T : List V} {H : Hp} {n : Nat} {x : Operand}, foot T H n (Op.move x) = none) ∧
  (∀ {T : List V} {H : Hp} {n : Nat} {x : Operand}, foot T H n (Op.assign x) = none) ∧
  (∀ {T : List V} {H : Hp} {n : Nat} {a b c : Operand}, foot T H n (Op.pick a b c) = none) ∧
  (∀ {T : List V} {H : Hp} {n : Nat} {ty : TypeId} {ps : Array (Nat × Operand)}, foot T H n (Op.build ty ps) = none) ∧
  (∀ {T : List V} {H : Hp} {n : Nat} {op : BinOp} {ty ty' : TypeId} {x y : Operand}, foot T H n (Op.binOp op ty x y ty') = none) ∧
  (∀ {T : List V} {H : Hp} {n : Nat} {op : UnOp} {ty : TypeId} {x : Operand}, foot T H n (Op.unOp op ty x) = none) ∧
  (∀ {T : List V} {H : Hp} {n : Nat} {f : Fn} {a b : Array Operand}, foot T H n (Op.makeFunc f a b) = none) ∧
  (∀ {T : List V} {H : Hp} {n : Nat} {s : TypeId} {x : Operand} {f : Nat}, foot T H n (Op.fieldAddr s x f) = none) ∧
  (∀ {T : List V} {H : Hp} {n : Nat} {s : TypeId} {x : Operand} {f : Nat}, foot T H n (Op.field s x f) = none) ∧
  (∀ {T : List V} {H : Hp} {n : Nat} {s : TypeId} {x y : Operand}, foot T H n (Op.indexAddr s x y) = none) ∧
  (∀ {T : List V} {H : Hp} {n : Nat} {s : TypeId} {x y : Operand}, foot T H n (Op.index s x y) = none) ∧
  (∀ {T : List V} {H : Hp} {n : Nat} {s : TypeId} {x : Operand} {a b c : Option Operand}, foot T H n (Op.slice s x a b c) = none) ∧
  (∀ {T : List V} {H : Hp} {n : Nat} {x : Operand} {i : Nat}, foot T H n (Op.extract x i) = none) ∧
  (∀ {T : List V} {H : Hp} {n : Nat} {args : Array Operand} {ts : Array TypeId}, foot T H n (Op.call { callee := Callee.builtin Builtin.len, args := args, argTypes := ts }) = none) ∧
  (∀ {T : List V} {H : Hp} {n : Nat} {args : Array Operand} {ts : Array TypeId}, foot T H n (Op.call { callee := Callee.builtin Builtin.cap, args := args, argTypes := ts }) = none) ∧
  (∀ {T : List V} {H : Hp} {n : Nat} {args : Array Operand} {ts : Array TypeId}, foot T H n (Op.call { callee := Callee.builtin Builtin.max, args := args, argTypes := ts }) = none) ∧
  (∀ {T : List V} {H : Hp} {n : Nat} {args : Array Operand} {ts : Array TypeId}, foot T H n (Op.call { callee := Callee.builtin Builtin.min, args := args, argTypes := ts }) = none) ∧
  (∀ {T : List V} {H : Hp} {n : Nat} {ty : TypeId} {x : Operand}, foot T H n (Op.load ty x) = some (false, blkOf (ev T x))) ∧
  (∀ {T : List V} {H : Hp} {n : Nat} {s d : TypeId} {x : Operand}, foot T H n (Op.convert s d x) = some (false, blkOf (ev T x))) ∧
  (∀ {T : List V} {H : Hp} {n : Nat} {ty : TypeId} {x y : Operand}, foot T H n (Op.store ty x y) = some (true, blkOf (ev T x))) ∧
  (∀ {T : List V} {H : Hp} {n : Nat} {ty : TypeId}, foot T H n (Op.alloc ty) = some (true, [n])) ∧
  (∀ {T : List V} {H : Hp} {n : Nat} {ty : TypeId} {x : Operand}, foot T H n (Op.box ty x) = some (true, [n])) ∧
  (∀ {T : List V} {H : Hp} {n : Nat} {ty : TypeId} {x y : Operand}, foot T H n (Op.makeSlice ty x y) = some (true, [n])) ∧
  (∀ {T : List V} {H : Hp} {n : Nat} {ty : TypeId} {l : Nat} {ps : Array (Nat × Operand)}, foot T H n (Op.buildSlice ty l ps) = some (true, [n])) ∧
  (∀ {T : List V} {H : Hp} {n : Nat} {args : Array Operand} {ts : Array TypeId}, foot T H n (Op.call { callee := Callee.builtin Builtin.append, args := args, argTypes := ts }) = some (true, n :: List.flatMap (fun (x : Operand) => blkOf (ev T x)) args.toList)) ∧
  (∀ {T : List V} {H : Hp} {n : Nat} {args : Array Operand} {ts : Array TypeId}, foot T H n (Op.call { callee := Callee.builtin Builtin.copy, args := args, argTypes := ts }) = some (true, List.flatMap (fun (x : Operand) => blkOf (ev T x)) args.toList)) ∧
  (∀ {T : List V} {H : Hp} {n : Nat} {args : Array Operand} {ts : Array TypeId}, foot T H n (Op.call { callee := Callee.builtin Builtin.clear, args := args, argTypes := ts }) = some (true, List.flatMap (fun (x : Operand) => blkOf (ev T x)) args.toList)) ∧
  (∀ {T : List V} {H : Hp} {n : Nat} {fv : Operand} {args : Array Operand} {ts : Array TypeId}, foot T H n (Op.call { callee := Callee.value fv, args := args, argTypes := ts }) = footC T H args (ev T fv)) ∧
  (∀ {T : List V} {H : Hp} {args : Array Operand} {g : FuncId} {first cap : List V}, footC T H args (V.clo g first cap) = some ((first ++ List.map (ev T) args.toList ++ cap).any hasTop, List.flatMap (touch H 9) (first ++ List.map (ev T) args.toList ++ cap))) ∧
  (∀ {x : Value}, blkOf (V.prim x) = []) ∧
  (∀ {e : List V} {j : Nat}, blkOf (V.ivp e j) = []) ∧
  (∀ {e : List (List V)} {j : Nat}, blkOf (V.lst j e) = []) ∧
  (∀ {e : List V}, blkOf (V.agg e) = []) ∧
  (∀ {e : List V}, blkOf (V.tup e) = []) ∧
  (∀ {b i j : Nat}, blkOf (V.ptr b i j) = [b]) ∧
  (∀ {b o n c z : Nat} {fx : Bool}, blkOf (V.sref b o n c z fx) = [b]) ∧
  (∀ {bef i : Nat} {f g : List Nat}, clash bef (false, f) (i, false, g) = false) ∧
  (∀ {bef i : Nat} {b : Bool} {g : Bool × List Nat}, clash bef (b, []) (i, g) = false) ∧
  (∀ {bef i : Nat} {b : Bool × List Nat} {c : Bool}, clash bef b (i, c, []) = false) ∧
  (∀ {bef i : Nat} {f g : Bool × List Nat}, bef.testBit i = true → clash bef f (i, g) = false) ∧
  (∀ {i x : Nat}, x.testBit i = decide (x / 2 ^ i % 2 = 1)) ∧
  (∀ {H : Hp} {n : Nat} {x : Value}, touch H (n + 1) (V.prim x) = []) ∧
  (∀ {H : Hp} {n j : Nat} {e : List (List V)}, touch H (n + 1) (V.lst j e) = []) ∧
  (∀ {H : Hp} {n : Nat} {e : List V}, touch H (n + 1) (V.agg e) = List.flatMap (touch H n) e) ∧
  (∀ {H : Hp} {n : Nat} {e : List V}, touch H (n + 1) (V.tup e) = List.flatMap (touch H n) e) ∧
  (∀ {H : Hp} {n : Nat} {f : FuncId} {a b : List V}, touch H (n + 1) (V.clo f a b) = List.flatMap (touch H n) a ++ List.flatMap (touch H n) b) ∧
  (∀ {H : Hp} {n b i j : Nat}, touch H (n + 1) (V.ptr b i j) = b :: touchB H n i (get H b)) ∧
  (∀ {H : Hp} {n i sz : Nat} {m : Bool} {es : List (List V)}, touchB H n i (some (Blk.row sz m es)) = List.flatMap (touch H n) (es.getD i [])) ∧
  (∀ {n : Nat} {x : Value}, hasPtr (n + 1) (V.prim x) = false) ∧
  (∀ {n j : Nat} {e : List (List V)}, hasPtr (n + 1) (V.lst j e) = false) ∧
  (∀ {n b o k c z : Nat} {fx : Bool}, hasPtr (n + 1) (V.sref b o k c z fx) = true) ∧
  (∀ {H : Hp} {n : Nat}, touch H (n + 1) undefV = []) ∧
  (hasTop undefV = false) ∧
  (∀ {n : Nat}, hasPtr (n + 1) undefV = false) ∧
  (∀ {x : Value}, hasTop (V.prim x) = false) ∧
  (∀ {j : Nat} {e : List (List V)}, hasTop (V.lst j e) = false) ∧
  (∀ {b o k c z : Nat} {fx : Bool}, hasTop (V.sref b o k c z fx) = false) ∧
  (∀ {e : List V}, hasTop (V.agg e) = e.any (hasPtr 8)) ∧
  (∀ {e : List V}, hasTop (V.tup e) = e.any (hasPtr 8)) ∧
  (∀ {f : FuncId} {a b : List V}, hasTop (V.clo f a b) = (a.any (hasPtr 8) || b.any (hasPtr 8))) ∧
  (∀ {b i j : Nat}, hasTop (V.ptr b i j) = true) ∧
  (∀ {b : Nat}, hasTop (V.yld b) = false) ∧
  (∀ {n : Nat} {e : List V}, hasPtr (n + 1) (V.agg e) = e.any (hasPtr n)) ∧
  (∀ {n : Nat} {e : List V}, hasPtr (n + 1) (V.tup e) = e.any (hasPtr n)) ∧
  (∀ {n : Nat} {f : FuncId} {a b : List V}, hasPtr (n + 1) (V.clo f a b) = (a.any (hasPtr n) || b.any (hasPtr n))) ∧
  (∀ {n b i j : Nat}, hasPtr (n + 1) (V.ptr b i j) = true) ∧
  (∀ {n b : Nat}, hasPtr (n + 1) (V.yld b) = false) ∧
  (∀ {H : Hp} {n : Nat} {x : Value}, view H (n + 1) (V.prim x) = some (V.prim x)) ∧
  (∀ {H : Hp} {n j : Nat} {e : List (List V)}, view H (n + 1) (V.lst j e) = some (V.lst j e)) ∧
  (∀ {H : Hp} {n : Nat} {f : FuncId}, view H (n + 1) (V.clo f [] []) = some (V.clo f [] [])) ∧
  (∀ {H : Hp} {n : Nat} {e : List V}, view H (n + 1) (V.agg e) = Option.map V.agg (view.viewL H n e)) ∧
  (∀ {H : Hp} {n : Nat} {e : List V}, view H (n + 1) (V.tup e) = Option.map V.tup (view.viewL H n e)) ∧
  (∀ {H : Hp} {n : Nat}, view.viewL H n [] = some []) ∧
  (∀ {H : Hp} {n : Nat} {v : V} {vs : List V}, view.viewL H n (v :: vs) = consO (view H n v) (view.viewL H n vs)) ∧
  (∀ {a : V} {b : List V}, consO (some a) (some b) = some (a :: b)) ∧
  (∀ {H : Hp}, viewArgs H [] = some []) ∧
  (∀ {H : Hp} {v : V} {vs : List V}, viewArgs H (v :: vs) = consO (view H 9 v) (viewArgs H vs)) ∧
  (∀ {P : Program} {T : List V} {H : Hp} {K : V → Hp → Prop} {args : Array Operand} {ts : Array TypeId}, wpOp P T H (Op.call { callee := Callee.builtin Builtin.append, args := args, argTypes := ts }) K = appP P T H ts K args[0]? args[1]? ts[0]?) ∧
  (∀ {P : Program} {T : List V} {H : Hp} {K : V → Hp → Prop} {args : Array Operand} {ts : Array TypeId}, wpOp P T H (Op.call { callee := Callee.builtin Builtin.copy, args := args, argTypes := ts }) K = copyP P T H K args[0]? args[1]? ts[0]?) ∧
  (∀ {α : Type} {f : α → Bool}, [].any f = false) ∧
  (∀ {α : Type} {a : α} {l : List α} {f : α → Bool}, (a :: l).any f = (f a || l.any f)) ∧
  (∀ (b : Bool), (b || b) = b) ∧
  (∀ (b : Bool), (b || false) = b) ∧
  (∀ {α : Type} {β : Type} {x : α} {xs : List α} {f : α → List β}, List.flatMap f (x :: xs) = f x ++ List.flatMap f xs) ∧
  (∀ {α : Type} {β : Type} {f : α → List β}, List.flatMap f [] = []) ∧
  (∀ {α : Type} («as» : List α), «as» ++ [] = «as») ∧
  (∀ {α : Type} («as» : List α), [] ++ «as» = «as») ∧
  (∀ {α : Type} {β : Type} {f : α → β} {a : α} {l : List α}, List.map f (a :: l) = f a :: List.map f l) ∧
  (∀ {α : Type} {β : Type} {f : α → β}, List.map f [] = []) ∧
  (∀ (b : UInt8) (l : List UInt8), (b :: l == []) = false) ∧
  (∀ (b : UInt8) (l : List UInt8), ([] == b :: l) = false) ∧
  ({ data := #[] } = bs []) ∧
  (∀ (l : List UInt8), { data := { toList := l } } = bs l) ∧
  (∀ (l : List UInt8), { data := l.toArray } = bs l) ∧
  (∀ (l : List UInt8), (bs l).size = l.length) ∧
  (∀ (l : List UInt8) (i : Nat), (bs l).data.getD i 0 = l.getD i 0) ∧
  (∀ (l : List UInt8) (i j : Nat), (bs l).extract i j = bs (List.drop i (List.take j l))) ∧
  (∀ (l : List UInt8), (bs l).toList = l) ∧
  (∀ (n : Nat), ((n : Int)).toNat = n) ∧
  (∀ {P : Program} {t : V} {T : List V} {H : Hp} {Q : Post} {c : Operand} {a b : LC}, wpL P (LC.cond c a b) (t :: T) H Q = condG P a b (t :: T) H Q (ev (t :: T) c)) ∧
  (∀ {P : Program} {T : List V} {H : Hp} {Q : Post} {a b : LC}, condG P a b T H Q (V.prim (Value.bool true)) = wpL P a T H Q) ∧
  (∀ {P : Program} {T : List V} {H : Hp} {Q : Post} {a b : LC}, condG P a b T H Q (V.prim (Value.bool false)) = wpL P b T H Q) ∧
  (∀ {P : Program} {T : List V} {H : Hp} {Q : Post} {a b : LC} {p : Prop} [inst : Decidable p], condG P a b T H Q (V.prim (Value.bool (decide p))) = ((p → wpL P a T H Q) ∧ (¬p → wpL P b T H Q))) ∧
  (∀ {t : V} {T : List V} {H : Hp} {K : V → Hp → Prop} {W : List V → Hp → Op → (V → Hp → Prop) → Prop} {d : Option Tmp} {op : Op} {i b g : Nat} {want : Bool}, wpG W (t :: T) H { dst := d, op := op, guard := some (g, want), idx := i, bef := b } K = gG W want (t :: T) H op K ((t :: T).getD g undefV)) ∧
  (∀ {T : List V} {H : Hp} {K : V → Hp → Prop} {W : List V → Hp → Op → (V → Hp → Prop) → Prop} {op : Op}, gG W true T H op K (V.prim (Value.bool true)) = W T H op K) ∧
  (∀ {T : List V} {H : Hp} {K : V → Hp → Prop} {W : List V → Hp → Op → (V → Hp → Prop) → Prop} {op : Op}, gG W false T H op K (V.prim (Value.bool false)) = W T H op K) ∧
  (∀ {T : List V} {H : Hp} {K : V → Hp → Prop} {W : List V → Hp → Op → (V → Hp → Prop) → Prop} {op : Op}, gG W true T H op K (V.prim (Value.bool false)) = K undefV H) ∧
  (∀ {T : List V} {H : Hp} {K : V → Hp → Prop} {W : List V → Hp → Op → (V → Hp → Prop) → Prop} {op : Op}, gG W false T H op K (V.prim (Value.bool true)) = K undefV H) ∧
  (∀ {T : List V} {H : Hp} {K : V → Hp → Prop} {W : List V → Hp → Op → (V → Hp → Prop) → Prop} {op : Op} {want : Bool}, gG W want T H op K (V.tup []) = K undefV H) ∧
  (∀ {T : List V} {H : Hp} {K : V → Hp → Prop} {W : List V → Hp → Op → (V → Hp → Prop) → Prop} {op : Op} {want : Bool}, gG W want T H op K undefV = K undefV H) ∧
  (∀ {T : List V} {H : Hp} {K : V → Hp → Prop} {W : List V → Hp → Op → (V → Hp → Prop) → Prop} {op : Op} {p : Prop} [inst : Decidable p], gG W true T H op K (V.prim (Value.bool (decide p))) = ((p → W T H op K) ∧ (¬p → K undefV H))) ∧
  (∀ {T : List V} {H : Hp} {K : V → Hp → Prop} {W : List V → Hp → Op → (V → Hp → Prop) → Prop} {op : Op} {p : Prop} [inst : Decidable p], gG W false T H op K (V.prim (Value.bool (decide p))) = ((¬p → W T H op K) ∧ (p → K undefV H))) ∧
  (∀ {a b : Nat}, (a : Int) + (b : Int) = ((a + b : Nat) : Int)) ∧
  (∀ {a : Nat}, (a : Int) + 1 = ((a + 1 : Nat) : Int)) ∧
  (∀ {a : Nat}, (a : Int) + 2 = ((a + 2 : Nat) : Int)) ∧
  (∀ {a : Nat}, 1 + (a : Int) = ((1 + a : Nat) : Int)) ∧
  (∀ {a b : Nat}, (a : Int) * (b : Int) = ((a * b : Nat) : Int)) ∧
  (∀ {a b : Nat} (h : b ≤ a), (a : Int) - (b : Int) = ((a - b : Nat) : Int)) ∧
  (∀ {a : Nat} (h : 1 ≤ a), (a : Int) - 1 = ((a - 1 : Nat) : Int)) ∧
  (∀ {a : Nat}, (0 ≤ (a : Int)) = True) ∧
  (∀ {a b : Nat}, ((a : Int) < (b : Int)) = (a < b)) ∧
  (∀ {a b : Nat}, ((a : Int) ≤ (b : Int)) = (a ≤ b)) ∧
  (∀ {a b : Nat}, ((a : Int) = (b : Int)) = (a = b)) ∧
  (∀ {a : Nat}, ((a : Int) < 0) = False) ∧
  (∀ {a b : Int}, (a > b) = (b < a)) ∧
  (∀ {a b : Int}, (a ≥ b) = (b ≤ a)) ∧
  (∀ {a b : Nat}, (a > b) = (b < a)) ∧
  (∀ {a b : Nat}, (a ≥ b) = (b ≤ a)) ∧
  (∀ {a b : Nat}, a < b → a % b = a) ∧
  (∀ {T : List V} {H : Hp} {S : Type} {st : S → (Nat → V) → List V} {Inv : S → Hp → Prop} {m : S → Nat} {s : S} {Q : Post} {i : Nat}, lpQ st Inv m s Q (X.exit i) T H = Q (X.exit i) T H) ∧
  (∀ {T : List V} {H : Hp} {S : Type} {st : S → (Nat → V) → List V} {Inv : S → Hp → Prop} {m : S → Nat} {s : S} {Q : Post} {i : Nat}, lpQ st Inv m s Q (X.goto i) T H = Q (X.goto i) T H) ∧
  (∀ {T : List V} {H : Hp} {S : Type} {st : S → (Nat → V) → List V} {Inv : S → Hp → Prop} {m : S → Nat} {s : S} {Q : Post}, lpQ st Inv m s Q X.ret T H = Q X.ret T H) ∧
  (∀ (x : Nat), IntKind.u8.wrap (x : Int) = ((x % 256 : Nat) : Int)) ∧
  (∀ (x : Nat), IntKind.u32.wrap (x : Int) = ((x % 4294967296 : Nat) : Int)) ∧
  (∀ (x : Nat), IntKind.u64.wrap (x : Int) = ((x % 18446744073709551616 : Nat) : Int)) ∧
  (∀ {P : Program} {T : List V} {H : Hp} {K : V → Hp → Prop} {fv : Operand} {args : Array Operand} {ts : Array TypeId}, wpOp P T H (Op.call { callee := Callee.value fv, args := args, argTypes := ts }) K = callP P H K (List.map (ev T) args.toList) (ev T fv)) ∧
  (∀ {P : Program} {T : List V} {H : Hp} {K : V → Hp → Prop} {fv : Operand} {args : Array Operand} {ts : Array TypeId}, wpOpD P T H (Op.call { callee := Callee.value fv, args := args, argTypes := ts }) K = callPD P H K (List.map (ev T) args.toList) (ev T fv)) ∧
  (∀ {P : Program} {H : Hp} {K : V → Hp → Prop} {vs first cap : List V} {g : FuncId}, callP P H K vs (V.clo g first cap) = callW P H K g (first ++ vs ++ cap) (viewArgs H (first ++ vs ++ cap))) ∧
  (∀ {P : Program} {H : Hp} {K : V → Hp → Prop} {vs : List V} {b : Nat}, callP P H K vs (V.yld b) = YC P b vs H K) ∧
  (∀ {P : Program} {H : Hp} {K : V → Hp → Prop} {vs first cap : List V} {g : FuncId}, callPD P H K vs (V.clo g first cap) = callX P H K g (first ++ vs ++ cap) (viewArgs H (first ++ vs ++ cap))) ∧
  (∀ {T : List V} {a : Operand} {l : List Operand}, List.map (ev T) (a :: l) = ev T a :: List.map (ev T) l) ∧
  (∀ {T : List V}, List.map (ev T) [] = []) ∧
  (∀ {P : Program} {T : List V} {H : Hp} {rs : List ResultVar} {R : V → Hp → Prop}, retP P rs R X.ret T H = match resVs (tyOf P) T H rs with | some vs => R (retV vs) H | none => False) ∧
  (∀ {P : Program} {T : List V} {H : Hp} {rs : List ResultVar} {R : V → Hp → Prop}, retP P rs R X.normal T H = match resVs (tyOf P) T H rs with | some vs => R (retV vs) H | none => False) ∧
  (∀ {x : Int}, -9223372036854775808 ≤ x ∧ x < 9223372036854775808 → IntKind.i64.wrap x = x) ∧
  (∀ {x : Int}, 0 ≤ x ∧ x < 256 → IntKind.u8.wrap x = x) ∧
  (∀ {x : Int}, 0 ≤ x ∧ x < 4294967296 → IntKind.u32.wrap x = x) ∧
  (∀ {x : Int}, 0 ≤ x ∧ x < 18446744073709551616 → IntKind.u64.wrap x = x) ∧
  (∀ {α : Type} {a : α} {«as» bs : List α}, a :: «as» ++ bs = a :: («as» ++ bs)) ∧
  (∀ {H : Hp} {k : Option Blk}, get (H ++ [k]) (List.length H) = k) ∧
  (∀ {α : Type} (a b : α), (a ≠ b) = ¬a = b) ∧
  (∀ {a b : Int}, ((a == b) = true) = (a = b)) ∧
  (∀ {a b : Int}, ((a != b) = true) = (a ≠ b)) ∧
  (∀ {a b : Int}, ((a == b) = false) = (a ≠ b)) ∧
  (∀ {a b : Int}, ((a != b) = false) = (a = b)) :=
  ⟨@wpL_skip, @wpL_opsF, @wpL_opsT, @wpL_seq, @wpL_block, @wpL_exit, @wpL_goto, @wpL_ret, @seqQ_normal, @seqQ_exit, @seqQ_goto, @seqQ_ret, @blockQ_normal, @blockQ_exit, @blockQ_goto, @blockQ_ret, @opsK_eq, @opsKD_eq, @putT_some, @putT_none, @wpOps_nil, @wpOps_cons, @wpOpsD_nil, @wpOpsD_cons, @footQ_none, @footQ_some, @wpG_none, @ev_tmp, @ev_const, @ev_func, @ev_global, @orP_some, @slP_some, @orV_some, @orA_some, @wpOp_move, @wpOp_assign, @wpOp_pick, @pickV_eq, @wpOp_build, @wpOp_binOp, @wpOp_unOp, @wpOp_makeFunc, @wpOp_fieldAddr, @wpOp_field, @wpOp_indexAddr, @wpOp_index, @wpOp_slice, @wpOp_extract, @extractV_tup, @wpOp_len, @wpOp_cap, @wpOp_max, @wpOp_min, @wpOp_load, @wpOp_alloc, @wpOp_box, @wpOp_makeSlice, @wpOp_buildSlice, @wpOp_store, @wpOp_convert, @orE_some, @orE_none, @wpOpD_move, @wpOpD_assign, @wpOpD_pick, @wpOpD_build, @wpOpD_binOp, @wpOpD_unOp, @wpOpD_convert, @wpOpD_makeFunc, @wpOpD_fieldAddr, @wpOpD_field, @wpOpD_indexAddr, @wpOpD_index, @wpOpD_slice, @wpOpD_extract, @wpOpD_builtin, @wpOpD_load, @wpOpD_alloc, @wpOpD_box, @wpOpD_makeSlice, @wpOpD_buildSlice, @wpOpD_store, @List.set_cons_succ, @List.set_cons_zero, @List.getD_cons_succ, @List.getD_cons_zero, @List.getElem?_toArray, @List.getElem?_cons_zero, @List.getElem?_cons_succ, @true_and, @if_true, @Bool.false_eq_true, @Bool.true_eq_false, @if_false, @List.length_nil, @List.length_singleton, @get_zero, @get_succ, @writeAt_one, @cells_prim, @cells_agg, @cells_lst, @cells_sref, @cells_ptr, @cells_clo, @cellV_prim, @cellV_lst, @cellV_sref, @cellV_ptr, @cellV_clo, @List.all_cons, @List.all_nil, @Bool.and_true, @Bool.and_self, @Option.map_some, @Option.map_none, @true_implies, @false_implies, @and_true, @decide_eq_true_eq, @decide_eq_false_iff_not, @Bool.not_true, @Bool.not_false, @beq_self_eq_true, @not_true_eq_false, @not_false_eq_true, @decide_true, @decide_false, @decide_not, @foot_move, @foot_assign, @foot_pick, @foot_build, @foot_binOp, @foot_unOp, @foot_makeFunc, @foot_fieldAddr, @foot_field, @foot_indexAddr, @foot_index, @foot_slice, @foot_extract, @foot_len, @foot_cap, @foot_max, @foot_min, @foot_load, @foot_convert, @foot_store, @foot_alloc, @foot_box, @foot_makeSlice, @foot_buildSlice, @foot_append, @foot_copy, @foot_clear, @foot_call, @footC_clo, @blkOf_prim, @blkOf_ivp, @blkOf_lst, @blkOf_agg, @blkOf_tup, @blkOf_ptr, @blkOf_sref, @clash_rr, @clash_nl, @clash_nr, @clash_bef, @Nat.testBit_eq_decide_div_mod_eq, @touch_prim, @touch_lst, @touch_agg, @touch_tup, @touch_clo, @touch_ptr, @touchB_row, @hasPtr_prim, @hasPtr_lst, @hasPtr_sref, @touch_undef, hasTop_undef, @hasPtr_undef, @hasTop_prim, @hasTop_lst, @hasTop_sref, @hasTop_agg, @hasTop_tup, @hasTop_clo, @hasTop_ptr, @hasTop_yld, @hasPtr_agg, @hasPtr_tup, @hasPtr_clo, @hasPtr_ptr, @hasPtr_yld, @view_prim, @view_lst, @view_clo, @view_agg, @view_tup, @viewL_nil, @viewL_cons, @consO_some, @viewArgs_nil, @viewArgs_cons, @wpOp_append, @wpOp_copy, @List.any_nil, @List.any_cons, @Bool.or_self, @Bool.or_false, @List.flatMap_cons, @List.flatMap_nil, @List.append_nil, @List.nil_append, @List.map_cons, @List.map_nil, @cons_beq_nil, @nil_beq_cons, @bs_nil, @bs_mk, @bs_mk2, @bs_size, @bs_getD, @bs_extract, @bs_toList, @Int.toNat_natCast, @wpL_condG, @condG_t, @condG_f, @condG_d, @wpG_someG, @gG_tt, @gG_ff, @gG_tf, @gG_ft, @gG_u, @gG_v, @gG_dt, @gG_df, @nc_add, @nc_add1, @nc_add2, @nc_1add, @nc_mul, @nc_sub, @nc_sub1, @nc_pos, @nc_lt, @nc_le, @nc_eq, @nc_lt0, @nc_gt, @nc_ge, @nat_gt, @nat_ge, @mod_lt', @lpQ_exit, @lpQ_goto, @lpQ_ret, @wrap_nat_u8, @wrap_nat_u32, @wrap_nat_u64, @wpOp_call, @wpOpD_call, @callP_clo, @callP_yld, @callPD_clo, @evT_cons, @evT_nil, @retP_eq, @retP_normal, @wr_i64, @wr_u8, @wr_u32, @wr_u64, @List.cons_append, @get_app_len, @ne_eq, @beqI, @bneI, @beqIf, @bneIf⟩

set_option maxRecDepth 100000 in
theorem RB : (∀ {a b : Int}, a < b → (a < b) = True) ∧
  (∀ {a b : Int}, b ≤ a → (a < b) = False) ∧
  (∀ {a b : Int}, a ≤ b → (a ≤ b) = True) ∧
  (∀ {a b : Int}, b < a → (a ≤ b) = False) ∧
  (∀ {a b : Int}, a = b → (a = b) = True) ∧
  (∀ {a b : Int}, a ≠ b → (a = b) = False) ∧
  (∀ {a b : Int}, a = b → (a == b) = true) ∧
  (∀ {a b : Int}, a ≠ b → (a == b) = false) ∧
  (∀ {a b : Int}, a ≠ b → (a != b) = true) ∧
  (∀ {a b : Int}, a = b → (a != b) = false) ∧
  (∀ {a b : Nat}, a < b → (a < b) = True) ∧
  (∀ {a b : Nat}, b ≤ a → (a < b) = False) ∧
  (∀ {a b : Nat}, a ≤ b → (a ≤ b) = True) ∧
  (∀ {a b : Nat}, b < a → (a ≤ b) = False) ∧
  (∀ {a b : Nat}, a = b → (a = b) = True) ∧
  (∀ {a b : Nat}, a ≠ b → (a = b) = False) :=
  ⟨@lt_t, @lt_f, @le_t, @le_f, @eq_t, @eq_f, @beq_t, @beq_f, @bne_t, @bne_f, @nlt_t, @nlt_f, @nle_t, @nle_f, @neq_t, @neq_f⟩

end Go.Av
