/- Helping texts: Cp. -/
import Derived.Test.YtbidkolaahnbiaaGreatKCm
set_option linter.unusedSimpArgs false
set_option linter.unusedVariables false
set_option maxRecDepth 100000
set_option maxHeartbeats 16000000
namespace Go.Av
open Go.RowKit
open Go.Proofs.Tryz (prog)
def Rt.small (r : Rt) : Prop := r.num.length ≤ 3 ∧ r.den.length ≤ 3
instance (r : Rt) : Decidable r.small := inferInstanceAs (Decidable (_ ∧ _))
theorem bval_3 {l : List UInt8} (h : l.length ≤ 3) : bval l < 16777216 := by
 have := Nat.lt_of_lt_of_le (bval_lt l) (Nat.pow_le_pow_right (by omega : 0 < 256) h)
 simpa using this
theorem machine_pc (r : Rt) : PC prog 181 [rV r] (if r.small then .tup [.prim (.int .i64 (r.n)), .prim (.int .i64 ((r.d : Nat) : Int)), .prim (.bool true)] else .tup [.prim (.int .i64 (0)), .prim (.int .i64 (0)), .prim (.bool false)]) := by
 obtain ⟨s, l, m⟩ := r
 refine PCi ?_
 conv in trip _ _ => cbv
 simp only [runT, RN, simprocAttr]
 by_cases h1 : l.length ≤ 3
 ·by_cases h2 : m.length ≤ 3
  ·have h3 := bval_3 h1
   have h4 := bval_3 h2
   have hs : (Rt.mk s l m).small := ⟨h1, h2⟩
   have d1 := digits_pc l (by omega)
   have d2 := digits_pc m (by omega)
   have hmax : (if ((bval m : Nat) : Int) < 1 then 1 else ((bval m : Nat) : Int)) = (((Rt.mk s l m).d : Nat) : Int) := by
    unfold Rt.d; simp only; split <;> split <;> omega
   rw [if_pos hs]
   simp (disch := omega) only [↓RS, RZ, simprocAttr, rV]
   refine cX d1 ?_
   simp (disch := omega) only [↓RS, RZ, simprocAttr]
   refine cX d2 ?_
   cases s with
   | true =>
    have e : (0 : Int) - (bval l : Nat) = (Rt.mk true l m).n := by simp [Rt.n, ival, sg]
    simp (disch := omega) only [↓RS, RZ, simprocAttr, e, hmax]
   | false =>
    have e : ((bval l : Nat) : Int) = (Rt.mk false l m).n := by simp [Rt.n, ival, sg]
    simp (disch := omega) only [↓RS, RZ, simprocAttr, e, hmax]
  ·have hs : ¬ (Rt.mk s l m).small := fun h => h2 h.2
   rw [if_neg hs]
   simp (disch := omega) only [↓RS, RZ, simprocAttr, rV]
 ·have hs : ¬ (Rt.mk s l m).small := fun h => h1 h.1
  rw [if_neg hs]
  simp (disch := omega) only [↓RS, RZ, simprocAttr, rV]
theorem sg_natAbs (s : Bool) (k : Nat) : (sg s k).natAbs = k := by cases s <;> simp [sg]
theorem natAbs_tmod (a b : Int) : (a.tmod b).natAbs = a.natAbs % b.natAbs := Int.natAbs_tmod a b
structure RatioInv (g : Nat) (x : Int × Int) : Prop where
 g : Nat.gcd x.1.natAbs x.2.natAbs = g
 a : x.1.natAbs < 4611686018427387904
 b : x.2.natAbs < 4611686018427387904
theorem ratio_pc (n : Int) (d : Nat) (hn : n.natAbs < 4611686018427387904) (hd : 0 < d) (hd2 : d < 4611686018427387904) : PC prog 103 [.prim (.int .i64 (n)), .prim (.int .i64 ((d : Nat) : Int))] (rV (can (mkRat n d))) := by
 refine PCi ?_
 conv in trip _ _ => cbv
 simp only [runT, RN, simprocAttr]
 obtain ⟨q1, q2⟩ := mk_num n d hd
 have hg0 : 0 < Nat.gcd n.natAbs d := Nat.gcd_pos_of_pos_right _ hd
 have hgl := Nat.gcd_dvd_left n.natAbs d
 have hgm := Nat.gcd_dvd_right n.natAbs d
 have hgle : Nat.gcd n.natAbs d ≤ d := Nat.le_of_dvd hd hgm
 simp (disch := omega) only [↓RS, RZ, simprocAttr]
 refine wp_lp (fun (x : Int × Int) J => ov [(0, .prim (.int .i64 (n))), (1, .prim (.int .i64 ((d : Nat) : Int))), (4, .ptr 0 0 0), (5, .prim (.int .i64 (x.1))), (6, .prim (.int .i64 (x.2)))] J 0 43)
  (fun x H => RatioInv (Nat.gcd n.natAbs d) x ∧ H = [some (.row 3 true [[.prim (.bool false), .prim (.string (bs ([]))), .prim (.string (bs ([])))]])]) (fun x => x.2.natAbs) (n, (d : Int)) rfl ⟨⟨rfl, hn, hd2⟩, rfl⟩ ?_
 rintro ⟨a, b⟩ J H ⟨⟨hg, ha, hb⟩, rfl⟩
 try conv in ov _ _ _ _ => simp only [ov, List.lookup, RO, simprocAttr]
 simp only at hg ha hb ⊢
 by_cases hb0 : b = 0
 ·subst hb0
  rw [Int.natAbs_zero, Nat.gcd_zero_right] at hg
  generalize Nat.gcd n.natAbs d = g at *
  have hmax : (if a < 0 - a then 0 - a else a) = ((g : Nat) : Int) := by split <;> omega
  have hdv := Nat.div_le_self n.natAbs g
  have hdv2 := Nat.div_le_self d g
  by_cases hn0 : n = 0
  ·have e : rV (can (mkRat n d)) = .agg [.prim (.bool false), .prim (.string (bs ([]))), .prim (.string (bs ([])))] := by rw [hn0, Rat.zero_mkRat, can_zero]; rfl
   rw [e]
   simp (disch := omega) only [↓RS, RZ, simprocAttr, hmax]
  ·have hmax2 : (if n < 0 - n then 0 - n else n) = ((n.natAbs : Nat) : Int) := by split <;> omega
   have hpos : 0 < n.natAbs / g := Nat.div_pos (Nat.le_of_dvd (by omega) hgl) hg0
   have e1 : decide ((mkRat n d).num < 0) = decide (n < 0) := by
    rw [q1]; by_cases h : n < 0
    ·rw [decide_eq_true h]; simp only [sg, if_true]; exact decide_eq_true (by omega)
    ·rw [decide_eq_false h]; simp only [sg]; exact decide_eq_false (by simp; omega)
   have e2 : (mkRat n d).num.natAbs = n.natAbs / g := by rw [q1]; exact sg_natAbs _ _
   have t1 := text_pc (n.natAbs / g) (by omega)
   have t2 := text_pc (d / g) (by omega)
   by_cases hdg : d = g
   ·have e3 : (mkRat n d).den = 1 := by rw [q2, hdg]; exact Nat.div_self (by omega)
    simp (disch := omega) only [↓RS, RZ, simprocAttr, hmax, hmax2, tdivN]
    refine cX t1 ?_
    simp (disch := omega) only [↓RS, RZ, simprocAttr, hmax, hmax2, tdivN, rV, can, e1, e2, e3]
    try rfl
   ·have e3 : (mkRat n d).den ≠ 1 := by
     rw [q2]; intro h
     have := Nat.div_mul_cancel hgm
     rw [h] at this; omega
    simp (disch := omega) only [↓RS, RZ, simprocAttr, hmax, hmax2, tdivN]
    refine cX t1 ?_
    simp (disch := omega) only [↓RS, RZ, simprocAttr, hmax, hmax2, tdivN]
    refine cX t2 ?_
    have e4 : (can (mkRat n d)).den = digitsOf (d / g) := by simp only [can]; rw [if_neg e3, q2]
    simp (disch := omega) only [↓RS, RZ, simprocAttr, rV, e4]
    simp only [can, e1, e2]
 ·have hlt : (a.tmod b).natAbs < b.natAbs := by rw [natAbs_tmod]; exact Nat.mod_lt _ (by omega)
  simp (disch := omega) only [↓RS, RZ, simprocAttr]
  refine lp_next (b, a.tmod b) rfl ⟨⟨?_, hb, by simp only; omega⟩, rfl⟩ hlt
  try simp only
  rw [natAbs_tmod, ← hg, Nat.gcd_comm a.natAbs, Nat.gcd_rec b.natAbs a.natAbs, Nat.gcd_comm]
def zR : Rt := ⟨false, [], []⟩
theorem bothR_pc (a b : Rt) (f g : FuncId) (q : Rt) (ha : a.num.length < 2 ^ 36 ∧ a.den.length < 2 ^ 36) (hb : b.num.length < 2 ^ 36 ∧ b.den.length < 2 ^ 36)
 (hs : a.small → b.small → PC prog f [.prim (.int .i64 (a.n)), .prim (.int .i64 ((a.d : Nat) : Int)), .prim (.int .i64 (b.n)), .prim (.int .i64 ((b.d : Nat) : Int))] (rV q)) (hg : PC prog g [fV a.neg a.num a.dd, fV b.neg b.num b.dd] (rV q)) :
 PC prog 101 [rV a, rV b, .clo f [] [], .clo g [] []] (rV q) := by
 refine PCi ?_
 conv in trip _ _ => cbv
 simp only [runT, RN, simprocAttr]
 have m1 := machine_pc a
 have m2 := machine_pc b
 have o1 := ofR_pc a ha.1 ha.2
 have o2 := ofR_pc b hb.1 hb.2
 by_cases h1 : a.small
 ·rw [if_pos h1] at m1
  by_cases h2 : b.small
  ·rw [if_pos h2] at m2
   have hs := hs h1 h2
   simp (disch := omega) only [↓RS, RZ, simprocAttr, rV]
   refine cX m1 ?_
   simp (disch := omega) only [↓RS, RZ, simprocAttr]
   refine cX m2 ?_
   simp (disch := omega) only [↓RS, RZ, simprocAttr]
   refine cX hs ?_
   simp (disch := omega) only [↓RS, RZ, simprocAttr, rV]
  ·rw [if_neg h2] at m2
   simp (disch := omega) only [↓RS, RZ, simprocAttr, rV]
   refine cX m1 ?_
   simp (disch := omega) only [↓RS, RZ, simprocAttr]
   refine cX m2 ?_
   simp (disch := omega) only [↓RS, RZ, simprocAttr]
   refine cX o1 ?_
   simp (disch := omega) only [↓RS, RZ, simprocAttr, fV]
   refine cX o2 ?_
   simp (disch := omega) only [↓RS, RZ, simprocAttr, fV]
   refine cX hg ?_
   simp (disch := omega) only [↓RS, RZ, simprocAttr, rV]
 ·rw [if_neg h1] at m1
  have m2' : ∃ x y z, PC prog 181 [rV b] (.tup [.prim (.int .i64 (x)), .prim (.int .i64 (y)), .prim (.bool z)]) := by
   by_cases h2 : b.small
   ·rw [if_pos h2] at m2; exact ⟨_, _, _, m2⟩
   ·rw [if_neg h2] at m2; exact ⟨_, _, _, m2⟩
  obtain ⟨x, y, z, m2⟩ := m2'
  simp (disch := omega) only [↓RS, RZ, simprocAttr, rV]
  refine cX m1 ?_
  simp (disch := omega) only [↓RS, RZ, simprocAttr]
  refine cX m2 ?_
  simp (disch := omega) only [↓RS, RZ, simprocAttr]
  refine cX o1 ?_
  simp (disch := omega) only [↓RS, RZ, simprocAttr, fV]
  refine cX o2 ?_
  simp (disch := omega) only [↓RS, RZ, simprocAttr, fV]
  refine cX hg ?_
  simp (disch := omega) only [↓RS, RZ, simprocAttr, rV]
end Go.Av
