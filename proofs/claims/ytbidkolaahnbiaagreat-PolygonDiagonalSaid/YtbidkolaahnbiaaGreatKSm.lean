/- Helping texts: Sm, Sn, So. -/
import Derived.Test.YtbidkolaahnbiaaGreatKSa
import Derived.Test.YtbidkolaahnbiaaGreatKRq
import Derived.Test.YtbidkolaahnbiaaGreatKMm
import Derived.Test.YtbidkolaahnbiaaGreatKMf
set_option linter.unusedSimpArgs false
set_option linter.unusedVariables false
set_option maxRecDepth 100000
set_option maxHeartbeats 16000000
namespace Go.Av
theorem order_seg {s : Sg} {p : Pt} : onSeg s.order.a s.order.b p ↔ onSeg s.a s.b p := by
 unfold Sg.order
 split
 ·exact ⟨onSeg_rev, onSeg_rev⟩
 ·exact Iff.rfl
theorem order_ne {s : Sg} (h : s.ok) : s.order.a ≠ s.order.b := by
 have h : s.a ≠ s.b := fun e => h (cmpP_zero.2 e)
 unfold Sg.order
 split
 ·exact fun e => h e.symm
 ·exact h
theorem rmeetS_iff {u v : Sg} (hu : u.a ≠ u.b) (hv : v.a ≠ v.b) (ou : cmpP u.a u.b ≤ 0) (ov : cmpP v.a v.b ≤ 0) : (rmeetS u v).isSome = true ↔ Common u.a u.b v.a v.b := by
 have hsd : u.b.x - u.a.x ≠ 0 ∨ u.b.y - u.a.y ≠ 0 := by
  by_cases hx : u.b.x - u.a.x = 0
  ·right; intro hy; exact hu (Pt.ext (by grind) (by grind))
  ·exact .inl hx
 have g1 : cmpP u.a (greater u.a v.a) ≤ 0 ∧ cmpP v.a (greater u.a v.a) ≤ 0 := by
  unfold greater
  split
  ·rename_i k; exact ⟨by omega, Int.le_of_eq (cmpP_self _)⟩
  ·rename_i k
   refine ⟨Int.le_of_eq (cmpP_self _), ?_⟩
   rcases cmpP_le_total v.a u.a with h | h
   ·exact h
   ·have : cmpP u.a v.a = 0 := by omega
    rw [cmpP_zero.1 this]; exact Int.le_of_eq (cmpP_self _)
 have g2 : cmpP (lesser u.b v.b) u.b ≤ 0 ∧ cmpP (lesser u.b v.b) v.b ≤ 0 := by
  unfold lesser
  split
  ·rename_i k; exact ⟨Int.le_of_eq (cmpP_self _), by omega⟩
  ·rename_i k
   refine ⟨?_, Int.le_of_eq (cmpP_self _)⟩
   rcases cmpP_le_total v.b u.b with h | h
   ·exact h
   ·have : cmpP u.b v.b = 0 := by omega
    rw [cmpP_zero.1 this]; exact Int.le_of_eq (cmpP_self _)
 unfold rmeetS
 by_cases hd : cross u.dir v.dir = 0
 ·rw [if_pos hd]
  simp only [Sg.dir, cross, Pt.sub] at hd
  by_cases ho : orient u.a u.b v.a = 0
  ·rw [if_neg (fun h => h ho)]
   have hw : ar u.a u.b v.a = 0 := orient_ar.1 ho
   have a1 : ar v.a v.b u.a = 0 := by unfold ar at *; rcases hsd with h | h <;> grind
   by_cases hc : 0 < cmpP (greater u.a v.a) (lesser u.b v.b)
   ·rw [if_pos hc]
    refine ⟨fun h => (by cases h), fun ⟨p, h1, h2⟩ => ?_⟩
    obtain ⟨o1, o2⟩ := lex_between h1 ou
    obtain ⟨o3, o4⟩ := lex_between h2 ov
    have k1 : cmpP (greater u.a v.a) p ≤ 0 := by unfold greater; split <;> assumption
    have k2 : cmpP p (lesser u.b v.b) ≤ 0 := by unfold lesser; split <;> assumption
    have := cmpP_le_trans k1 k2
    omega
   ·rw [if_neg hc]
    have hc : cmpP (greater u.a v.a) (lesser u.b v.b) ≤ 0 := by omega
    refine ⟨fun _ => ⟨greater u.a v.a, onSeg_lex ?_ g1.1 (cmpP_le_trans hc g2.1), onSeg_lex ?_ g1.2 (cmpP_le_trans hc g2.2)⟩, fun _ => rfl⟩
    ·rcases greater_or u.a v.a with e | e <;> rw [e]
     ·exact ar_l _ _
     ·exact hw
    ·rcases greater_or u.a v.a with e | e <;> rw [e]
     ·exact a1
     ·exact ar_l _ _
  ·rw [if_pos ho]
   refine ⟨fun h => (by cases h), fun ⟨p, ⟨l, _, _, e1⟩, m, _, _, e2⟩ => (ho (orient_ar.2 ?_)).elim⟩
   have ex : u.a.x + l * (u.b.x - u.a.x) = v.a.x + m * (v.b.x - v.a.x) := congrArg Pt.x (e1.symm.trans e2)
   have ey : u.a.y + l * (u.b.y - u.a.y) = v.a.y + m * (v.b.y - v.a.y) := congrArg Pt.y (e1.symm.trans e2)
   unfold ar; grind
 ·rw [if_neg hd]
  have hP : u.a.add (u.dir.smul (cross (v.a.sub u.a) v.dir / cross u.dir v.dir)) = pt u.a u.b (cross (v.a.sub u.a) v.dir / cross u.dir v.dir) := by
   refine Pt.ext ?_ ?_ <;> (unfold Pt.add Pt.smul Sg.dir Pt.sub pt; simp only; grind)
  rw [hP]
  have hk : cross (v.a.sub u.a) v.dir / cross u.dir v.dir * cross u.dir v.dir = cross (v.a.sub u.a) v.dir := Rat.div_mul_cancel hd
  have key : ∀ l m, pt u.a u.b l = pt v.a v.b m → l = cross (v.a.sub u.a) v.dir / cross u.dir v.dir := by
   intro l m e
   have ex : u.a.x + l * (u.b.x - u.a.x) = v.a.x + m * (v.b.x - v.a.x) := congrArg Pt.x e
   have ey : u.a.y + l * (u.b.y - u.a.y) = v.a.y + m * (v.b.y - v.a.y) := congrArg Pt.y e
   have q1 : cross (v.a.sub u.a) v.dir = l * cross u.dir v.dir := by simp only [Sg.dir, cross, Pt.sub]; grind
   rw [q1, mul_div' hd]
  generalize cross (v.a.sub u.a) v.dir / cross u.dir v.dir = k at *
  have aP : ar v.a v.b (pt u.a u.b k) = 0 := by
   simp only [Sg.dir, cross, Pt.sub] at hk
   unfold ar pt; simp only; grind
  constructor
  ·intro h
   split at h
   ·rename_i hh
    simp only [Bool.and_eq_true, lexIn, decide_eq_true_eq] at hh
    exact ⟨_, onSeg_lex (by rw [ar_pt, ar_l, ar_r]; grind) hh.1.1 hh.1.2, onSeg_lex aP hh.2.1 hh.2.2⟩
   ·cases h
  ·rintro ⟨p, h1, h2⟩
   obtain ⟨l, l0, l1, e1⟩ := id h1
   obtain ⟨m, m0, m1, e2⟩ := id h2
   have e := key l m (e1.symm.trans e2)
   rw [← e, ← e1]
   obtain ⟨o1, o2⟩ := lex_between h1 ou
   obtain ⟨o3, o4⟩ := lex_between h2 ov
   have : (lexIn u p && lexIn v p) = true := by
    simp only [Bool.and_eq_true, lexIn, decide_eq_true_eq]; exact ⟨⟨o1, o2⟩, o3, o4⟩
   rw [if_pos this]; rfl
theorem rmeet_eq (s t : Sg) : (rmeetM s t).isSome = (meetM s t).isSome := by
 by_cases hok : s.ok ∧ t.ok
 ·have e : rmeetM s t = rmeetS s.order t.order := by unfold rmeetM; rw [if_pos hok]
  rw [Bool.eq_iff_iff, e, rmeetS_iff (order_ne hok.1) (order_ne hok.2) (order_le s) (order_le t)]
  constructor
  ·rintro ⟨p, h1, h2⟩; exact meet_some hok.1 hok.2 ⟨p, order_seg.1 h1, order_seg.1 h2⟩
  ·intro h
   obtain ⟨p, h1, h2⟩ := some_common h
   exact ⟨p, order_seg.2 h1, order_seg.2 h2⟩
 ·unfold rmeetM meetM; rw [if_neg hok, if_neg hok]
def rmeet10 (a b c d : Pt) : Bool := (rbetween a b c || (rbetween a b d || (rbetween c d a || rbetween c d b))) || rcross ⟨a, b⟩ ⟨c, d⟩
theorem orient_cmp (a b c : Pt) : orient a b c = cmpQ (ar a b c) 0 := rfl
theorem opp_iff {a b c d : Pt} : orient a b c * orient a b d < 0 ↔ (ar a b c < 0 ∧ 0 < ar a b d) ∨ (0 < ar a b c ∧ ar a b d < 0) := by
 rw [orient_cmp, orient_cmp]
 generalize ar a b c = x
 generalize ar a b d = y
 unfold cmpQ
 by_cases h1 : x < 0 <;> by_cases h2 : y < 0 <;> by_cases h3 : 0 < x <;> by_cases h4 : 0 < y <;> simp only [h1, h2, h3, h4, if_true, if_false] <;> first | grind | simp
theorem pt_inj {c d : Pt} (h : c ≠ d) {l m : Rat} (e : pt c d l = pt c d m) : l = m := by
 have ex : c.x + l * (d.x - c.x) = c.x + m * (d.x - c.x) := congrArg Pt.x e
 have ey : c.y + l * (d.y - c.y) = c.y + m * (d.y - c.y) := congrArg Pt.y e
 by_cases hx : d.x - c.x = 0
 ·have hy : d.y - c.y ≠ 0 := fun hy => h (Pt.ext (by grind) (by grind))
  grind
 ·grind
theorem mid_unit {x y l : Rat} (h : (x < 0 ∧ 0 < y) ∨ (0 < x ∧ y < 0)) (e : x + l * (y - x) = 0) : 0 ≤ l ∧ l ≤ 1 := by
 rcases h with ⟨h1, h2⟩ | ⟨h1, h2⟩
 ·constructor
  ·by_cases h : 0 ≤ l
   ·exact h
   ·have := Rat.mul_pos (show 0 < -l by grind) (show 0 < y - x by grind); grind
  ·by_cases h : l ≤ 1
   ·exact h
   ·have := Rat.mul_pos (show 0 < l - 1 by grind) (show 0 < y - x by grind); grind
 ·constructor
  ·by_cases h : 0 ≤ l
   ·exact h
   ·have := Rat.mul_pos (show 0 < -l by grind) (show 0 < x - y by grind); grind
  ·by_cases h : l ≤ 1
   ·exact h
   ·have := Rat.mul_pos (show 0 < l - 1 by grind) (show 0 < x - y by grind); grind
theorem opp_of {x y l : Rat} (l0 : 0 < l) (l1 : l < 1) (hx : x ≠ 0) (e : x + l * (y - x) = 0) : (x < 0 ∧ 0 < y) ∨ (0 < x ∧ y < 0) := by
 by_cases h : x < 0
 ·left
  refine ⟨h, ?_⟩
  by_cases hy : 0 < y
  ·exact hy
  ·have := Rat.mul_pos (show 0 < 1 - l by grind) (show 0 < -x by grind)
   have := Rat.mul_nonneg (Rat.le_of_lt l0) (show 0 ≤ -y by grind)
   grind
 ·right
  have h : 0 < x := by grind
  refine ⟨h, ?_⟩
  by_cases hy : y < 0
  ·exact hy
  ·have := Rat.mul_pos (show 0 < 1 - l by grind) h
   have := Rat.mul_nonneg (Rat.le_of_lt l0) (show 0 ≤ y by grind)
   grind
theorem pt_0 (a b : Pt) : pt a b 0 = a := by refine Pt.ext ?_ ?_ <;> (unfold pt; simp only; grind)
theorem pt_1 (a b : Pt) : pt a b 1 = b := by refine Pt.ext ?_ ?_ <;> (unfold pt; simp only; grind)
theorem inner {a b p : Pt} {l : Rat} (l0 : 0 ≤ l) (l1 : l ≤ 1) (e : p = pt a b l) (ha : p ≠ a) (hb : p ≠ b) : 0 < l ∧ l < 1 := by
 refine ⟨(lt_or_eq' l0).resolve_right fun h => ha ?_, (lt_or_eq' l1).resolve_right fun h => hb ?_⟩
 ·rw [e, ← h, pt_0]
 ·rw [e, h, pt_1]
theorem rmeet10_iff {a b c d : Pt} (hab : a ≠ b) (hcd : c ≠ d) : rmeet10 a b c d = true ↔ Common a b c d := by
 unfold rmeet10 rcross
 simp only [Bool.or_eq_true, Bool.and_eq_true, decide_eq_true_eq, rbetween_onSeg hab, rbetween_onSeg hcd, opp_iff]
 constructor
 ·rintro ((h | h | h | h) | ⟨h1, h2⟩)
  ·exact ⟨c, h, onSeg_l _ _⟩
  ·exact ⟨d, h, onSeg_r _ _⟩
  ·exact ⟨a, onSeg_l _ _, h⟩
  ·exact ⟨b, onSeg_r _ _, h⟩
  ·obtain ⟨m, m0, m1, hm⟩ := root (f := ar a b c) (g := ar a b d) (by
    rcases h1 with ⟨h, k⟩ | ⟨h, k⟩
    ·exact .inl ⟨Rat.le_of_lt h, Rat.le_of_lt k⟩
    ·exact .inr ⟨Rat.le_of_lt h, Rat.le_of_lt k⟩) (by rcases h1 with ⟨h, k⟩ | ⟨h, k⟩ <;> grind)
   obtain ⟨l, hl⟩ := on_line (p := pt c d m) hab (by rw [ar_pt]; exact hm)
   have e : ar c d a + l * (ar c d b - ar c d a) = 0 := by
    rw [← ar_pt, ← hl, ar_pt, ar_l, ar_r]; grind
   obtain ⟨l0, l1⟩ := mid_unit h2 e
   exact ⟨pt c d m, ⟨l, l0, l1, hl⟩, ⟨m, m0, m1, rfl⟩⟩
 ·rintro ⟨p, ⟨l, l0, l1, e1⟩, m, m0, m1, e2⟩
  by_cases k1 : onSeg a b c
  ·exact .inl (.inl k1)
  by_cases k2 : onSeg a b d
  ·exact .inl (.inr (.inl k2))
  by_cases k3 : onSeg c d a
  ·exact .inl (.inr (.inr (.inl k3)))
  by_cases k4 : onSeg c d b
  ·exact .inl (.inr (.inr (.inr k4)))
  right
  have s1 : onSeg a b p := ⟨l, l0, l1, e1⟩
  have s2 : onSeg c d p := ⟨m, m0, m1, e2⟩
  obtain ⟨l0, l1⟩ := inner l0 l1 e1 (fun e => k3 (e ▸ s2)) (fun e => k4 (e ▸ s2))
  obtain ⟨m0, m1⟩ := inner m0 m1 e2 (fun e => k1 (e ▸ s1)) (fun e => k2 (e ▸ s1))
  have q1 : ar c d a + l * (ar c d b - ar c d a) = 0 := by rw [← ar_pt, ← e1, e2, ar_pt, ar_l, ar_r]; grind
  have q2 : ar a b c + m * (ar a b d - ar a b c) = 0 := by rw [← ar_pt, ← e2, e1, ar_pt, ar_l, ar_r]; grind
  have hA : ar c d a ≠ 0 := by
   intro hA
   have hB : ar c d b = 0 := by
    rw [hA] at q1
    have : l * ar c d b = 0 := by grind
    rcases Rat.mul_eq_zero.1 this with h | h
    ·grind
    ·exact h
   obtain ⟨x, hx⟩ := on_line hcd hA
   obtain ⟨y, hy⟩ := on_line hcd hB
   have hm : x + l * (y - x) = m := pt_inj hcd (by rw [← pt_pt, ← hx, ← hy, ← e1, e2])
   have nx : ¬ (0 ≤ x ∧ x ≤ 1) := fun h => k3 ⟨x, h.1, h.2, hx⟩
   have ny : ¬ (0 ≤ y ∧ y ≤ 1) := fun h => k4 ⟨y, h.1, h.2, hy⟩
   have hxy : x ≤ 0 ∧ 0 ≤ y ∨ 0 ≤ x ∧ y ≤ 0 := by
    by_cases h0 : x < 0
    ·left
     refine ⟨Rat.le_of_lt h0, ?_⟩
     by_cases hy0 : 0 ≤ y
     ·exact hy0
     ·have := Rat.mul_pos (show 0 < 1 - l by grind) (show 0 < -x by grind)
      have := Rat.mul_pos l0 (show 0 < -y by grind)
      grind
    ·right
     have h1 : 1 < x := by grind
     refine ⟨by grind, ?_⟩
     by_cases hy0 : y ≤ 0
     ·exact hy0
     ·have h2 : 1 < y := by grind
      have := Rat.mul_pos (show 0 < 1 - l by grind) (show 0 < x - 1 by grind)
      have := Rat.mul_pos l0 (show 0 < y - 1 by grind)
      grind
   obtain ⟨u, u0, u1, hu⟩ := root hxy (by rintro rfl; grind)
   refine k1 ⟨u, u0, u1, ?_⟩
   rw [hx, hy, pt_pt, hu, pt_0]
  have hC : ar a b c ≠ 0 := by
   intro hC
   have hD : ar a b d = 0 := by
    rw [hC] at q2
    have : m * ar a b d = 0 := by grind
    rcases Rat.mul_eq_zero.1 this with h | h
    ·grind
    ·exact h
   obtain ⟨x, hx⟩ := on_line hab hC
   obtain ⟨y, hy⟩ := on_line hab hD
   apply hA
   rw [hx, hy]
   unfold ar pt; simp only; grind
  exact ⟨opp_of m0 m1 hC q2, opp_of l0 l1 hA q1⟩
def straightAt (L : List Pt) (i : Nat) : Bool := decide (orient (L.getD i default) (nx L i) (nx L ((i + 1) % L.length)) = 0)
def straightB (L : List Pt) : Bool := anyTo L.length (straightAt L)
def rcrossAt (L : List Pt) (i k : Nat) : Bool := decide (i + 2 ≤ k) && (decide ((k + 1) % L.length ≠ i) && rmeet10 (L.getD i default) (nx L i) (L.getD k default) (nx L k))
def rcrossB (L : List Pt) : Bool := anyTo L.length fun i => anyTo L.length (rcrossAt L i)
def rchkC (L : List Pt) : Int := if straightB L = true then 12 else if rcrossB L = true then 13 else if cmpQ (areaL L) 0 < 0 ∨ leastTo L L.length ≠ 0 then 8 else 0
theorem anyTo_iff {n : Nat} {p : Nat → Bool} : anyTo n p = true ↔ ∃ i, i < n ∧ p i = true := by
 unfold anyTo
 rw [List.any_eq_true]
 constructor
 ·rintro ⟨i, h1, h2⟩; exact ⟨i, by simpa using h1, h2⟩
 ·rintro ⟨i, h1, h2⟩; exact ⟨i, by simpa using h1, h2⟩
theorem anyTo_congr {n : Nat} {p q : Nat → Bool} (h : ∀ i, i < n → p i = q i) : anyTo n p = anyTo n q := by
 rw [Bool.eq_iff_iff, anyTo_iff, anyTo_iff]
 exact ⟨fun ⟨i, h1, h2⟩ => ⟨i, h1, by rw [← h i h1]; exact h2⟩, fun ⟨i, h1, h2⟩ => ⟨i, h1, by rw [h i h1]; exact h2⟩⟩
theorem sc_back {n i : Nat} (h : i < n) : ((i + 1) % n + n - 1) % n = i := by
 rcases Nat.lt_or_ge (i + 1) n with hlt | hge
 ·rw [Nat.mod_eq_of_lt hlt, show i + 1 + n - 1 = i + n by omega, Nat.add_mod_right, Nat.mod_eq_of_lt h]
 ·rw [show i + 1 = n by omega, Nat.mod_self, Nat.zero_add, Nat.mod_eq_of_lt (by omega)]; omega
theorem sc_fwd {n i : Nat} (h : i < n) : ((i + n - 1) % n + 1) % n = i := by
 rcases Nat.eq_zero_or_pos i with h0 | h0
 ·rw [h0, Nat.zero_add, Nat.mod_eq_of_lt (show n - 1 < n by omega), show n - 1 + 1 = n by omega, Nat.mod_self]
 ·rw [show i + n - 1 = i - 1 + n by omega, Nat.add_mod_right, Nat.mod_eq_of_lt (show i - 1 < n by omega), show i - 1 + 1 = i by omega, Nat.mod_eq_of_lt h]
theorem straight_at {L : List Pt} {i : Nat} (h : i < L.length) : straightAt L i = flatAt L ((i + 1) % L.length) := by
 unfold straightAt flatAt nx
 rw [sc_back h]
theorem straight_flat {L : List Pt} : straightB L = decide (0 ≤ idxP L.length (flatAt L)) := by
 rw [idxP_nonneg, Bool.eq_iff_iff, straightB, anyTo_iff, List.any_eq_true]
 constructor
 ·rintro ⟨i, h1, h2⟩
  rw [straight_at h1] at h2
  exact ⟨_, by simpa using Nat.mod_lt _ (show 0 < L.length by omega), h2⟩
 ·rintro ⟨j, h1, h2⟩
  have h1 : j < L.length := by simpa using h1
  refine ⟨(j + L.length - 1) % L.length, Nat.mod_lt _ (by omega), ?_⟩
  rw [straight_at (Nat.mod_lt _ (by omega)), sc_fwd h1]
  exact h2
theorem rcross_eq {L : List Pt} (hne : ∀ i, i < L.length → L.getD i default ≠ nx L i) : rcrossB L = crossB L := by
 refine anyTo_congr fun i hi => anyTo_congr fun k hk => ?_
 unfold rcrossAt crossAt
 by_cases h2 : i + 2 ≤ k
 ·rw [decide_eq_true h2, Bool.true_and, Bool.true_and]
  have e1 : decide ((k + 1) % L.length ≠ i) = !(decide (i = 0) && decide (k = L.length - 1)) := by
   rw [← Bool.decide_and, ← decide_not, decide_eq_decide]
   rcases Nat.lt_or_ge (k + 1) L.length with h | h
   ·rw [Nat.mod_eq_of_lt h]; omega
   ·rw [show k + 1 = L.length by omega, Nat.mod_self]; omega
  have e2 : rmeet10 (L.getD i default) (nx L i) (L.getD k default) (nx L k) = (meetM (segOf L i) (segOf L k)).isSome := by
   have o1 : (segOf L i).ok := fun e => hne i hi (cmpP_zero.1 e)
   have o2 : (segOf L k).ok := fun e => hne k hk (cmpP_zero.1 e)
   rw [Bool.eq_iff_iff, rmeet10_iff (hne i hi) (hne k hk)]
   exact ⟨fun h => meet_some o1 o2 h, fun h => some_common h⟩
  rw [e1, e2]
 ·rw [decide_eq_false h2, Bool.false_and, Bool.false_and]
theorem rchkC_eq {L : List Pt} (h3 : 3 ≤ L.length) : rchkC L = chkC L := by
 unfold rchkC chkC
 rw [straight_flat]
 by_cases hf : 0 ≤ idxP L.length (flatAt L)
 ·rw [decide_eq_true hf, if_pos rfl, if_pos hf]
 ·rw [decide_eq_false hf, if_neg (by simp), if_neg hf]
  have hfl := idxP_neg hf
  rw [rcross_eq fun i hi => flat_next_ne h3 hfl hi]
  by_cases hx : crossB L = true
  ·rw [if_pos hx, if_pos hx]
  ·rw [if_neg hx, if_neg hx]
   have hg : Good L := Good.of h3 hfl (by simpa using hx)
   have ha := hg.areaNe
   have : cmpQ (areaL L) 0 < 0 ↔ cmpQ (areaL L) 0 ≤ 0 := by
    have : cmpQ (areaL L) 0 ≠ 0 := fun e => ha (cmpQ_zero.1 e)
    omega
   simp only [this]
end Go.Av
namespace Go.Av
def stopAt (C : List Pt) (s : Sg) (i : Nat) : Bool := !(decide (C.getD i default = s.a) || decide (C.getD i default = s.b)) && rbetween s.a s.b (C.getD i default)
def endAt (C : List Pt) (s : Sg) (i : Nat) : Bool := decide (C.getD i default = s.a) || decide (C.getD i default = s.b)
def rdiagB (C : List Pt) (E : List Sg) (s : Sg) : Bool := !anyTo C.length (stopAt C s) && (decide (cntTo (endAt C s) C.length = 2) && !anyTo E.length fun i => rcross (E.getD i sg0) s)
theorem cntTo_pts (C : List Pt) (g : Pt → Bool) : cntTo (fun k => g (C.getD k default)) C.length = C.countP g := by
 have e : C = (List.range C.length).map fun k => C.getD k default := by
  refine List.ext_getElem (by simp) fun i h1 h2 => ?_
  rw [List.getElem_map, List.getElem_range, List.getD_eq_getElem?_getD, List.getElem?_eq_getElem h1]; rfl
 conv => rhs; rw [e]
 rw [List.countP_map]; rfl
theorem countP_two {a b : Pt} (h : a ≠ b) : ∀ C : List Pt, C.countP (fun p => decide (p = a) || decide (p = b)) = C.countP (fun p => decide (p = a)) + C.countP (fun p => decide (p = b))
 | [] => rfl
 | p :: C => by
  rw [List.countP_cons, List.countP_cons, List.countP_cons, countP_two h C]
  by_cases h1 : p = a
  ·subst h1
   have : decide (p = b) = false := decide_eq_false h
   simp [this]; omega
  ·by_cases h2 : p = b
   ·subst h2; simp [h1]; omega
   ·simp [h1, h2]
theorem count_none {C : List Pt} {c : Pt} (hc : c ∉ C) : C.countP (fun p => decide (p = c)) = 0 :=
 List.countP_eq_zero.2 (fun a ha => by simp; rintro rfl; exact hc ha)
theorem ends_two {C : List Pt} (hd : C.Nodup) {s : Sg} (hs : s.a ≠ s.b) : cntTo (endAt C s) C.length = 2 ↔ s.a ∈ C ∧ s.b ∈ C := by
 have e := cntTo_pts C (fun p => decide (p = s.a) || decide (p = s.b))
 rw [countP_two hs] at e
 show cntTo (fun k => decide (C.getD k default = s.a) || decide (C.getD k default = s.b)) C.length = 2 ↔ _
 rw [e]
 by_cases h1 : s.a ∈ C <;> by_cases h2 : s.b ∈ C
 ·rw [count_one hd h1, count_one hd h2]; simp [h1, h2]
 ·rw [count_one hd h1, count_none h2]; simp [h2]
 ·rw [count_none h1, count_one hd h2]; simp [h1]
 ·rw [count_none h1, count_none h2]; simp [h1]
theorem block_pt {s t : Sg} (hb : blockB s t = true) : ∃ l, 0 < l ∧ l < 1 ∧ onSeg t.a t.b (pt s.a s.b l) := by
 unfold blockB at hb
 cases hm : meetM s t with
 | none => rw [hm] at hb; simp at hb
 | some m =>
  obtain ⟨⟨p1, p2⟩, p3, p4⟩ := meet_mem hm
  rw [hm] at hb
  simp only [Option.isSome_some, Option.getD_some, Bool.true_and, Bool.or_eq_true, decide_eq_true_eq, Bool.and_eq_true] at hb
  by_cases he : m.a = m.b
  ·rcases hb with hb | ⟨n1, n2⟩
   ·exact absurd he hb
   ·obtain ⟨l, l0, l1, e⟩ := p1
    obtain ⟨k0, k1⟩ := inner l0 l1 e n1 n2
    exact ⟨l, k0, k1, by rw [← e]; exact p2⟩
  ·obtain ⟨x, x0, x1, e1⟩ := p1
   obtain ⟨y, y0, y1, e2⟩ := p3
   obtain ⟨u, u0, u1, e3⟩ := p2
   obtain ⟨v, v0, v1, e4⟩ := p4
   have hxy : x ≠ y := fun h => he (by rw [e1, e2, h])
   refine ⟨x + 1 / 2 * (y - x), by grind, by grind, u + 1 / 2 * (v - u), by grind, by grind, ?_⟩
   rw [← pt_pt, ← pt_pt, ← e1, ← e2, ← e3, ← e4]
theorem out_cases {x y l : Rat} (l0 : 0 < l) (l1 : l < 1) (hx : ¬ (0 < x ∧ x < 1)) (hy : ¬ (0 < y ∧ y < 1)) {m : Rat} (m0 : 0 < m) (m1 : m < 1) (e : x + m * (y - x) = l) : x ≤ 0 ∧ 1 ≤ y ∨ 1 ≤ x ∧ y ≤ 0 := by
 by_cases h0 : x ≤ 0
 ·left
  refine ⟨h0, ?_⟩
  by_cases hy0 : 1 ≤ y
  ·exact hy0
  ·have := Rat.mul_nonneg (show 0 ≤ 1 - m by grind) (show 0 ≤ -x by grind)
   have := Rat.mul_nonneg (Rat.le_of_lt m0) (show 0 ≤ -y by grind)
   grind
 ·right
  have h1 : 1 ≤ x := by grind
  refine ⟨h1, ?_⟩
  by_cases hy0 : y ≤ 0
  ·exact hy0
  ·have := Rat.mul_nonneg (show 0 ≤ 1 - m by grind) (show 0 ≤ x - 1 by grind)
   have := Rat.mul_nonneg (Rat.le_of_lt m0) (show 0 ≤ y - 1 by grind)
   grind
theorem covers {s t : Sg} (hs : s.a ≠ s.b) (ht : t.a ≠ t.b) {l : Rat} (l0 : 0 < l) (l1 : l < 1) (hp : onSeg t.a t.b (pt s.a s.b l)) (ha : t.a = s.a ∨ t.a = s.b ∨ ¬ onSeg s.a s.b t.a) (hb : t.b = s.a ∨ t.b = s.b ∨ ¬ onSeg s.a s.b t.b)
 (hx : rcross t s = false) : onSeg t.a t.b (pt s.a s.b (1 / 2)) := by
 have hend : ∀ {c : Pt}, (c = s.a ∨ c = s.b ∨ ¬ onSeg s.a s.b c) → ∀ x, c = pt s.a s.b x → ¬ (0 < x ∧ x < 1) := by
  rintro c (h | h | h) x e ⟨k0, k1⟩
  ·rw [h] at e
   have := pt_inj hs ((pt_0 s.a s.b).trans e)
   grind
  ·rw [h] at e
   have := pt_inj hs ((pt_1 s.a s.b).trans e)
   grind
  ·exact h ⟨x, Rat.le_of_lt k0, Rat.le_of_lt k1, e⟩
 obtain ⟨m, m0, m1, e⟩ := hp
 have key : ar s.a s.b t.a = 0 → ar s.a s.b t.b = 0 → 0 < m → m < 1 → onSeg t.a t.b (pt s.a s.b (1 / 2)) := by
  intro hC hD m0 m1
  obtain ⟨x, hx⟩ := on_line hs hC
  obtain ⟨y, hy⟩ := on_line hs hD
  have hm : x + m * (y - x) = l := pt_inj hs (by rw [← pt_pt, ← hx, ← hy, ← e])
  have hc := out_cases l0 l1 (hend ha x hx) (hend hb y hy) m0 m1 hm
  obtain ⟨u, u0, u1, hu⟩ := root (f := x - 1 / 2) (g := y - 1 / 2) (by rcases hc with ⟨h, k⟩ | ⟨h, k⟩ <;> grind) (by rcases hc with ⟨h, k⟩ | ⟨h, k⟩ <;> grind)
  refine ⟨u, u0, u1, ?_⟩
  rw [hx, hy, pt_pt, show x + u * (y - x) = 1 / 2 by grind]
 have n1 : pt s.a s.b l ≠ t.a := fun k => hend ha l k.symm ⟨l0, l1⟩
 have n2 : pt s.a s.b l ≠ t.b := fun k => hend hb l k.symm ⟨l0, l1⟩
 obtain ⟨m0, m1⟩ := inner m0 m1 e n1 n2
 have q1 : ar t.a t.b s.a + l * (ar t.a t.b s.b - ar t.a t.b s.a) = 0 := by rw [← ar_pt, e, ar_pt, ar_l, ar_r]; grind
 have q2 : ar s.a s.b t.a + m * (ar s.a s.b t.b - ar s.a s.b t.a) = 0 := by rw [← ar_pt, ← e, ar_pt, ar_l, ar_r]; grind
 have zero : ∀ {x y k : Rat}, 0 < k → x + k * (y - x) = 0 → x = 0 → y = 0 := by
  rintro x y k k0 h rfl
  have : k * y = 0 := by grind
  rcases Rat.mul_eq_zero.1 this with h | h
  ·grind
  ·exact h
 by_cases hC : ar s.a s.b t.a = 0
 ·exact key hC (zero m0 q2 hC) m0 m1
 ·by_cases hA : ar t.a t.b s.a = 0
  ·exfalso
   have hB := zero l0 q1 hA
   obtain ⟨x, hx⟩ := on_line ht hA
   obtain ⟨y, hy⟩ := on_line ht hB
   apply hC
   rw [hx, hy]
   unfold ar pt; simp only; grind
  ·have : rcross t s = true := by
    unfold rcross
    simp only [Bool.and_eq_true, decide_eq_true_eq, opp_iff]
    exact ⟨opp_of l0 l1 hA q1, opp_of m0 m1 hC q2⟩
   rw [hx] at this; cases this
theorem whereS_le {L : List Pt} {Hs : List (List Pt)} (h : Valid L Hs) (q : Pt) : whereS L Hs q = 0 ∨ whereS L Hs q = 1 ∨ whereS L Hs q = -1 := by
 obtain ⟨w1, w2⟩ := where_eq h q
 rcases sideS_one (l := L) (q := q) with k | k | k
 ·left; rw [w1 (by omega), k]
 ·obtain ⟨a, b, c⟩ := w2 k
  by_cases hx : ∃ x ∈ Hs, sideS x q = 0
  ·exact .inl (a hx)
  ·by_cases hy : ∃ x ∈ Hs, sideS x q = 1
   ·exact .inr (.inr (b hx hy))
   ·refine .inr (.inl (c fun x hm => ?_))
    rcases sideS_one (l := x) (q := q) with u | u | u
    ·exact absurd ⟨x, hm, u⟩ hx
    ·exact absurd ⟨x, hm, u⟩ hy
    ·exact u
 ·right; right; rw [w1 (by omega), k]
theorem edge_ends {L : List Pt} {Hs : List (List Pt)} (h : Valid L Hs) {t : Sg} (ht : t ∈ edgesTo (L :: Hs) (Hs.length + 1)) : t.a ≠ t.b ∧ t.a ∈ cornersTo (L :: Hs) (Hs.length + 1) ∧ t.b ∈ cornersTo (L :: Hs) (Hs.length + 1) := by
 have e1 : t.a ∈ (edgesTo (L :: Hs) (Hs.length + 1)).map Sg.a := List.mem_map_of_mem ht
 have e2 : t.b ∈ (edgesTo (L :: Hs) (Hs.length + 1)).map Sg.b := List.mem_map_of_mem ht
 rw [edgesTo_a] at e1
 refine ⟨?_, e1, (edgesTo_b _ _).mem_iff.1 e2⟩
 obtain ⟨l, hl, hs⟩ := mem_edgesTo (by simp) ht
 obtain ⟨j, hj, rfl⟩ := mem_edgesL hs
 exact (vring_of h hl).next_ne hj
theorem corner_edge {L : List Pt} {Hs : List (List Pt)} {c : Pt} (hc : c ∈ cornersTo (L :: Hs) (Hs.length + 1)) : ∃ t ∈ edgesTo (L :: Hs) (Hs.length + 1), t.a = c := by
 rw [← edgesTo_a] at hc
 obtain ⟨t, h1, h2⟩ := List.mem_map.1 hc
 exact ⟨t, h1, h2⟩
theorem rdiag_eq {L : List Pt} {Hs : List (List Pt)} (h : Valid L Hs) (hap : Apart (L :: Hs)) {s : Sg} (hs : s.ok) :
 (rdiagB (cornersTo (L :: Hs) (Hs.length + 1)) (edgesTo (L :: Hs) (Hs.length + 1)) s && decide (whereS L Hs (s.a.at s.b (1 / 2)) = 1)) = (diagS L Hs s).1 ∧ (diagS L Hs s).2 = 0 := by
 have hne : s.a ≠ s.b := fun e => hs (cmpP_zero.2 e)
 have hd : (cornersTo (L :: Hs) (Hs.length + 1)).Nodup := hap.nodup _ (by simp)
 have h2 : (diagS L Hs s).2 = 0 := by
  unfold diagS
  rw [if_neg (show ¬ cmpP s.a s.b = 0 from hs)]
  split <;> rfl
 refine ⟨?_, h2⟩
 unfold diagS
 rw [if_neg (show ¬ cmpP s.a s.b = 0 from hs)]
 by_cases hc : s.a ∈ cornersTo (L :: Hs) (Hs.length + 1) ∧ s.b ∈ cornersTo (L :: Hs) (Hs.length + 1)
 ·rw [if_pos hc]
  have hw : decide (whereS L Hs (s.a.at s.b (1 / 2)) = 1) = decide (0 < whereS L Hs (s.a.at s.b (1 / 2))) := by
   rw [decide_eq_decide]
   have := whereS_le h (s.a.at s.b (1 / 2))
   omega
  try simp only
  rw [hw]
  by_cases hin : 0 < whereS L Hs (s.a.at s.b (1 / 2))
  ·rw [decide_eq_true hin, Bool.and_true, Bool.and_true]
   have h1 : whereS L Hs (s.a.at s.b (1 / 2)) = 1 := by have := whereS_le h (s.a.at s.b (1 / 2)); omega
   rw [at_pt] at h1
   have hmid : ∀ t ∈ edgesTo (L :: Hs) (Hs.length + 1), ¬ onSeg t.a t.b (pt s.a s.b (1 / 2)) := by
    intro t ht k
    obtain ⟨l, hl, hm⟩ := mem_edgesTo (by simp) ht
    rw [(where_zero h _).2 ⟨l, hl, t, hm, k⟩] at h1; cases h1
   unfold rdiagB
   rw [decide_eq_true ((ends_two hd hne).2 hc), Bool.true_and]
   cases hbl : blockedP (edgesTo (L :: Hs) (Hs.length + 1)) s with
   | false =>
    have hfree : ∀ t ∈ edgesTo (L :: Hs) (Hs.length + 1), ∀ {l : Rat}, 0 < l → l < 1 → ¬ onSeg t.a t.b (pt s.a s.b l) := fun t ht l l0 l1 =>
     block_free hs (fun e => (edge_ends h ht).1 (cmpP_zero.1 e)) (blocked_get hbl ht) l0 l1
    rw [anyTo_false (fun i hi => ?_), anyTo_false (fun i hi => ?_)]; rfl
    ·have hm : (edgesTo (L :: Hs) (Hs.length + 1)).getD i sg0 ∈ edgesTo (L :: Hs) (Hs.length + 1) := by
      rw [List.getD_eq_getElem?_getD, List.getElem?_eq_getElem hi]; exact List.getElem_mem hi
     generalize (edgesTo (L :: Hs) (Hs.length + 1)).getD i sg0 = t at hm
     cases hx : rcross t s with
     | false => rfl
     | true =>
      exfalso
      have hC : Common t.a t.b s.a s.b := (rmeet10_iff (edge_ends h hm).1 hne).1 (by unfold rmeet10; rw [hx, Bool.or_true])
      obtain ⟨p, k1, l, l0, l1, e⟩ := hC
      unfold rcross at hx
      simp only [Bool.and_eq_true, decide_eq_true_eq, opp_iff] at hx
      have q1 : ar t.a t.b s.a + l * (ar t.a t.b s.b - ar t.a t.b s.a) = 0 := by
       obtain ⟨m, _, _, e2⟩ := k1
       rw [← ar_pt, ← e, e2, ar_pt, ar_l, ar_r]; grind
      have l0' : 0 < l := (lt_or_eq' l0).resolve_right (by rintro rfl; rcases hx.1 with ⟨_, _⟩ | ⟨_, _⟩ <;> grind)
      have l1' : l < 1 := (lt_or_eq' l1).resolve_right (by rintro rfl; rcases hx.1 with ⟨_, _⟩ | ⟨_, _⟩ <;> grind)
      exact hfree t hm l0' l1' (by rw [← e]; exact k1)
    ·have hm : (cornersTo (L :: Hs) (Hs.length + 1)).getD i default ∈ cornersTo (L :: Hs) (Hs.length + 1) := by
      rw [List.getD_eq_getElem?_getD, List.getElem?_eq_getElem hi]; exact List.getElem_mem hi
     unfold stopAt
     generalize (cornersTo (L :: Hs) (Hs.length + 1)).getD i default = c at hm
     by_cases e1 : c = s.a
     ·rw [decide_eq_true e1]; rfl
     by_cases e2 : c = s.b
     ·rw [decide_eq_true e2, Bool.or_true]; rfl
     rw [decide_eq_false e1, decide_eq_false e2]
     cases hb : rbetween s.a s.b c with
     | false => rfl
     | true =>
      exfalso
      obtain ⟨l, l0, l1, e⟩ := (rbetween_onSeg hne).1 hb
      obtain ⟨l0, l1⟩ := inner l0 l1 e e1 e2
      obtain ⟨t, ht, rfl⟩ := corner_edge hm
      exact hfree t ht l0 l1 (by rw [← e]; exact onSeg_l _ _)
   | true =>
    obtain ⟨i, hi, hb⟩ := anyTo_iff.1 hbl
    have hm : (edgesTo (L :: Hs) (Hs.length + 1)).getD i sg0 ∈ edgesTo (L :: Hs) (Hs.length + 1) := by
     rw [List.getD_eq_getElem?_getD, List.getElem?_eq_getElem hi]; exact List.getElem_mem hi
    obtain ⟨l, l0, l1, hp⟩ := block_pt hb
    obtain ⟨n0, n1, n2⟩ := edge_ends h hm
    cases hst : anyTo (cornersTo (L :: Hs) (Hs.length + 1)).length (stopAt (cornersTo (L :: Hs) (Hs.length + 1)) s) with
    | true => rfl
    | false =>
     have hfree : ∀ c ∈ cornersTo (L :: Hs) (Hs.length + 1), c = s.a ∨ c = s.b ∨ ¬ onSeg s.a s.b c := by
      intro c hc2
      obtain ⟨j, hj, e⟩ := mem_getD hc2
      have := anyTo_get hst hj
      unfold stopAt at this
      rw [e] at this
      by_cases e1 : c = s.a
      ·exact .inl e1
      by_cases e2 : c = s.b
      ·exact .inr (.inl e2)
      right; right
      rw [decide_eq_false e1, decide_eq_false e2] at this
      intro k
      rw [(rbetween_onSeg hne).2 k] at this
      cases this
     cases hx : rcross ((edgesTo (L :: Hs) (Hs.length + 1)).getD i sg0) s with
     | true =>
      rw [anyTo_true hi hx]; rfl
     | false => exact absurd (covers hne n0 l0 l1 hp (hfree _ n1) (hfree _ n2) hx) (hmid _ hm)
  ·rw [decide_eq_false hin, Bool.and_false, Bool.and_false]
 ·rw [if_neg hc]
  unfold rdiagB
  rw [decide_eq_false (fun e => hc ((ends_two hd hne).1 e)), Bool.false_and, Bool.and_false, Bool.false_and]
end Go.Av
namespace Go.Av
end Go.Av
