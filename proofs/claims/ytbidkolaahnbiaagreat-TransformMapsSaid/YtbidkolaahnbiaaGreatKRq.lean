/- Helping texts: Rq. -/
import Derived.Test.YtbidkolaahnbiaaGreatKMh
import Derived.Test.YtbidkolaahnbiaaGreatKRn
set_option linter.unusedSimpArgs false
set_option linter.unusedVariables false
set_option maxRecDepth 100000
set_option maxHeartbeats 16000000
namespace Go.Av
open Go.RowKit
open Go.Proofs.Tryz (prog)
theorem cmpQ_le0 {q : Rat} : cmpQ q 0 ≤ 0 ↔ q ≤ 0 := by
 unfold cmpQ
 by_cases h1 : q < 0
 ·rw [if_pos h1]
  exact ⟨fun _ => Rat.le_of_lt h1, fun _ => by decide⟩
 ·rw [if_neg h1]
  by_cases h2 : 0 < q
  ·rw [if_pos h2]
   exact ⟨fun h => absurd h (by decide), fun h => absurd h2 (Rat.not_lt.2 h)⟩
  ·rw [if_neg h2]
   exact ⟨fun _ => Rat.not_lt.1 h2, fun _ => by decide⟩
theorem rbetween_iff {a b p : Pt} : rbetween a b p = true ↔ ar a b p = 0 ∧ dotP (a.sub p) (b.sub p) ≤ 0 := by
 unfold rbetween
 rw [Bool.and_eq_true, decide_eq_true_eq, decide_eq_true_eq, orient_ar, cmpQ_le0]
theorem on_line {a b p : Pt} (hne : a ≠ b) (h : ar a b p = 0) : ∃ m, p = pt a b m := by
 by_cases hx : b.x - a.x = 0
 ·have hy : b.y - a.y ≠ 0 := fun hy => hne (Pt.ext (by grind) (by grind))
  refine ⟨(p.y - a.y) / (b.y - a.y), Pt.ext ?_ ?_⟩
  ·unfold pt ar at *; simp only; grind
  ·unfold pt; simp only
   rw [Rat.div_mul_cancel hy]; grind
 ·refine ⟨(p.x - a.x) / (b.x - a.x), Pt.ext ?_ ?_⟩
  ·unfold pt; simp only
   rw [Rat.div_mul_cancel hx]; grind
  ·unfold pt ar at *; simp only
   have : (p.x - a.x) / (b.x - a.x) * (b.y - a.y) = p.y - a.y := by
    rw [Rat.div_def]
    have : (b.x - a.x) * (b.x - a.x)⁻¹ = 1 := Rat.mul_inv_cancel _ hx
    grind
   grind
theorem sq_nn (x : Rat) : 0 ≤ x * x := by
 by_cases h : 0 ≤ x
 ·exact Rat.mul_nonneg h h
 ·have := Rat.mul_nonneg (show 0 ≤ -x by grind) (show 0 ≤ -x by grind)
  grind
theorem sq_pos {x : Rat} (h : x ≠ 0) : 0 < x * x := by
 by_cases h0 : 0 < x
 ·exact Rat.mul_pos h0 h0
 ·have := Rat.mul_pos (show 0 < -x by grind) (show 0 < -x by grind)
  grind
theorem len_pos {a b : Pt} (hne : a ≠ b) : 0 < (b.x - a.x) * (b.x - a.x) + (b.y - a.y) * (b.y - a.y) := by
 have h1 := sq_nn (b.x - a.x)
 have h2 := sq_nn (b.y - a.y)
 by_cases hx : b.x - a.x = 0
 ·have hy : b.y - a.y ≠ 0 := fun hy => hne (Pt.ext (by grind) (by grind))
  have := sq_pos hy
  grind
 ·have := sq_pos hx
  grind
theorem rbetween_onSeg {a b p : Pt} (hne : a ≠ b) : rbetween a b p = true ↔ onSeg a b p := by
 rw [rbetween_iff]
 have hl := len_pos hne
 have dot_pt : ∀ m, dotP (a.sub (pt a b m)) (b.sub (pt a b m)) = -(m * (1 - m) * ((b.x - a.x) * (b.x - a.x) + (b.y - a.y) * (b.y - a.y))) := by
  intro m; unfold dotP Pt.sub pt; simp only; grind
 constructor
 ·rintro ⟨h1, h2⟩
  obtain ⟨m, rfl⟩ := on_line hne h1
  rw [dot_pt] at h2
  have h3 : 0 ≤ m * (1 - m) := by
   by_cases h : 0 ≤ m * (1 - m)
   ·exact h
   ·have := Rat.mul_pos (show 0 < -(m * (1 - m)) by grind) hl
    grind
  refine ⟨m, ?_, ?_, rfl⟩
  ·by_cases h : 0 ≤ m
   ·exact h
   ·have := Rat.mul_pos (show 0 < -m by grind) (show 0 < 1 - m by grind)
    grind
  ·by_cases h : m ≤ 1
   ·exact h
   ·have := Rat.mul_pos (show 0 < m by grind) (show 0 < m - 1 by grind)
    grind
 ·rintro ⟨m, m0, m1, rfl⟩
  refine ⟨by rw [ar_pt, ar_l, ar_r]; grind, ?_⟩
  rw [dot_pt]
  have h3 := Rat.mul_nonneg (Rat.mul_nonneg m0 (show 0 ≤ 1 - m by grind)) (Rat.le_of_lt hl)
  grind
end Go.Av
