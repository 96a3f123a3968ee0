/- Helping texts: Ma. -/
import Derived.Test.YtbidkolaahnbiaaGreatKDb
set_option linter.unusedSimpArgs false
set_option linter.unusedVariables false
set_option maxRecDepth 100000
set_option maxHeartbeats 16000000
namespace Go.Av
theorem cmpQ_le {p q : Rat} : cmpQ p q ≤ 0 ↔ p ≤ q := by
 unfold cmpQ
 by_cases h : p < q
 ·rw [if_pos h]; exact ⟨fun _ => Rat.le_of_lt h, fun _ => by omega⟩
 ·rw [if_neg h]
  by_cases h2 : q < p
  ·rw [if_pos h2]; exact ⟨fun h => by omega, fun h => absurd h2 (Rat.not_lt.2 h)⟩
  ·rw [if_neg h2]; exact ⟨fun _ => Rat.not_lt.1 h2, fun _ => by omega⟩
theorem cmpQ_nonneg {p q : Rat} : 0 ≤ cmpQ p q ↔ q ≤ p := by
 unfold cmpQ
 by_cases h : p < q
 ·rw [if_pos h]; exact ⟨fun h => by omega, fun h2 => absurd h (Rat.not_lt.2 h2)⟩
 ·rw [if_neg h]
  by_cases h2 : q < p
  ·rw [if_pos h2]; exact ⟨fun _ => Rat.le_of_lt h2, fun _ => by omega⟩
  ·rw [if_neg h2]; exact ⟨fun _ => Rat.not_lt.1 h, fun _ => by omega⟩
theorem lt_or_eq' {p q : Rat} (h : p ≤ q) : p < q ∨ p = q := by
 by_cases e : p = q
 ·exact .inr e
 ·left
  rcases Rat.le_total (a := q) (b := p) with h2 | h2
  ·exact absurd (Rat.le_antisymm h h2) e
  ·exact Rat.not_le.1 fun h3 => e (Rat.le_antisymm h h3)
theorem lt_trans' {p q r : Rat} (h : p < q) (k : q < r) : p < r := Rat.not_le.1 fun h2 => Rat.not_le.2 h (Rat.le_trans (Rat.le_of_lt k) h2)
theorem lt_tri (p q : Rat) : p < q ∨ p = q ∨ q < p := by
 rcases Rat.le_total (a := p) (b := q) with h | h
 ·rcases lt_or_eq' h with h | h
  ·exact .inl h
  ·exact .inr (.inl h)
 ·rcases lt_or_eq' h with h | h
  ·exact .inr (.inr h)
  ·exact .inr (.inl h.symm)
theorem cmpP_le {p q : Pt} : cmpP p q ≤ 0 ↔ p.x < q.x ∨ (p.x = q.x ∧ p.y ≤ q.y) := by
 unfold cmpP
 by_cases h : cmpQ p.x q.x = 0
 ·rw [if_pos h]
  have e := cmpQ_zero.1 h
  rw [cmpQ_le, e]
  exact ⟨fun h => .inr ⟨rfl, h⟩, fun h => h.elim (fun h => absurd h Rat.lt_irrefl) (·.2)⟩
 ·rw [if_neg h, cmpQ_le]
  have hne : p.x ≠ q.x := fun e => h (cmpQ_zero.2 e)
  exact ⟨fun h => .inl ((lt_or_eq' h).resolve_right hne), fun h => h.elim Rat.le_of_lt (fun h => absurd h.1 hne)⟩
theorem cmpP_le_trans {p q r : Pt} (h1 : cmpP p q ≤ 0) (h2 : cmpP q r ≤ 0) : cmpP p r ≤ 0 := by
 rw [cmpP_le] at *
 rcases h1 with h1 | ⟨h1, h1'⟩ <;> rcases h2 with h2 | ⟨h2, h2'⟩
 ·exact .inl (lt_trans' h1 h2)
 ·exact .inl (h2 ▸ h1)
 ·exact .inl (h1 ▸ h2)
 ·exact .inr ⟨h1.trans h2, Rat.le_trans h1' h2'⟩
theorem cmpP_le_total (p q : Pt) : cmpP p q ≤ 0 ∨ cmpP q p ≤ 0 := by
 rw [cmpP_le, cmpP_le]
 rcases lt_tri p.x q.x with h | h | h
 ·exact .inl (.inl h)
 ·rcases Rat.le_total (a := p.y) (b := q.y) with h2 | h2
  ·exact .inl (.inr ⟨h, h2⟩)
  ·exact .inr (.inr ⟨h.symm, h2⟩)
 ·exact .inr (.inl h)
theorem cmpP_self (p : Pt) : cmpP p p = 0 := by unfold cmpP; rw [if_pos (cmpQ_zero.2 rfl)]; exact cmpQ_zero.2 rfl
theorem cmpP_zero {p q : Pt} : cmpP p q = 0 ↔ p = q := by
 constructor
 ·intro h
  unfold cmpP at h
  split at h
  ·rename_i h1; exact Pt.ext (cmpQ_zero.1 h1) (cmpQ_zero.1 h)
  ·contradiction
 ·rintro rfl; exact cmpP_self _
theorem cmpP_pos_le {p q : Pt} (h : 0 < cmpP p q) : cmpP q p ≤ 0 := by
 rcases cmpP_le_total p q with h1 | h1
 ·omega
 ·exact h1
theorem order_le (s : Sg) : cmpP s.order.a s.order.b ≤ 0 := by
 unfold Sg.order
 split
 ·rename_i h; exact cmpP_pos_le h
 ·omega
end Go.Av
