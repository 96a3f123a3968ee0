/- Helping texts: Ma. -/
import Derived.Test.YtbidkolaahnbiaaGreatKDb
set_option linter.unusedSimpArgs false
set_option linter.unusedVariables false
set_option maxRecDepth 100000
set_option maxHeartbeats 16000000
namespace Go.Av
theorem cmpQ_le {p q : Rat} : cmpQ p q ≤ 0 ↔ p ≤ q := by
 unfold cmpQ
 by_cases h : p < q
 ·rw [if_pos h]; exact ⟨fun _ => Rat.le_of_lt h, fun _ => by omega⟩
 ·rw [if_neg h]
  by_cases h2 : q < p
  ·rw [if_pos h2]; exact ⟨fun h => by omega, fun h => absurd h2 (Rat.not_lt.2 h)⟩
  ·rw [if_neg h2]; exact ⟨fun _ => Rat.not_lt.1 h2, fun _ => by omega⟩
theorem cmpQ_nonneg {p q : Rat} : 0 ≤ cmpQ p q ↔ q ≤ p := by
 unfold cmpQ
 by_cases h : p < q
 ·rw [if_pos h]; exact ⟨fun h => by omega, fun h2 => absurd h (Rat.not_lt.2 h2)⟩
 ·rw [if_neg h]
  by_cases h2 : q < p
  ·rw [if_pos h2]; exact ⟨fun _ => Rat.le_of_lt h2, fun _ => by omega⟩
  ·rw [if_neg h2]; exact ⟨fun _ => Rat.not_lt.1 h, fun _ => by omega⟩
theorem lt_or_eq' {p q : Rat} (h : p ≤ q) : p < q ∨ p = q := by
 by_cases e : p = q
 ·exact .inr e
 ·left
  rcases Rat.le_total (a := q) (b := p) with h2 | h2
  ·exact absurd (Rat.le_antisymm h h2) e
  ·exact Rat.not_le.1 fun h3 => e (Rat.le_antisymm h h3)
theorem lt_trans' {p q r : Rat} (h : p < q) (k : q < r) : p < r := Rat.not_le.1 fun h2 => Rat.not_le.2 h (Rat.le_trans (Rat.le_of_lt k) h2)
theorem lt_tri (p q : Rat) : p < q ∨ p = q ∨ q < p := by
 rcases Rat.le_total (a := p) (b := q) with h | h
 ·rcases lt_or_eq' h with h | h
  ·exact .inl h
  ·exact .inr (.inl h)
 ·rcases lt_or_eq' h with h | h
  ·exact .inr (.inr h)
  ·exact .inr (.inl h.symm)
theorem cmpP_le {p q : Pt} : cmpP p q ≤ 0 ↔ p.x < q.x ∨ (p.x = q.x ∧ p.y ≤ q.y) := by
 unfold cmpP
 by_cases h : cmpQ p.x q.x = 0
 ·rw [if_pos h]
  have e := cmpQ_zero.1 h
  rw [cmpQ_le, e]
  exact ⟨fun h => .inr ⟨rfl, h⟩, fun h => h.elim (fun h => absurd h Rat.lt_irrefl) (·.2)⟩
 ·rw [if_neg h, cmpQ_le]
  have hne : p.x ≠ q.x := fun e => h (cmpQ_zero.2 e)
  exact ⟨fun h => .inl ((lt_or_eq' h).resolve_right hne), fun h => h.elim Rat.le_of_lt (fun h => absurd h.1 hne)⟩
theorem cmpP_le_trans {p q r : Pt} (h1 : cmpP p q ≤ 0) (h2 : cmpP q r ≤ 0) : cmpP p r ≤ 0 := by
 rw [cmpP_le] at *
 rcases h1 with h1 | ⟨h1, h1'⟩ <;> rcases h2 with h2 | ⟨h2, h2'⟩
 ·exact .inl (lt_trans' h1 h2)
 ·exact .inl (h2 ▸ h1)
 ·exact .inl (h1 ▸ h2)
 ·exact .inr ⟨h1.trans h2, Rat.le_trans h1' h2'⟩
theorem cmpP_le_total (p q : Pt) : cmpP p q ≤ 0 ∨ cmpP q p ≤ 0 := by
 rw [cmpP_le, cmpP_le]
 rcases lt_tri p.x q.x with h | h | h
 ·exact .inl (.inl h)
 ·rcases Rat.le_total (a := p.y) (b := q.y) with h2 | h2
  ·exact .inl (.inr ⟨h, h2⟩)
  ·exact .inr (.inr ⟨h.symm, h2⟩)
 ·exact .inr (.inl h)
theorem cmpP_self (p : Pt) : cmpP p p = 0 := by unfold cmpP; rw [if_pos (cmpQ_zero.2 rfl)]; exact cmpQ_zero.2 rfl
theorem cmpP_zero {p q : Pt} : cmpP p q = 0 ↔ p = q := by
 constructor
 ·intro h
  unfold cmpP at h
  split at h
  ·rename_i h1; exact Pt.ext (cmpQ_zero.1 h1) (cmpQ_zero.1 h)
  ·contradiction
 ·rintro rfl; exact cmpP_self _
theorem cmpP_pos_le {p q : Pt} (h : 0 < cmpP p q) : cmpP q p ≤ 0 := by
 rcases cmpP_le_total p q with h1 | h1
 ·omega
 ·exact h1
theorem order_le (s : Sg) : cmpP s.order.a s.order.b ≤ 0 := by
 unfold Sg.order
 split
 ·rename_i h; exact cmpP_pos_le h
 ·omega
theorem order_ends (s : Sg) {P : Pt} (h : P = s.a ∨ P = s.b) : cmpP s.order.a P ≤ 0 ∧ cmpP P s.order.b ≤ 0 := by
 have h0 := order_le s
 have hr := fun p : Pt => Int.le_of_eq (cmpP_self p)
 unfold Sg.order at *
 split at h0 <;> rename_i h1 <;> rcases h with rfl | rfl
 ·rw [if_pos h1]; exact ⟨h0, hr _⟩
 ·rw [if_pos h1]; exact ⟨hr _, h0⟩
 ·rw [if_neg h1]; exact ⟨hr _, h0⟩
 ·rw [if_neg h1]; exact ⟨h0, hr _⟩
theorem unit_zero : unit 0 = true := by decide +kernel
theorem unit_one : unit 1 = true := by decide +kernel
theorem div_self' {x : Rat} (h : x ≠ 0) : x / x = 1 := by grind
theorem zero_div' {x : Rat} : 0 / x = 0 := by grind
theorem meet_common {s t : Sg} (hs : s.ok) (ht : t.ok) {P : Pt} (h1 : P = s.a ∨ P = s.b) (h2 : P = t.a ∨ P = t.b) : (meetM s t).isSome = true := by
 rw [meetM, if_pos ⟨hs, ht⟩]
 unfold meetS
 by_cases hd : cross s.dir t.dir = 0
 ·rw [if_neg (fun h => h hd)]
  have hw : cross s.dir (t.a.sub s.a) = 0 := by
   rcases h1 with h1 | h1 <;> rcases h2 with h2 | h2 <;> (have hx := h1.symm.trans h2; revert hd; simp only [Sg.dir, cross, Pt.sub]) <;> (have ex := congrArg Pt.x hx; have ey := congrArg Pt.y hx; grind)
  rw [if_neg (fun h => h hw), if_neg]
  ·rfl
  ·have := order_ends s h1
   have := order_ends t h2
   have e1 : cmpP (greater s.order.a t.order.a) P ≤ 0 := by unfold greater; split <;> simp_all
   have e2 : cmpP P (lesser s.order.b t.order.b) ≤ 0 := by unfold lesser; split <;> simp_all
   have := cmpP_le_trans e1 e2
   omega
 ·rw [if_pos hd]
  have key : ∀ u v : Rat, (u = 0 ∨ u = cross s.dir t.dir) → (v = 0 ∨ v = cross s.dir t.dir) → (unit (u / cross s.dir t.dir) && unit (v / cross s.dir t.dir)) = true := by
   have hz : ∀ u : Rat, (u = 0 ∨ u = cross s.dir t.dir) → unit (u / cross s.dir t.dir) = true := by
    rintro u (rfl | rfl)
    ·rw [zero_div', unit_zero]
    ·rw [div_self' hd, unit_one]
   intro u v hu hv
   rw [hz u hu, hz v hv]; rfl
  rw [if_pos (key _ _ ?_ ?_)]
  ·rfl
  ·rcases h1 with h1 | h1 <;> rcases h2 with h2 | h2 <;> (have hx := h1.symm.trans h2; have ex := congrArg Pt.x hx; have ey := congrArg Pt.y hx; simp only [Sg.dir, cross, Pt.sub]; grind)
  ·rcases h1 with h1 | h1 <;> rcases h2 with h2 | h2 <;> (have hx := h1.symm.trans h2; have ex := congrArg Pt.x hx; have ey := congrArg Pt.y hx; simp only [Sg.dir, cross, Pt.sub]; grind)
end Go.Av
