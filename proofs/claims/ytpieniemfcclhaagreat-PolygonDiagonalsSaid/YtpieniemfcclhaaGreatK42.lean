/- Helping texts: Mc. -/
import Derived.Test.YtpieniemfcclhaaGreatK40
set_option linter.unusedSimpArgs false
set_option linter.unusedVariables false
/- Plain mathematics: a segment that meets no edge has both ends on the same side of a ring. -/
namespace Go.Av

theorem le_of_nlt {p q : Rat} (h : ¬ p < q) : q ≤ p := Rat.not_lt.1 h
theorem frac {p q : Rat} (hp : 0 ≤ p) (hq : 0 ≤ q) (h : 0 < p + q) : 0 ≤ p / (p + q) ∧ p / (p + q) ≤ 1 := by
  have hi : 0 < (p + q)⁻¹ := Rat.inv_pos.2 h
  have h1 := Rat.mul_nonneg hp (Rat.le_of_lt hi)
  have h2 := Rat.mul_nonneg hq (Rat.le_of_lt hi)
  have h3 : (p + q) * (p + q)⁻¹ = 1 := Rat.mul_inv_cancel _ (fun e => by rw [e] at h; exact absurd h Rat.lt_irrefl)
  constructor <;> grind
theorem root {f g : Rat} (h : f ≤ 0 ∧ 0 ≤ g ∨ 0 ≤ f ∧ g ≤ 0) (hne : f ≠ g) : ∃ m, 0 ≤ m ∧ m ≤ 1 ∧ f + m * (g - f) = 0 := by
  rcases h with ⟨h1, h2⟩ | ⟨h1, h2⟩
  · have hp : 0 < -f + g := by grind
    obtain ⟨k1, k2⟩ := frac (p := -f) (q := g) (by grind) h2 hp
    have h3 : (-f + g) * (-f + g)⁻¹ = 1 := Rat.mul_inv_cancel _ (fun e => by rw [e] at hp; exact absurd hp Rat.lt_irrefl)
    exact ⟨_, k1, k2, by grind⟩
  · have hp : 0 < f + -g := by grind
    obtain ⟨k1, k2⟩ := frac (p := f) (q := -g) h1 (by grind) hp
    have h3 : (f + -g) * (f + -g)⁻¹ = 1 := Rat.mul_inv_cancel _ (fun e => by rw [e] at hp; exact absurd hp Rat.lt_irrefl)
    exact ⟨_, k1, k2, by grind⟩
theorem mul_pos_iff' {d w : Rat} (h : 0 < d) : 0 < d * w ↔ 0 < w := by
  constructor
  · intro k
    rcases lt_tri 0 w with h1 | h1 | h1
    · exact h1
    · subst h1; grind
    · have := Rat.mul_pos h (show 0 < -w by grind); grind
  · exact Rat.mul_pos h

/-- Twice the area of a triangle. -/
def ar (u v p : Pt) : Rat := (v.x - u.x) * (p.y - u.y) - (v.y - u.y) * (p.x - u.x)
/-- The point at m. -/
def pt (u v : Pt) (m : Rat) : Pt := ⟨u.x + m * (v.x - u.x), u.y + m * (v.y - u.y)⟩
theorem ar_pt (u v p q : Pt) (m : Rat) : ar u v (pt p q m) = ar u v p + m * (ar u v q - ar u v p) := by unfold ar pt; grind
theorem ar_l (u v : Pt) : ar u v u = 0 := by unfold ar; grind
theorem ar_r (u v : Pt) : ar u v v = 0 := by unfold ar; grind
def onSeg (u v p : Pt) : Prop := ∃ m, 0 ≤ m ∧ m ≤ 1 ∧ p = pt u v m
def Common (a b u v : Pt) : Prop := ∃ p, onSeg a b p ∧ onSeg u v p
theorem onSeg_of {u v p : Pt} (h : u.y < v.y) (hx : ar u v p = 0) (h1 : u.y ≤ p.y) (h2 : p.y ≤ v.y) : onSeg u v p := by
  have hd : 0 < (p.y - u.y) + (v.y - p.y) := by grind
  obtain ⟨k1, k2⟩ := frac (p := p.y - u.y) (q := v.y - p.y) (by grind) (by grind) hd
  have h3 : ((p.y - u.y) + (v.y - p.y)) * ((p.y - u.y) + (v.y - p.y))⁻¹ = 1 := Rat.mul_inv_cancel _ (fun e => by rw [e] at hd; exact absurd hd Rat.lt_irrefl)
  refine ⟨_, k1, k2, Pt.ext ?_ ?_⟩
  · unfold pt; unfold ar at hx; simp only; grind
  · unfold pt; simp only; grind
theorem pt_y {u v : Pt} {m : Rat} (h : u.y ≤ v.y) (h0 : 0 ≤ m) (h1 : m ≤ 1) : u.y ≤ (pt u v m).y ∧ (pt u v m).y ≤ v.y := by
  have k1 := Rat.mul_nonneg h0 (show 0 ≤ v.y - u.y by grind)
  have k2 := Rat.mul_nonneg (show 0 ≤ 1 - m by grind) (show 0 ≤ v.y - u.y by grind)
  unfold pt; simp only
  constructor <;> grind

/-- Whether an upward edge crosses the ray from p to the right. -/
def crU (p u v : Pt) : Prop := u.y ≤ p.y ∧ p.y < v.y ∧ 0 < ar u v p
instance (p u v : Pt) : Decidable (crU p u v) := inferInstanceAs (Decidable (_ ∧ _))
def chi (a b w : Pt) : Prop := a.y < w.y ∧ w.y ≤ b.y ∧ ar a b w < 0
instance (a b w : Pt) : Decidable (chi a b w) := inferInstanceAs (Decidable (_ ∧ _))

/-- The point of an edge at some height. -/
theorem level {u v : Pt} (h : u.y < v.y) {y : Rat} (h1 : u.y ≤ y) (h2 : y ≤ v.y) : ∃ e : Pt, e.y = y ∧ ar u v e = 0 ∧ ∀ p : Pt, p.y = y → ar u v p = (v.y - u.y) * (e.x - p.x) := by
  have hd : 0 < v.y - u.y := by grind
  have h3 : (v.y - u.y) * (v.y - u.y)⁻¹ = 1 := Rat.mul_inv_cancel _ (fun e => by rw [e] at hd; exact absurd hd Rat.lt_irrefl)
  refine ⟨⟨u.x + (y - u.y) * (v.y - u.y)⁻¹ * (v.x - u.x), y⟩, rfl, ?_, ?_⟩
  · unfold ar; simp only; grind
  · rintro p rfl; unfold ar; simp only; grind

theorem edge_case {a b u v : Pt} (hab : a.y ≤ b.y) (huv : u.y ≤ v.y) (hc : ¬ Common a b u v) : (decide (crU a u v) ^^ decide (crU b u v)) = (decide (chi a b u) ^^ decide (chi a b v)) := by
  have none : ∀ {p : Prop} [Decidable p], ¬ p → decide p = false := fun h => decide_eq_false h
  by_cases h1 : a.y < v.y
  · by_cases h2 : u.y ≤ a.y
    · have huv' : u.y < v.y := by grind
      by_cases h3 : v.y ≤ b.y
      · -- low, mid
        have hab' : a.y < b.y := by grind
        obtain ⟨e, ey, ex, ep⟩ := level huv' h2 (Rat.le_of_lt h1)
        have xa := ep a rfl
        have ye : ar a b e = -((b.y - a.y) * (e.x - a.x)) := by unfold ar; rw [ey]; grind
        have key : 0 < ar u v a ↔ ar a b v < 0 := by
          have main : ∀ m, 0 ≤ m → m ≤ 1 → ar a b e + m * (ar a b v - ar a b e) = 0 → False := by
            intro m m0 m1 hm
            obtain ⟨y1, y2⟩ := pt_y (u := e) (v := v) (m := m) (by grind) m0 m1
            refine hc ⟨pt e v m, onSeg_of hab' (by rw [ar_pt]; exact hm) (by grind) (by grind), onSeg_of huv' ?_ (by grind) y2⟩
            rw [ar_pt, ex, ar_r]; grind
          constructor
          · intro hx
            refine Rat.not_le.1 fun hv => ?_
            rw [xa, mul_pos_iff' (by grind)] at hx
            have hn := Rat.mul_pos (show 0 < b.y - a.y by grind) hx
            obtain ⟨m, m0, m1, hm⟩ := root (f := ar a b e) (g := ar a b v) (.inl ⟨by grind, hv⟩) (by grind)
            exact main m m0 m1 hm
          · intro hv
            refine Rat.not_le.1 fun hx => ?_
            have hw : e.x - a.x ≤ 0 := Rat.not_lt.1 fun hw => by
              have := (mul_pos_iff' (show 0 < v.y - u.y by grind)).2 hw; grind
            have hn := Rat.mul_nonneg (show 0 ≤ b.y - a.y by grind) (show 0 ≤ -(e.x - a.x) by grind)
            obtain ⟨m, m0, m1, hm⟩ := root (f := ar a b e) (g := ar a b v) (.inr ⟨by grind, Rat.le_of_lt hv⟩) (by grind)
            exact main m m0 m1 hm
        rw [none (p := crU b u v) (fun h => by have := h.2.1; grind), none (p := chi a b u) (fun h => by have := h.1; grind)]
        have e1 : decide (crU a u v) = decide (chi a b v) := by
          rw [decide_eq_decide]; exact ⟨fun h => ⟨h1, h3, key.1 h.2.2⟩, fun h => ⟨h2, h1, key.2 h.2.2⟩⟩
        rw [e1]; simp
      · -- low, high
        have h3' : b.y < v.y := Rat.not_le.1 h3
        have key : 0 < ar u v a ↔ 0 < ar u v b := by
          have main : ∀ m, 0 ≤ m → m ≤ 1 → ar u v a + m * (ar u v b - ar u v a) = 0 → False := by
            intro m m0 m1 hm
            obtain ⟨y1, y2⟩ := pt_y (u := a) (v := b) (m := m) hab m0 m1
            exact hc ⟨pt a b m, ⟨m, m0, m1, rfl⟩, onSeg_of huv' (by rw [ar_pt]; exact hm) (by grind) (by grind)⟩
          constructor
          · intro hx
            refine Rat.not_le.1 fun hv => ?_
            obtain ⟨m, m0, m1, hm⟩ := root (f := ar u v a) (g := ar u v b) (.inr ⟨Rat.le_of_lt hx, hv⟩) (by grind)
            exact main m m0 m1 hm
          · intro hx
            refine Rat.not_le.1 fun hv => ?_
            obtain ⟨m, m0, m1, hm⟩ := root (f := ar u v a) (g := ar u v b) (.inl ⟨hv, Rat.le_of_lt hx⟩) (by grind)
            exact main m m0 m1 hm
        rw [none (p := chi a b u) (fun h => by have := h.1; grind), none (p := chi a b v) (fun h => by have := h.2.1; grind)]
        have e1 : decide (crU a u v) = decide (crU b u v) := by
          rw [decide_eq_decide]; exact ⟨fun h => ⟨by grind, h3', key.1 h.2.2⟩, fun h => ⟨h2, h1, key.2 h.2.2⟩⟩
        rw [e1]; simp
    · have h2' : a.y < u.y := Rat.not_le.1 h2
      by_cases h3 : u.y ≤ b.y
      · have hab' : a.y < b.y := by grind
        by_cases h4 : v.y ≤ b.y
        · -- mid, mid
          have key : ar a b u < 0 ↔ ar a b v < 0 := by
            have main : ∀ m, 0 ≤ m → m ≤ 1 → ar a b u + m * (ar a b v - ar a b u) = 0 → False := by
              intro m m0 m1 hm
              obtain ⟨y1, y2⟩ := pt_y (u := u) (v := v) (m := m) huv m0 m1
              exact hc ⟨pt u v m, onSeg_of hab' (by rw [ar_pt]; exact hm) (by grind) (by grind), ⟨m, m0, m1, rfl⟩⟩
            constructor
            · intro hx
              refine Rat.not_le.1 fun hv => ?_
              obtain ⟨m, m0, m1, hm⟩ := root (f := ar a b u) (g := ar a b v) (.inl ⟨Rat.le_of_lt hx, hv⟩) (by grind)
              exact main m m0 m1 hm
            · intro hx
              refine Rat.not_le.1 fun hv => ?_
              obtain ⟨m, m0, m1, hm⟩ := root (f := ar a b u) (g := ar a b v) (.inr ⟨hv, Rat.le_of_lt hx⟩) (by grind)
              exact main m m0 m1 hm
          rw [none (p := crU a u v) (fun h => by have := h.1; grind), none (p := crU b u v) (fun h => by have := h.2.1; grind)]
          have e1 : decide (chi a b u) = decide (chi a b v) := by
            rw [decide_eq_decide]; exact ⟨fun h => ⟨h1, h4, key.1 h.2.2⟩, fun h => ⟨h2', h3, key.2 h.2.2⟩⟩
          rw [e1]; simp
        · -- mid, high
          have h4' : b.y < v.y := Rat.not_le.1 h4
          have huv' : u.y < v.y := by grind
          obtain ⟨e, ey, ex, ep⟩ := level huv' h3 (Rat.le_of_lt h4')
          have xb := ep b rfl
          have ye : ar a b e = -((b.y - a.y) * (e.x - b.x)) := by unfold ar; rw [ey]; grind
          have key : 0 < ar u v b ↔ ar a b u < 0 := by
            have main : ∀ m, 0 ≤ m → m ≤ 1 → ar a b u + m * (ar a b e - ar a b u) = 0 → False := by
              intro m m0 m1 hm
              obtain ⟨y1, y2⟩ := pt_y (u := u) (v := e) (m := m) (by grind) m0 m1
              refine hc ⟨pt u e m, onSeg_of hab' (by rw [ar_pt]; exact hm) (by grind) (by grind), onSeg_of huv' ?_ y1 (by grind)⟩
              rw [ar_pt, ex, ar_l]; grind
            constructor
            · intro hx
              refine Rat.not_le.1 fun hv => ?_
              rw [xb, mul_pos_iff' (by grind)] at hx
              have hn := Rat.mul_pos (show 0 < b.y - a.y by grind) hx
              obtain ⟨m, m0, m1, hm⟩ := root (f := ar a b u) (g := ar a b e) (.inr ⟨hv, by grind⟩) (by grind)
              exact main m m0 m1 hm
            · intro hv
              refine Rat.not_le.1 fun hx => ?_
              have hw : e.x - b.x ≤ 0 := Rat.not_lt.1 fun hw => by
                have := (mul_pos_iff' (show 0 < v.y - u.y by grind)).2 hw; grind
              have hn := Rat.mul_nonneg (show 0 ≤ b.y - a.y by grind) (show 0 ≤ -(e.x - b.x) by grind)
              obtain ⟨m, m0, m1, hm⟩ := root (f := ar a b u) (g := ar a b e) (.inl ⟨Rat.le_of_lt hv, by grind⟩) (by grind)
              exact main m m0 m1 hm
          rw [none (p := crU a u v) (fun h => by have := h.1; grind), none (p := chi a b v) (fun h => by have := h.2.1; grind)]
          have e1 : decide (crU b u v) = decide (chi a b u) := by
            rw [decide_eq_decide]; exact ⟨fun h => ⟨h2', h3, key.1 h.2.2⟩, fun h => ⟨h3, h4', key.2 h.2.2⟩⟩
          rw [e1]; simp
      · -- high, high
        rw [none (p := crU a u v) (fun h => by have := h.1; grind), none (p := crU b u v) (fun h => by have := h.1; grind), none (p := chi a b u) (fun h => by have := h.2.1; grind), none (p := chi a b v) (fun h => by have := h.2.1; grind)]
  · -- low, low
    rw [none (p := crU a u v) (fun h => by have := h.2.1; grind), none (p := crU b u v) (fun h => by have := h.2.1; grind), none (p := chi a b u) (fun h => by have := h.1; grind), none (p := chi a b v) (fun h => by have := h.1; grind)]
end Go.Av
