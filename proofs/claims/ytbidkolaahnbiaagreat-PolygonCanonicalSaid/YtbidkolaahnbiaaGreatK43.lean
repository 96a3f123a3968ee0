/- Helping texts: Mc, Md. -/
import Derived.Test.YtbidkolaahnbiaaGreatK40
import Derived.Test.YtbidkolaahnbiaaGreatK38
set_option linter.unusedSimpArgs false
set_option linter.unusedVariables false
namespace Go.Av
theorem frac {p q : Rat} (hp : 0 ≤ p) (hq : 0 ≤ q) (h : 0 < p + q) : 0 ≤ p / (p + q) ∧ p / (p + q) ≤ 1 := by
  have hi : 0 < (p + q)⁻¹ := Rat.inv_pos.2 h
  have h1 := Rat.mul_nonneg hp (Rat.le_of_lt hi)
  have h2 := Rat.mul_nonneg hq (Rat.le_of_lt hi)
  have h3 : (p + q) * (p + q)⁻¹ = 1 := Rat.mul_inv_cancel _ (fun e => by rw [e] at h; exact absurd h Rat.lt_irrefl)
  constructor <;> grind
/-- Twice the area of a triangle. -/
def ar (u v p : Pt) : Rat := (v.x - u.x) * (p.y - u.y) - (v.y - u.y) * (p.x - u.x)
/-- The point at m. -/
def pt (u v : Pt) (m : Rat) : Pt := ⟨u.x + m * (v.x - u.x), u.y + m * (v.y - u.y)⟩
theorem ar_l (u v : Pt) : ar u v u = 0 := by unfold ar; grind
theorem ar_r (u v : Pt) : ar u v v = 0 := by unfold ar; grind
def onSeg (u v p : Pt) : Prop := ∃ m, 0 ≤ m ∧ m ≤ 1 ∧ p = pt u v m
def Common (a b u v : Pt) : Prop := ∃ p, onSeg a b p ∧ onSeg u v p
theorem onSeg_of {u v p : Pt} (h : u.y < v.y) (hx : ar u v p = 0) (h1 : u.y ≤ p.y) (h2 : p.y ≤ v.y) : onSeg u v p := by
  have hd : 0 < (p.y - u.y) + (v.y - p.y) := by grind
  obtain ⟨k1, k2⟩ := frac (p := p.y - u.y) (q := v.y - p.y) (by grind) (by grind) hd
  have h3 : ((p.y - u.y) + (v.y - p.y)) * ((p.y - u.y) + (v.y - p.y))⁻¹ = 1 := Rat.mul_inv_cancel _ (fun e => by rw [e] at hd; exact absurd hd Rat.lt_irrefl)
  refine ⟨_, k1, k2, Pt.ext ?_ ?_⟩
  · unfold pt; unfold ar at hx; simp only; grind
  · unfold pt; simp only; grind
theorem pt_y {u v : Pt} {m : Rat} (h : u.y ≤ v.y) (h0 : 0 ≤ m) (h1 : m ≤ 1) : u.y ≤ (pt u v m).y ∧ (pt u v m).y ≤ v.y := by
  have k1 := Rat.mul_nonneg h0 (show 0 ≤ v.y - u.y by grind)
  have k2 := Rat.mul_nonneg (show 0 ≤ 1 - m by grind) (show 0 ≤ v.y - u.y by grind)
  unfold pt; simp only
  constructor <;> grind

/-- Whether an upward edge crosses the ray from p to the right. -/
def crU (p u v : Pt) : Prop := u.y ≤ p.y ∧ p.y < v.y ∧ 0 < ar u v p
instance (p u v : Pt) : Decidable (crU p u v) := inferInstanceAs (Decidable (_ ∧ _))
def chi (a b w : Pt) : Prop := a.y < w.y ∧ w.y ≤ b.y ∧ ar a b w < 0
instance (a b w : Pt) : Decidable (chi a b w) := inferInstanceAs (Decidable (_ ∧ _))

end Go.Av
namespace Go.Av
theorem onSeg_rev {u v p : Pt} (h : onSeg u v p) : onSeg v u p := by
  obtain ⟨m, h0, h1, rfl⟩ := h
  refine ⟨1 - m, by grind, by grind, Pt.ext ?_ ?_⟩ <;> (unfold pt; simp only; grind)
theorem Common.rev1 {a b u v : Pt} (h : Common a b u v) : Common b a u v := by obtain ⟨p, h1, h2⟩ := h; exact ⟨p, onSeg_rev h1, h2⟩
theorem Common.rev2 {a b u v : Pt} (h : Common a b u v) : Common a b v u := by obtain ⟨p, h1, h2⟩ := h; exact ⟨p, h1, onSeg_rev h2⟩

/-- Whether an edge changes the parity at p. -/
def cr (p u v : Pt) : Bool := if u.y ≤ v.y then decide (crU p u v) else decide (crU p v u)
theorem onSegX_of {u v p : Pt} (h : u.x < v.x) (hx : ar u v p = 0) (h1 : u.x ≤ p.x) (h2 : p.x ≤ v.x) : onSeg u v p := by
  have hd : 0 < (p.x - u.x) + (v.x - p.x) := by grind
  obtain ⟨k1, k2⟩ := frac (p := p.x - u.x) (q := v.x - p.x) (by grind) (by grind) hd
  have h3 : ((p.x - u.x) + (v.x - p.x)) * ((p.x - u.x) + (v.x - p.x))⁻¹ = 1 := Rat.mul_inv_cancel _ (fun e => by rw [e] at hd; exact absurd hd Rat.lt_irrefl)
  refine ⟨_, k1, k2, Pt.ext ?_ ?_⟩
  · unfold pt; simp only; grind
  · unfold pt; unfold ar at hx; simp only; grind
theorem onSeg_l (u v : Pt) : onSeg u v u := ⟨0, by grind, by grind, Pt.ext (by unfold pt; simp only; grind) (by unfold pt; simp only; grind)⟩
theorem ar_rev (u v p : Pt) : ar v u p = -ar u v p := by unfold ar; grind
theorem onSeg_lex {a b p : Pt} (hx : ar a b p = 0) (h1 : cmpP a p ≤ 0) (h2 : cmpP p b ≤ 0) : onSeg a b p := by
  rw [cmpP_le] at h1 h2
  rcases h1 with h1 | ⟨h1, h1'⟩ <;> rcases h2 with h2 | ⟨h2, h2'⟩
  · exact onSegX_of (by grind) hx (by grind) (by grind)
  · exact onSegX_of (by grind) hx (by grind) (by grind)
  · exact onSegX_of (by grind) hx (by grind) (by grind)
  · by_cases h : a.y < b.y
    · exact onSeg_of h hx h1' h2'
    · have : p = a := Pt.ext h1.symm (Rat.le_antisymm (by grind) h1')
      rw [this]; exact onSeg_l a b
theorem lex_between {u v p : Pt} (h : onSeg u v p) (hc : cmpP u v ≤ 0) : cmpP u p ≤ 0 ∧ cmpP p v ≤ 0 := by
  obtain ⟨m, h0, h1, rfl⟩ := h
  rw [cmpP_le] at hc ⊢
  rw [cmpP_le]
  rcases hc with hc | ⟨hc, hc'⟩
  · by_cases e0 : m = 0
    · subst e0; refine ⟨.inr ⟨?_, ?_⟩, .inl ?_⟩ <;> (unfold pt; simp only; grind)
    · have hm : 0 < m := (lt_or_eq' h0).resolve_right (fun e => e0 e.symm)
      have k := Rat.mul_pos hm (show 0 < v.x - u.x by grind)
      by_cases e1 : m = 1
      · subst e1; refine ⟨.inl ?_, .inr ⟨?_, ?_⟩⟩ <;> (unfold pt; simp only; grind)
      · have hm1 : m < 1 := (lt_or_eq' h1).resolve_right e1
        have k2 := Rat.mul_pos (show 0 < 1 - m by grind) (show 0 < v.x - u.x by grind)
        refine ⟨.inl ?_, .inl ?_⟩ <;> (unfold pt; simp only; grind)
  · obtain ⟨y1, y2⟩ := pt_y (u := u) (v := v) (m := m) hc' h0 h1
    refine ⟨.inr ⟨?_, y1⟩, .inr ⟨?_, y2⟩⟩ <;> (unfold pt; simp only; grind)
theorem lex_order {s : Sg} {p : Pt} (h : onSeg s.a s.b p) : cmpP s.order.a p ≤ 0 ∧ cmpP p s.order.b ≤ 0 := by
  have h0 := order_le s
  unfold Sg.order at *
  split at h0 <;> rename_i h1
  · rw [if_pos h1]; exact lex_between (onSeg_rev h) h0
  · rw [if_neg h1]; exact lex_between h h0
theorem unit_of {t : Rat} (h0 : 0 ≤ t) (h1 : t ≤ 1) : unit t = true := by
  unfold unit
  rw [decide_eq_true (cmpQ_nonneg.2 h0), decide_eq_true (cmpQ_le.2 h1)]; rfl
theorem at_pt (a b : Pt) (m : Rat) : a.at b m = pt a b m := by
  refine Pt.ext ?_ ?_ <;> (unfold Pt.at Pt.add Pt.smul Pt.sub pt; simp only; grind)
theorem mul_div' {l d : Rat} (h : d ≠ 0) : l * d / d = l := by grind
theorem cmpP_antisymm {p q : Pt} (h1 : cmpP p q ≤ 0) (h2 : cmpP q p ≤ 0) : p = q := by
  rw [cmpP_le] at h1 h2
  rcases h1 with h1 | ⟨h1, h1'⟩ <;> rcases h2 with h2 | ⟨h2, h2'⟩
  · exact absurd (lt_trans' h1 h2) Rat.lt_irrefl
  · rw [h2] at h1; exact absurd h1 Rat.lt_irrefl
  · rw [h1] at h2; exact absurd h2 Rat.lt_irrefl
  · exact Pt.ext h1 (Rat.le_antisymm h1' h2')

/-- A common point is among what Meet answers. -/
theorem meet_of {s t : Sg} (hs : s.ok) (ht : t.ok) {P : Pt} (h1 : onSeg s.a s.b P) (h2 : onSeg t.a t.b P) : ∃ m, meetM s t = some m ∧ (m.a = m.b → P = m.a) := by
  obtain ⟨l, l0, l1, e1⟩ := id h1
  obtain ⟨k, k0, k1, e2⟩ := id h2
  have ex : s.a.x + l * (s.b.x - s.a.x) = t.a.x + k * (t.b.x - t.a.x) := congrArg Pt.x (e1.symm.trans e2)
  have ey : s.a.y + l * (s.b.y - s.a.y) = t.a.y + k * (t.b.y - t.a.y) := congrArg Pt.y (e1.symm.trans e2)
  rw [meetM, if_pos ⟨hs, ht⟩]
  unfold meetS
  by_cases hd : cross s.dir t.dir = 0
  · rw [if_neg (fun h => h hd)]
    have hw : cross s.dir (t.a.sub s.a) = 0 := by
      revert hd; simp only [Sg.dir, cross, Pt.sub]; intro hd; grind
    rw [if_neg (fun h => h hw)]
    obtain ⟨o1, o2⟩ := lex_order h1
    obtain ⟨o3, o4⟩ := lex_order h2
    have g1 : cmpP (greater s.order.a t.order.a) P ≤ 0 := by unfold greater; split <;> assumption
    have g2 : cmpP P (lesser s.order.b t.order.b) ≤ 0 := by unfold lesser; split <;> assumption
    have g3 := cmpP_le_trans g1 g2
    rw [if_neg (by omega)]
    refine ⟨_, rfl, fun e => ?_⟩
    simp only at e ⊢
    rw [← e] at g2
    exact cmpP_antisymm g2 g1
  · rw [if_pos hd]
    have q1 : cross (t.a.sub s.a) t.dir = l * cross s.dir t.dir := by simp only [Sg.dir, cross, Pt.sub]; grind
    have q2 : cross (t.a.sub s.a) s.dir = k * cross s.dir t.dir := by simp only [Sg.dir, cross, Pt.sub]; grind
    rw [q1, q2, mul_div' hd, mul_div' hd, unit_of l0 l1, unit_of k0 k1, if_pos (show (true && true) = true from rfl)]
    exact ⟨_, rfl, fun _ => by simp only; rw [at_pt]; exact e1⟩

def Sg.rev (s : Sg) : Sg := ⟨s.b, s.a⟩
end Go.Av
