/- Helping texts: Mb. -/
import Derived.Test.YtbidkolaahnbiaaGreatK35
set_option linter.unusedSimpArgs false
set_option linter.unusedVariables false
namespace Go.Av
theorem idxP_neg {n : Nat} {p : Nat → Bool} (h : ¬ 0 ≤ idxP n p) : ∀ i, i < n → p i = false := by
  intro i hi
  cases hp : p i with
  | false => rfl
  | true =>
    exfalso; apply h
    have := @idxP_nonneg n p
    rw [show (List.range n).any p = true from List.any_eq_true.2 ⟨i, by simpa using hi, hp⟩] at this
    exact of_decide_eq_true this
theorem Ring.flat {L : List Pt} (h : Ring L) : ∀ i, i < L.length → flatAt L i = false := by
  have := h.ok
  unfold chkC at this
  split at this
  · cases this
  · rename_i h1; exact idxP_neg h1
theorem Ring.cross {L : List Pt} (h : Ring L) : crossB L = false := by
  have := h.ok
  unfold chkC at this
  split at this
  · cases this
  · split at this
    · cases this
    · rename_i h1; simpa using h1
theorem orient_same (a c : Pt) : orient a a c = 0 := by
  unfold orient
  rw [cmpQ_zero]
  unfold Av.cross Pt.sub
  grind
theorem Ring.next_ne {L : List Pt} (h : Ring L) {i : Nat} (hi : i < L.length) : L.getD i default ≠ nx L i := by
  intro e
  have hlo := h.lo
  have hm := Nat.mod_lt (i + 1) (show 0 < L.length by omega)
  have hf := h.flat ((i + 1) % L.length) hm
  unfold flatAt at hf
  have hp : ((i + 1) % L.length + L.length - 1) % L.length = i := by
    rcases Nat.lt_or_ge (i + 1) L.length with hlt | hge
    · rw [Nat.mod_eq_of_lt hlt, show i + 1 + L.length - 1 = i + L.length by omega, Nat.add_mod_right, Nat.mod_eq_of_lt hi]
    · rw [show i + 1 = L.length by omega, Nat.mod_self, Nat.zero_add, Nat.mod_eq_of_lt (by omega)]; omega
  rw [hp] at hf
  unfold nx at e
  rw [← e, orient_same] at hf
  simp at hf
theorem Ring.seg_ok {L : List Pt} (h : Ring L) {i : Nat} (hi : i < L.length) : (segOf L i).ok := fun e => h.next_ne hi (cmpP_zero.1 e)
theorem Ring.distinct {L : List Pt} (h : Ring L) {i k : Nat} (hik : i < k) (hk : k < L.length) : L.getD i default ≠ L.getD k default := by
  intro e
  have hlo := h.lo
  by_cases h1 : k = i + 1
  · subst h1
    have := h.next_ne (show i < L.length by omega)
    unfold nx at this
    rw [Nat.mod_eq_of_lt hk] at this
    exact this e
  · by_cases h2 : i = 0 ∧ k = L.length - 1
    · obtain ⟨rfl, h2⟩ := h2
      have := h.next_ne hk
      unfold nx at this
      rw [show k + 1 = L.length by omega, Nat.mod_self] at this
      exact this e.symm
    · have hc := crossB_get h.cross (show i < L.length by omega) hk
      unfold crossAt at hc
      rw [decide_eq_true (show i + 2 ≤ k by omega), ← Bool.decide_and, decide_eq_false h2] at hc
      have hm := meet_common (P := L.getD i default) (h.seg_ok (show i < L.length by omega)) (h.seg_ok hk) (.inl rfl) (.inl e)
      rw [hm] at hc
      simp at hc
end Go.Av
