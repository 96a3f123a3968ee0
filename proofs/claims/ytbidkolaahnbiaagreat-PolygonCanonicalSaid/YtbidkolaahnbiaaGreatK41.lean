/- Helping texts: Dz. -/
import Derived.Test.YtbidkolaahnbiaaGreatK39
import Derived.Test.YtbidkolaahnbiaaGreatK40
set_option linter.unusedSimpArgs false
set_option linter.unusedVariables false
namespace Go.Av
open Go.RowKit
open Go.Proofs.Tryz (prog)
/-- What is known of a polygon as it is read. -/
structure Read (O : List Rp) (hs : List (List Rp)) : Prop where
  o : O.length ≤ maxLen ∧ ∀ p ∈ O, p.fit
  n : hs.length ≤ maxLen
  h : ∀ l ∈ hs, l.length ≤ maxLen ∧ ∀ p ∈ l, p.fit
theorem big_le {p : Rp} (h : bigP p = false) : p.le (2 ^ 16) := by
  unfold bigP at h
  simp only [Bool.or_eq_false_iff, decide_eq_false_iff_not] at h
  exact ⟨⟨by omega, by omega⟩, ⟨by omega, by omega⟩⟩
theorem greatL_le {l : List Rp} (h : greatL l = false) : ∀ p ∈ l, p.le (2 ^ 16) := by
  intro p hp
  obtain ⟨i, hi, rfl⟩ := List.mem_iff_getElem.1 hp
  have := anyTo_get h hi
  rw [List.getD_eq_getElem?_getD, List.getElem?_eq_getElem hi] at this
  exact big_le this
theorem greatP_small {O : List Rp} {hs : List (List Rp)} (h : greatP O hs = false) : O.length ≤ 67 ∧ (∀ p ∈ O, p.le (2 ^ 16)) ∧ hs.length ≤ 10 ∧ ∀ l ∈ hs, l.length < 2 ^ 50 ∧ ∀ p ∈ l, p.le (2 ^ 16) := by
  unfold greatP at h
  simp only [Bool.or_eq_false_iff, decide_eq_false_iff_not] at h
  obtain ⟨h1, h2, h3, h4, h5, h6⟩ := h
  refine ⟨by omega, greatL_le h3, by omega, ?_⟩
  intro l hl
  obtain ⟨i, hi, rfl⟩ := List.mem_iff_getElem.1 hl
  have := anyTo_get h4 (show i < min hs.length 11 by omega)
  rw [List.getD_eq_getElem?_getD, List.getElem?_eq_getElem hi] at this
  simp only [Option.getD_some, Bool.or_eq_false_iff, decide_eq_false_iff_not] at this
  exact ⟨by omega, greatL_le this.2⟩

end Go.Av
