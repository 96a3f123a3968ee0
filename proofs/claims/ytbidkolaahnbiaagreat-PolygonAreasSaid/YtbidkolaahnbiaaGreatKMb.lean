/- Helping texts: Mb. -/
import Derived.Test.YtbidkolaahnbiaaGreatKDq
set_option linter.unusedSimpArgs false
set_option linter.unusedVariables false
namespace Go.Av
theorem idxP_neg {n : Nat} {p : Nat → Bool} (h : ¬ 0 ≤ idxP n p) : ∀ i, i < n → p i = false := by
  intro i hi
  cases hp : p i with
  | false => rfl
  | true =>
    exfalso; apply h
    have := @idxP_nonneg n p
    rw [show (List.range n).any p = true from List.any_eq_true.2 ⟨i, by simpa using hi, hp⟩] at this
    exact of_decide_eq_true this
theorem Ring.flat {L : List Pt} (h : Ring L) : ∀ i, i < L.length → flatAt L i = false := by
  have := h.ok
  unfold chkC at this
  split at this
  · cases this
  · rename_i h1; exact idxP_neg h1
theorem Ring.cross {L : List Pt} (h : Ring L) : crossB L = false := by
  have := h.ok
  unfold chkC at this
  split at this
  · cases this
  · split at this
    · cases this
    · rename_i h1; simpa using h1
theorem orient_same (a c : Pt) : orient a a c = 0 := by
  unfold orient
  rw [cmpQ_zero]
  unfold Av.cross Pt.sub
  grind
theorem Ring.next_ne {L : List Pt} (h : Ring L) {i : Nat} (hi : i < L.length) : L.getD i default ≠ nx L i := by
  intro e
  have hlo := h.lo
  have hm := Nat.mod_lt (i + 1) (show 0 < L.length by omega)
  have hf := h.flat ((i + 1) % L.length) hm
  unfold flatAt at hf
  have hp : ((i + 1) % L.length + L.length - 1) % L.length = i := by
    rcases Nat.lt_or_ge (i + 1) L.length with hlt | hge
    · rw [Nat.mod_eq_of_lt hlt, show i + 1 + L.length - 1 = i + L.length by omega, Nat.add_mod_right, Nat.mod_eq_of_lt hi]
    · rw [show i + 1 = L.length by omega, Nat.mod_self, Nat.zero_add, Nat.mod_eq_of_lt (by omega)]; omega
  rw [hp] at hf
  unfold nx at e
  rw [← e, orient_same] at hf
  simp at hf
theorem Ring.seg_ok {L : List Pt} (h : Ring L) {i : Nat} (hi : i < L.length) : (segOf L i).ok := fun e => h.next_ne hi (cmpP_zero.1 e)
theorem mem_getD {L : List Pt} {p : Pt} (h : p ∈ L) : ∃ i, i < L.length ∧ L.getD i default = p := by
  obtain ⟨i, hi, rfl⟩ := List.mem_iff_getElem.1 h
  exact ⟨i, hi, by rw [List.getD_eq_getElem?_getD, List.getElem?_eq_getElem hi]; rfl⟩
/-- The rings of a polygon of which no two meet. -/
structure Apart (Ls : List (List Pt)) : Prop where
  ring : ∀ i, i < Ls.length → Ring (Ls.getD i [])
  meet : ∀ i j, j < i → i < Ls.length → meetB (Ls.getD i []) (Ls.getD j []) = false
theorem edgesL_a (L : List Pt) : (edgesL L).map Sg.a = L := by
  refine List.ext_getElem (by simp [edgesL_length]) fun i h1 h2 => ?_
  rw [List.getElem_map]
  unfold edgesL
  rw [List.getElem_map, List.getElem_range]
  show L.getD i default = _
  rw [List.getD_eq_getElem?_getD, List.getElem?_eq_getElem h2]; rfl
theorem edgesL_b (L : List Pt) : ((edgesL L).map Sg.b).Perm L := by
  cases L with
  | nil => simp [edgesL]
  | cons p t =>
    have e : (edgesL (p :: t)).map Sg.b = t ++ [p] := by
      refine List.ext_getElem (by simp [edgesL_length]) fun i h1 h2 => ?_
      rw [List.getElem_map]
      unfold edgesL
      rw [List.getElem_map, List.getElem_range]
      show nx (p :: t) i = _
      unfold nx
      simp only [List.length_append, List.length_cons, List.length_nil] at h2
      rcases Nat.lt_or_ge i t.length with hlt | hge
      · rw [List.length_cons, Nat.mod_eq_of_lt (by omega), List.getD_cons_succ, List.getD_eq_getElem?_getD, List.getElem?_eq_getElem hlt, List.getElem_append_left hlt]; rfl
      · have : i = t.length := by omega
        subst this
        rw [List.length_cons, Nat.mod_self, List.getD_cons_zero, List.getElem_append_right (Nat.le_refl _)]
        simp
    rw [e]
    exact List.perm_append_singleton p t
theorem Fine.apart {O : List Rp} {hs : List (List Rp)} (h : Fine O hs) : Apart (pts O :: hs.map pts) := by
  have hlen : (hs.map pts).length = hs.length := List.length_map ..
  have get : ∀ i, i < hs.length → (hs.map pts).getD i [] = pts (hs.getD i []) := fun i hi => by
    rw [List.getD_eq_getElem?_getD, List.getD_eq_getElem?_getD, List.getElem?_map, List.getElem?_eq_getElem hi]; rfl
  refine ⟨fun i hi => h.rgs.get (by simp only [List.length_cons] at hi; omega), fun i j hj hi => ?_⟩
  simp only [List.length_cons, hlen] at hi
  obtain ⟨i, rfl⟩ : ∃ k, i = k + 1 := ⟨i - 1, by omega⟩
  have hz := h.hz i (by omega)
  unfold chkH at hz
  rw [if_neg (by intro h2; exact h2 (chkH_ring (h.hz i (by omega))))] at hz
  split at hz
  · cases hz
  · rename_i h1
    rw [List.getD_cons_succ, get i (by omega)]
    rcases j with _ | j
    · rw [List.getD_cons_zero]
      cases hm : meetB (pts (hs.getD i [])) (pts O) with
      | false => rfl
      | true => exact absurd (.inl hm) h1
    · rw [List.getD_cons_succ, get j (by omega)]
      cases hm : meetB (pts (hs.getD i [])) (pts (hs.getD j [])) with
      | false => rfl
      | true => exact absurd (.inr (anyTo_true (show j < i by omega) hm)) h1
end Go.Av
