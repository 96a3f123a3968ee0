/- Helping texts: Mb, Dz. -/
import Derived.Test.YtbidkolaahnbiaaGreatKDl
import Derived.Test.YtbidkolaahnbiaaGreatKDs
set_option linter.unusedSimpArgs false
set_option linter.unusedVariables false
set_option maxRecDepth 100000
set_option maxHeartbeats 16000000
namespace Go.Av
theorem idxP_neg {n : Nat} {p : Nat → Bool} (h : ¬ 0 ≤ idxP n p) : ∀ i, i < n → p i = false := by
 intro i hi
 cases hp : p i with
 | false => rfl
 | true =>
  exfalso; apply h
  have := @idxP_nonneg n p
  rw [show (List.range n).any p = true from List.any_eq_true.2 ⟨i, by simpa using hi, hp⟩] at this
  exact of_decide_eq_true this
theorem Ring.flat {L : List Pt} (h : Ring L) : ∀ i, i < L.length → flatAt L i = false := by
 have := h.ok
 unfold chkC at this
 split at this
 ·cases this
 ·rename_i h1; exact idxP_neg h1
theorem Ring.cross {L : List Pt} (h : Ring L) : crossB L = false := by
 have := h.ok
 unfold chkC at this
 split at this
 ·cases this
 ·split at this
  ·cases this
  ·rename_i h1; simpa using h1
theorem orient_same (a c : Pt) : orient a a c = 0 := by
 unfold orient
 rw [cmpQ_zero]
 unfold Av.cross Pt.sub
 grind
theorem flat_next_ne {L : List Pt} (hlo : 3 ≤ L.length) (hfl : ∀ i, i < L.length → flatAt L i = false) {i : Nat} (hi : i < L.length) : L.getD i default ≠ nx L i := by
 intro e
 have hm := Nat.mod_lt (i + 1) (show 0 < L.length by omega)
 have hf := hfl ((i + 1) % L.length) hm
 unfold flatAt at hf
 have hp : ((i + 1) % L.length + L.length - 1) % L.length = i := by
  rcases Nat.lt_or_ge (i + 1) L.length with hlt | hge
  ·rw [Nat.mod_eq_of_lt hlt, show i + 1 + L.length - 1 = i + L.length by omega, Nat.add_mod_right, Nat.mod_eq_of_lt hi]
  ·rw [show i + 1 = L.length by omega, Nat.mod_self, Nat.zero_add, Nat.mod_eq_of_lt (by omega)]; omega
 rw [hp] at hf
 unfold nx at e
 rw [← e, orient_same] at hf
 simp at hf
theorem Ring.next_ne {L : List Pt} (h : Ring L) {i : Nat} (hi : i < L.length) : L.getD i default ≠ nx L i := flat_next_ne h.lo h.flat hi
theorem Ring.seg_ok {L : List Pt} (h : Ring L) {i : Nat} (hi : i < L.length) : (segOf L i).ok := fun e => h.next_ne hi (cmpP_zero.1 e)
theorem mem_getD {L : List Pt} {p : Pt} (h : p ∈ L) : ∃ i, i < L.length ∧ L.getD i default = p := by
 obtain ⟨i, hi, rfl⟩ := List.mem_iff_getElem.1 h
 exact ⟨i, hi, by rw [List.getD_eq_getElem?_getD, List.getElem?_eq_getElem hi]; rfl⟩
theorem edgesL_a (L : List Pt) : (edgesL L).map Sg.a = L := by
 refine List.ext_getElem (by simp [edgesL_length]) fun i h1 h2 => ?_
 rw [List.getElem_map]
 unfold edgesL
 rw [List.getElem_map, List.getElem_range]
 show L.getD i default = _
 rw [List.getD_eq_getElem?_getD, List.getElem?_eq_getElem h2]; rfl
theorem edgesL_b (L : List Pt) : ((edgesL L).map Sg.b).Perm L := by
 cases L with
 | nil => simp [edgesL]
 | cons p t =>
  have e : (edgesL (p :: t)).map Sg.b = t ++ [p] := by
   refine List.ext_getElem (by simp [edgesL_length]) fun i h1 h2 => ?_
   rw [List.getElem_map]
   unfold edgesL
   rw [List.getElem_map, List.getElem_range]
   show nx (p :: t) i = _
   unfold nx
   simp only [List.length_append, List.length_cons, List.length_nil] at h2
   rcases Nat.lt_or_ge i t.length with hlt | hge
   ·rw [List.length_cons, Nat.mod_eq_of_lt (by omega), List.getD_cons_succ, List.getD_eq_getElem?_getD, List.getElem?_eq_getElem hlt, List.getElem_append_left hlt]; rfl
   ·have : i = t.length := by omega
    subst this
    rw [List.length_cons, Nat.mod_self, List.getD_cons_zero, List.getElem_append_right (Nat.le_refl _)]
    simp
  rw [e]
  exact List.perm_append_singleton p t
end Go.Av
namespace Go.Av
open Go.RowKit
open Go.Proofs.Tryz (prog)
structure Read (O : List Rp) (hs : List (List Rp)) : Prop where
 o : O.length ≤ maxLen ∧ ∀ p ∈ O, p.fit
 n : hs.length ≤ maxLen
 h : ∀ l ∈ hs, l.length ≤ maxLen ∧ ∀ p ∈ l, p.fit
theorem big_le {p : Rp} (h : bigP p = false) : p.le (2 ^ 16) := by
 unfold bigP at h
 simp only [Bool.or_eq_false_iff, decide_eq_false_iff_not] at h
 exact ⟨⟨by omega, by omega⟩, ⟨by omega, by omega⟩⟩
theorem greatL_le {l : List Rp} (h : greatL l = false) : ∀ p ∈ l, p.le (2 ^ 16) := by
 intro p hp
 obtain ⟨i, hi, rfl⟩ := List.mem_iff_getElem.1 hp
 have := anyTo_get h hi
 rw [List.getD_eq_getElem?_getD, List.getElem?_eq_getElem hi] at this
 exact big_le this
theorem greatP_small {O : List Rp} {hs : List (List Rp)} (h : greatP O hs = false) : O.length ≤ 67 ∧ (∀ p ∈ O, p.le (2 ^ 16)) ∧ hs.length ≤ 10 ∧ ∀ l ∈ hs, l.length < 2 ^ 50 ∧ ∀ p ∈ l, p.le (2 ^ 16) := by
 unfold greatP at h
 simp only [Bool.or_eq_false_iff, decide_eq_false_iff_not] at h
 obtain ⟨h1, h2, h3, h4, h5, h6⟩ := h
 refine ⟨by omega, greatL_le h3, by omega, ?_⟩
 intro l hl
 obtain ⟨i, hi, rfl⟩ := List.mem_iff_getElem.1 hl
 have := anyTo_get h4 (show i < min hs.length 11 by omega)
 rw [List.getD_eq_getElem?_getD, List.getElem?_eq_getElem hi] at this
 simp only [Option.getD_some, Bool.or_eq_false_iff, decide_eq_false_iff_not] at this
 exact ⟨by omega, greatL_le this.2⟩
end Go.Av
