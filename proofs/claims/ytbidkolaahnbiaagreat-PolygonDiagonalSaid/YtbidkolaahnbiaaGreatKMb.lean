/- Helping texts: Mb, Dz. -/
import Derived.Test.YtbidkolaahnbiaaGreatKDl
import Derived.Test.YtbidkolaahnbiaaGreatKDs
set_option linter.unusedSimpArgs false
set_option linter.unusedVariables false
set_option maxRecDepth 100000
set_option maxHeartbeats 16000000
namespace Go.Av
theorem idxP_neg {n : Nat} {p : Nat → Bool} (h : ¬ 0 ≤ idxP n p) : ∀ i, i < n → p i = false := by
 intro i hi
 cases hp : p i with
 | false => rfl
 | true =>
  exfalso; apply h
  have := @idxP_nonneg n p
  rw [show (List.range n).any p = true from List.any_eq_true.2 ⟨i, by simpa using hi, hp⟩] at this
  exact of_decide_eq_true this
theorem Ring.flat {L : List Pt} (h : Ring L) : ∀ i, i < L.length → flatAt L i = false := by
 have := h.ok
 unfold chkC at this
 split at this
 ·cases this
 ·rename_i h1; exact idxP_neg h1
theorem Ring.cross {L : List Pt} (h : Ring L) : crossB L = false := by
 have := h.ok
 unfold chkC at this
 split at this
 ·cases this
 ·split at this
  ·cases this
  ·rename_i h1; simpa using h1
theorem orient_same (a c : Pt) : orient a a c = 0 := by
 unfold orient
 rw [cmpQ_zero]
 unfold Av.cross Pt.sub
 grind
theorem flat_next_ne {L : List Pt} (hlo : 3 ≤ L.length) (hfl : ∀ i, i < L.length → flatAt L i = false) {i : Nat} (hi : i < L.length) : L.getD i default ≠ nx L i := by
 intro e
 have hm := Nat.mod_lt (i + 1) (show 0 < L.length by omega)
 have hf := hfl ((i + 1) % L.length) hm
 unfold flatAt at hf
 have hp : ((i + 1) % L.length + L.length - 1) % L.length = i := by
  rcases Nat.lt_or_ge (i + 1) L.length with hlt | hge
  ·rw [Nat.mod_eq_of_lt hlt, show i + 1 + L.length - 1 = i + L.length by omega, Nat.add_mod_right, Nat.mod_eq_of_lt hi]
  ·rw [show i + 1 = L.length by omega, Nat.mod_self, Nat.zero_add, Nat.mod_eq_of_lt (by omega)]; omega
 rw [hp] at hf
 unfold nx at e
 rw [← e, orient_same] at hf
 simp at hf
theorem Ring.next_ne {L : List Pt} (h : Ring L) {i : Nat} (hi : i < L.length) : L.getD i default ≠ nx L i := flat_next_ne h.lo h.flat hi
theorem Ring.seg_ok {L : List Pt} (h : Ring L) {i : Nat} (hi : i < L.length) : (segOf L i).ok := fun e => h.next_ne hi (cmpP_zero.1 e)
theorem Ring.distinct {L : List Pt} (h : Ring L) {i k : Nat} (hik : i < k) (hk : k < L.length) : L.getD i default ≠ L.getD k default := by
 intro e
 have hlo := h.lo
 by_cases h1 : k = i + 1
 ·subst h1
  have := h.next_ne (show i < L.length by omega)
  unfold nx at this
  rw [Nat.mod_eq_of_lt hk] at this
  exact this e
 ·by_cases h2 : i = 0 ∧ k = L.length - 1
  ·obtain ⟨rfl, h2⟩ := h2
   have := h.next_ne hk
   unfold nx at this
   rw [show k + 1 = L.length by omega, Nat.mod_self] at this
   exact this e.symm
  ·have hc := crossB_get h.cross (show i < L.length by omega) hk
   unfold crossAt at hc
   rw [decide_eq_true (show i + 2 ≤ k by omega), ← Bool.decide_and, decide_eq_false h2] at hc
   have hm := meet_common (P := L.getD i default) (h.seg_ok (show i < L.length by omega)) (h.seg_ok hk) (.inl rfl) (.inl e)
   rw [hm] at hc
   simp at hc
theorem meetB_disjoint {A B : List Pt} (hA : Ring A) (hB : Ring B) (h : meetB A B = false) {i k : Nat} (hi : i < A.length) (hk : k < B.length) : A.getD i default ≠ B.getD k default := by
 intro e
 have hm := meet_common (P := A.getD i default) (hA.seg_ok hi) (hB.seg_ok hk) (.inl rfl) (.inl e)
 rw [meetB_true hi hk hm] at h
 cases h
theorem mem_getD {L : List Pt} {p : Pt} (h : p ∈ L) : ∃ i, i < L.length ∧ L.getD i default = p := by
 obtain ⟨i, hi, rfl⟩ := List.mem_iff_getElem.1 h
 exact ⟨i, hi, by rw [List.getD_eq_getElem?_getD, List.getElem?_eq_getElem hi]; rfl⟩
theorem Ring.nodup {L : List Pt} (h : Ring L) : L.Nodup := by
 rw [List.nodup_iff_pairwise_ne, List.pairwise_iff_getElem]
 intro i j hi hj hij
 have := h.distinct hij hj
 rwa [List.getD_eq_getElem?_getD, List.getD_eq_getElem?_getD, List.getElem?_eq_getElem hi, List.getElem?_eq_getElem hj] at this
structure Apart (Ls : List (List Pt)) : Prop where
 ring : ∀ i, i < Ls.length → Ring (Ls.getD i [])
 meet : ∀ i j, j < i → i < Ls.length → meetB (Ls.getD i []) (Ls.getD j []) = false
theorem cornersTo_mem {Ls : List (List Pt)} {p : Pt} : ∀ {i}, p ∈ cornersTo Ls i → ∃ j, j < i ∧ p ∈ Ls.getD j []
 | 0, h => by simp [cornersTo] at h
 | i + 1, h => by
  rw [cornersTo, List.mem_append] at h
  rcases h with h | h
  ·obtain ⟨j, hj, hp⟩ := cornersTo_mem h; exact ⟨j, by omega, hp⟩
  ·exact ⟨i, by omega, h⟩
theorem Apart.nodup {Ls : List (List Pt)} (h : Apart Ls) : ∀ i, i ≤ Ls.length → (cornersTo Ls i).Nodup
 | 0, _ => by simp [cornersTo]
 | i + 1, hi => by
  rw [cornersTo, List.nodup_append]
  refine ⟨h.nodup i (by omega), (h.ring i hi).nodup, ?_⟩
  intro a ha b hb e
  subst e
  obtain ⟨j, hj, ha⟩ := cornersTo_mem ha
  obtain ⟨x, hx, ex⟩ := mem_getD ha
  obtain ⟨y, hy, ey⟩ := mem_getD hb
  exact meetB_disjoint (h.ring i hi) (h.ring j (by omega)) (h.meet i j hj hi) hy hx (ey.trans ex.symm)
theorem edgesL_a (L : List Pt) : (edgesL L).map Sg.a = L := by
 refine List.ext_getElem (by simp [edgesL_length]) fun i h1 h2 => ?_
 rw [List.getElem_map]
 unfold edgesL
 rw [List.getElem_map, List.getElem_range]
 show L.getD i default = _
 rw [List.getD_eq_getElem?_getD, List.getElem?_eq_getElem h2]; rfl
theorem edgesL_b (L : List Pt) : ((edgesL L).map Sg.b).Perm L := by
 cases L with
 | nil => simp [edgesL]
 | cons p t =>
  have e : (edgesL (p :: t)).map Sg.b = t ++ [p] := by
   refine List.ext_getElem (by simp [edgesL_length]) fun i h1 h2 => ?_
   rw [List.getElem_map]
   unfold edgesL
   rw [List.getElem_map, List.getElem_range]
   show nx (p :: t) i = _
   unfold nx
   simp only [List.length_append, List.length_cons, List.length_nil] at h2
   rcases Nat.lt_or_ge i t.length with hlt | hge
   ·rw [List.length_cons, Nat.mod_eq_of_lt (by omega), List.getD_cons_succ, List.getD_eq_getElem?_getD, List.getElem?_eq_getElem hlt, List.getElem_append_left hlt]; rfl
   ·have : i = t.length := by omega
    subst this
    rw [List.length_cons, Nat.mod_self, List.getD_cons_zero, List.getElem_append_right (Nat.le_refl _)]
    simp
  rw [e]
  exact List.perm_append_singleton p t
theorem edgesTo_a (Ls : List (List Pt)) : ∀ i, (edgesTo Ls i).map Sg.a = cornersTo Ls i
 | 0 => rfl
 | i + 1 => by rw [edgesTo, cornersTo, List.map_append, edgesTo_a Ls i, edgesL_a]
theorem edgesTo_b (Ls : List (List Pt)) : ∀ i, ((edgesTo Ls i).map Sg.b).Perm (cornersTo Ls i)
 | 0 => .nil
 | i + 1 => by rw [edgesTo, cornersTo, List.map_append]; exact (edgesTo_b Ls i).append (edgesL_b _)
def cntTo (f : Nat → Bool) (k : Nat) : Nat := (List.range k).countP f
theorem cntTo_succ (f : Nat → Bool) (k : Nat) : cntTo f (k + 1) = cntTo f k + if f k = true then 1 else 0 := by
 unfold cntTo; rw [List.range_succ, List.countP_append, List.countP_singleton]
theorem cntTo_le (f : Nat → Bool) (k : Nat) : cntTo f k ≤ k := by
 unfold cntTo; exact Nat.le_trans List.countP_le_length (by simp)
theorem count_one {C : List Pt} (h : C.Nodup) {c : Pt} (hc : c ∈ C) : C.countP (fun p => decide (p = c)) = 1 := by
 induction C with
 | nil => cases hc
 | cons p C ih =>
  rw [List.nodup_cons] at h
  rw [List.countP_cons]
  by_cases e : p = c
  ·subst e
   rw [List.countP_eq_zero.2 (fun a ha => by simp; rintro rfl; exact h.1 ha)]
   simp
  ·rcases List.mem_cons.1 hc with h1 | h1
   ·exact absurd h1.symm e
   ·rw [ih h.2 h1]; simp [e]
theorem Fine.apart {O : List Rp} {hs : List (List Rp)} (h : Fine O hs) : Apart (pts O :: hs.map pts) := by
 have hlen : (hs.map pts).length = hs.length := List.length_map ..
 have get : ∀ i, i < hs.length → (hs.map pts).getD i [] = pts (hs.getD i []) := fun i hi => by
  rw [List.getD_eq_getElem?_getD, List.getD_eq_getElem?_getD, List.getElem?_map, List.getElem?_eq_getElem hi]; rfl
 refine ⟨fun i hi => h.rgs.get (by simp only [List.length_cons] at hi; omega), fun i j hj hi => ?_⟩
 simp only [List.length_cons, hlen] at hi
 obtain ⟨i, rfl⟩ : ∃ k, i = k + 1 := ⟨i - 1, by omega⟩
 have hz := h.hz i (by omega)
 unfold chkH at hz
 rw [if_neg (by intro h2; exact h2 (chkH_ring (h.hz i (by omega))))] at hz
 split at hz
 ·cases hz
 ·rename_i h1
  rw [List.getD_cons_succ, get i (by omega)]
  rcases j with _ | j
  ·rw [List.getD_cons_zero]
   cases hm : meetB (pts (hs.getD i [])) (pts O) with
   | false => rfl
   | true => exact absurd (.inl hm) h1
  ·rw [List.getD_cons_succ, get j (by omega)]
   cases hm : meetB (pts (hs.getD i [])) (pts (hs.getD j [])) with
   | false => rfl
   | true => exact absurd (.inr (anyTo_true (show j < i by omega) hm)) h1
end Go.Av
namespace Go.Av
open Go.RowKit
open Go.Proofs.Tryz (prog)
structure Read (O : List Rp) (hs : List (List Rp)) : Prop where
 o : O.length ≤ maxLen ∧ ∀ p ∈ O, p.fit
 n : hs.length ≤ maxLen
 h : ∀ l ∈ hs, l.length ≤ maxLen ∧ ∀ p ∈ l, p.fit
theorem big_le {p : Rp} (h : bigP p = false) : p.le (2 ^ 16) := by
 unfold bigP at h
 simp only [Bool.or_eq_false_iff, decide_eq_false_iff_not] at h
 exact ⟨⟨by omega, by omega⟩, ⟨by omega, by omega⟩⟩
theorem greatL_le {l : List Rp} (h : greatL l = false) : ∀ p ∈ l, p.le (2 ^ 16) := by
 intro p hp
 obtain ⟨i, hi, rfl⟩ := List.mem_iff_getElem.1 hp
 have := anyTo_get h hi
 rw [List.getD_eq_getElem?_getD, List.getElem?_eq_getElem hi] at this
 exact big_le this
theorem greatP_small {O : List Rp} {hs : List (List Rp)} (h : greatP O hs = false) : O.length ≤ 67 ∧ (∀ p ∈ O, p.le (2 ^ 16)) ∧ hs.length ≤ 10 ∧ ∀ l ∈ hs, l.length < 2 ^ 50 ∧ ∀ p ∈ l, p.le (2 ^ 16) := by
 unfold greatP at h
 simp only [Bool.or_eq_false_iff, decide_eq_false_iff_not] at h
 obtain ⟨h1, h2, h3, h4, h5, h6⟩ := h
 refine ⟨by omega, greatL_le h3, by omega, ?_⟩
 intro l hl
 obtain ⟨i, hi, rfl⟩ := List.mem_iff_getElem.1 hl
 have := anyTo_get h4 (show i < min hs.length 11 by omega)
 rw [List.getD_eq_getElem?_getD, List.getElem?_eq_getElem hi] at this
 simp only [Option.getD_some, Bool.or_eq_false_iff, decide_eq_false_iff_not] at this
 exact ⟨by omega, greatL_le this.2⟩
end Go.Av
