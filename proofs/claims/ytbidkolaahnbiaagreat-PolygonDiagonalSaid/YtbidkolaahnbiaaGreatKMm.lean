/- Helping texts: Mm. -/
import Derived.Test.YtbidkolaahnbiaaGreatKMk
import Derived.Test.YtbidkolaahnbiaaGreatKMf
set_option linter.unusedSimpArgs false
set_option linter.unusedVariables false
set_option maxRecDepth 100000
set_option maxHeartbeats 16000000
namespace Go.Av
open Go.RowKit
open Go.Proofs.Tryz (prog)
theorem Good.apart {L : List Pt} (h : Good L) : (edgesL L).Pairwise fun e f => ∀ q, onSeg e.a e.b q → onSeg f.a f.b q → q = e.a ∨ q = e.b := by
 unfold edgesL
 rw [List.pairwise_map]
 refine (List.Pairwise.and_mem.1 (List.pairwise_lt_range)).imp ?_
 rintro i k ⟨hi, hk, hik⟩
 have hi := List.mem_range.1 hi
 have hk := List.mem_range.1 hk
 rw [segOf_sc hi, segOf_sc hk]
 try simp only
 intro q q1 q2
 have hlo := h.lo
 by_cases h1 : sc L.length i = k
 ·subst h1
  have fl := h.fl i hi
  obtain ⟨m, _, _, rfl⟩ := q1
  obtain ⟨t, _, _, e⟩ := q2
  have e1 : ar (L.getD i default) (L.getD (sc L.length i) default) (pt (L.getD i default) (L.getD (sc L.length i) default) m) = 0 := by unfold ar pt; simp only; grind
  rw [e, pt_ar_l] at e1
  rcases Rat.mul_eq_zero.1 e1 with e2 | e2
  ·right; rw [e, e2]; refine Pt.ext ?_ ?_ <;> (unfold pt; simp only; grind)
  ·exact absurd e2 fl
 ·by_cases h2 : sc L.length k = i
  ·subst h2
   have fl := h.fl k hk
   obtain ⟨m, _, _, rfl⟩ := q1
   obtain ⟨t, _, _, e⟩ := q2
   have e1 : ar (L.getD k default) (L.getD (sc L.length k) default) (pt (L.getD k default) (L.getD (sc L.length k) default) t) = 0 := by unfold ar pt; simp only; grind
   rw [← e, pt_ar_l] at e1
   rcases Rat.mul_eq_zero.1 e1 with e2 | e2
   ·left; rw [e2]; refine Pt.ext ?_ ?_ <;> (unfold pt; simp only; grind)
   ·exact absurd e2 fl
  ·exact absurd ⟨q, q1, q2⟩ (h.cr i k hi hk (by omega) h1 h2)
theorem edges_closed (L : List Pt) : ((edgesL L).map Sg.b).Perm ((edgesL L).map Sg.a) := by rw [edgesL_a]; exact edgesL_b L
theorem up_rev {s : Sg} (h : s.a.y ≠ s.b.y) : s.rev.up = !s.up := by
 unfold Sg.up Sg.rev
 try simp only
 rcases lt_tri s.a.y s.b.y with k | k | k
 ·rw [decide_eq_true k, decide_eq_false (by grind)]; rfl
 ·exact absurd k h
 ·rw [decide_eq_true k, decide_eq_false (by grind)]; rfl
theorem pt_rev (a b : Pt) (m : Rat) : pt b a m = pt a b (1 - m) := by refine Pt.ext ?_ ?_ <;> (unfold pt; simp only; grind)
theorem apart_rev {E : List Sg} (h : E.Pairwise fun e f => ∀ q, onSeg e.a e.b q → onSeg f.a f.b q → q = e.a ∨ q = e.b) : (E.map Sg.rev).Pairwise fun e f => ∀ q, onSeg e.a e.b q → onSeg f.a f.b q → q = e.a ∨ q = e.b := by
 rw [List.pairwise_map]
 exact h.imp fun {e f} hq q q1 q2 => (hq q (onSeg_rev q1) (onSeg_rev q2)).symm
theorem steep_rev {E : List Sg} (h : Steep E) : Steep (E.map Sg.rev) := by
 intro s hs
 obtain ⟨s0, h0, rfl⟩ := List.mem_map.1 hs
 exact fun e => h s0 h0 e.symm
theorem map_rev_a (E : List Sg) : (E.map Sg.rev).map Sg.a = E.map Sg.b := by rw [List.map_map]; rfl
theorem map_rev_b (E : List Sg) : (E.map Sg.rev).map Sg.b = E.map Sg.a := by rw [List.map_map]; rfl
theorem side_area {L : List Pt} (h : Good L) (hz : Steep (edgesL L)) : areaL L ≠ 0 ∧ (0 < areaL L → ∀ s ∈ edgesL L, ∀ m : Rat, 0 < m → m < 1 → oddTo L (pt s.a s.b m) L.length = (true ^^ s.up)) := by
 obtain ⟨c, hc⟩ := side_all h hz
 have hlo := h.lo
 have hne : edgesL L ≠ [] := by
  intro e
  have : (edgesL L).length = L.length := by simp [edgesL]
  rw [e] at this; simp at this; omega
 cases c with
 | true =>
  have l : Lefts (edgesL L) := ⟨hz, edges_closed L, h.apart, fun e he m m0 m1 => by rw [← odd_xsum]; exact hc e he m m0 m1⟩
  have p := l.pos hne
  refine ⟨?_, fun _ s hs m m0 m1 => hc s hs m m0 m1⟩
  rw [area_esum]; grind
 | false =>
  have l : Lefts ((edgesL L).map Sg.rev) := by
   refine ⟨steep_rev hz, ?_, apart_rev h.apart, fun e he m m0 m1 => ?_⟩
   ·rw [map_rev_a, map_rev_b]; exact (edges_closed L).symm
   ·obtain ⟨e0, h0, rfl⟩ := List.mem_map.1 he
    rw [up_rev (hz e0 h0), xsum_map]
    have := hc e0 h0 (1 - m) (by grind) (by grind)
    rw [odd_xsum] at this
    rw [show pt e0.rev.a e0.rev.b m = pt e0.a e0.b (1 - m) from pt_rev ..]
    rw [xsum_congr (f := fun s => cr (pt e0.a e0.b (1 - m)) s.rev.a s.rev.b) (g := fun s => cr (pt e0.a e0.b (1 - m)) s.a s.b) fun s _ => cr_symm .., this]
    unfold Sg.up
    cases decide (e0.a.y < e0.b.y) <;> rfl
  have p := l.pos (by intro e; exact hne (List.map_eq_nil_iff.1 e))
  rw [esum_neg] at p
  rw [area_esum]
  constructor
  ·grind
  ·intro k; grind
def shy (k : Rat) : Aff := ⟨1, 0, k, 1, 0, 0⟩
theorem shy_det (k : Rat) : (shy k).det = 1 := by unfold Aff.det shy; simp only; grind
theorem shy_ne (k : Rat) : (shy k).det ≠ 0 := by rw [shy_det]; decide +kernel
theorem steep_shear (E : List Sg) (hne : ∀ s ∈ E, s.a ≠ s.b) : ∃ k : Rat, Steep (E.map fun s => s.map (shy k).ap) := by
 obtain ⟨k, hk⟩ := bound_high (E.map fun s => -(s.a.y - s.b.y) / (s.a.x - s.b.x))
 refine ⟨k, fun s hs => ?_⟩
 obtain ⟨s0, h0, rfl⟩ := List.mem_map.1 hs
 have h1 := hk _ (List.mem_map.2 ⟨s0, h0, rfl⟩)
 have h2 := hne s0 h0
 unfold Sg.map Aff.ap shy
 try simp only
 intro e
 by_cases hx : s0.a.x = s0.b.x
 ·exact h2 (Pt.ext hx (by rw [hx] at e; grind))
 ·have hd : s0.a.x - s0.b.x ≠ 0 := fun e => hx (by grind)
  have : -(s0.a.y - s0.b.y) / (s0.a.x - s0.b.x) = k := by grind
  rw [this] at h1
  exact Rat.lt_irrefl h1
theorem Good.seg_ne {L : List Pt} (h : Good L) : ∀ s ∈ edgesL L, s.a ≠ s.b := by
 intro s hs
 obtain ⟨i, hi, rfl⟩ := mem_edgesL hs
 rw [segOf_sc hi]
 exact h.ne i hi
theorem Good.areaNe {L : List Pt} (h : Good L) : areaL L ≠ 0 := by
 obtain ⟨k, hk⟩ := steep_shear (edgesL L) h.seg_ne
 have := (side_area (h.map (shy_ne k)) (by rw [edges_map]; exact hk)).1
 rw [area_ap, shy_det] at this
 intro e; rw [e] at this; exact this (by grind)
end Go.Av
