/- Helping texts: Rq. -/
import Derived.Test.YtbidkolaahnbiaaGreatKMf
import Derived.Test.YtbidkolaahnbiaaGreatKRn
set_option linter.unusedSimpArgs false
set_option linter.unusedVariables false
set_option maxRecDepth 100000
set_option maxHeartbeats 16000000
namespace Go.Av
open Go.RowKit
open Go.Proofs.Tryz (prog)
theorem cmpQ_le0 {q : Rat} : cmpQ q 0 ≤ 0 ↔ q ≤ 0 := by
 unfold cmpQ
 by_cases h1 : q < 0
 ·rw [if_pos h1]
  exact ⟨fun _ => Rat.le_of_lt h1, fun _ => by decide⟩
 ·rw [if_neg h1]
  by_cases h2 : 0 < q
  ·rw [if_pos h2]
   exact ⟨fun h => absurd h (by decide), fun h => absurd h2 (Rat.not_lt.2 h)⟩
  ·rw [if_neg h2]
   exact ⟨fun _ => Rat.not_lt.1 h2, fun _ => by decide⟩
theorem rbetween_iff {a b p : Pt} : rbetween a b p = true ↔ ar a b p = 0 ∧ dotP (a.sub p) (b.sub p) ≤ 0 := by
 unfold rbetween
 rw [Bool.and_eq_true, decide_eq_true_eq, decide_eq_true_eq, orient_ar, cmpQ_le0]
theorem on_line {a b p : Pt} (hne : a ≠ b) (h : ar a b p = 0) : ∃ m, p = pt a b m := by
 by_cases hx : b.x - a.x = 0
 ·have hy : b.y - a.y ≠ 0 := fun hy => hne (Pt.ext (by grind) (by grind))
  refine ⟨(p.y - a.y) / (b.y - a.y), Pt.ext ?_ ?_⟩
  ·unfold pt ar at *; simp only; grind
  ·unfold pt; simp only
   rw [Rat.div_mul_cancel hy]; grind
 ·refine ⟨(p.x - a.x) / (b.x - a.x), Pt.ext ?_ ?_⟩
  ·unfold pt; simp only
   rw [Rat.div_mul_cancel hx]; grind
  ·unfold pt ar at *; simp only
   have : (p.x - a.x) / (b.x - a.x) * (b.y - a.y) = p.y - a.y := by
    rw [Rat.div_def]
    have : (b.x - a.x) * (b.x - a.x)⁻¹ = 1 := Rat.mul_inv_cancel _ hx
    grind
   grind
theorem sq_nn (x : Rat) : 0 ≤ x * x := by
 by_cases h : 0 ≤ x
 ·exact Rat.mul_nonneg h h
 ·have := Rat.mul_nonneg (show 0 ≤ -x by grind) (show 0 ≤ -x by grind)
  grind
theorem sq_pos {x : Rat} (h : x ≠ 0) : 0 < x * x := by
 by_cases h0 : 0 < x
 ·exact Rat.mul_pos h0 h0
 ·have := Rat.mul_pos (show 0 < -x by grind) (show 0 < -x by grind)
  grind
theorem len_pos {a b : Pt} (hne : a ≠ b) : 0 < (b.x - a.x) * (b.x - a.x) + (b.y - a.y) * (b.y - a.y) := by
 have h1 := sq_nn (b.x - a.x)
 have h2 := sq_nn (b.y - a.y)
 by_cases hx : b.x - a.x = 0
 ·have hy : b.y - a.y ≠ 0 := fun hy => hne (Pt.ext (by grind) (by grind))
  have := sq_pos hy
  grind
 ·have := sq_pos hx
  grind
theorem rbetween_onSeg {a b p : Pt} (hne : a ≠ b) : rbetween a b p = true ↔ onSeg a b p := by
 rw [rbetween_iff]
 have hl := len_pos hne
 have dot_pt : ∀ m, dotP (a.sub (pt a b m)) (b.sub (pt a b m)) = -(m * (1 - m) * ((b.x - a.x) * (b.x - a.x) + (b.y - a.y) * (b.y - a.y))) := by
  intro m; unfold dotP Pt.sub pt; simp only; grind
 constructor
 ·rintro ⟨h1, h2⟩
  obtain ⟨m, rfl⟩ := on_line hne h1
  rw [dot_pt] at h2
  have h3 : 0 ≤ m * (1 - m) := by
   by_cases h : 0 ≤ m * (1 - m)
   ·exact h
   ·have := Rat.mul_pos (show 0 < -(m * (1 - m)) by grind) hl
    grind
  refine ⟨m, ?_, ?_, rfl⟩
  ·by_cases h : 0 ≤ m
   ·exact h
   ·have := Rat.mul_pos (show 0 < -m by grind) (show 0 < 1 - m by grind)
    grind
  ·by_cases h : m ≤ 1
   ·exact h
   ·have := Rat.mul_pos (show 0 < m by grind) (show 0 < m - 1 by grind)
    grind
 ·rintro ⟨m, m0, m1, rfl⟩
  refine ⟨by rw [ar_pt, ar_l, ar_r]; grind, ?_⟩
  rw [dot_pt]
  have h3 := Rat.mul_nonneg (Rat.mul_nonneg m0 (show 0 ≤ 1 - m by grind)) (Rat.le_of_lt hl)
  grind
theorem off_gen {a b : List Pt} (nm : NoMeet a b) {v : Bool} (hv : ∀ p ∈ a, oddTo b p b.length = v) {q : Pt} (hq : onE a q) : ¬ onE b q ∧ oddTo b q b.length = v := by
 obtain ⟨s, hs, k⟩ := hq
 refine ⟨fun ⟨r, hr, k2⟩ => nm s hs r hr ⟨q, k, k2⟩, ?_⟩
 obtain ⟨i, hi, rfl⟩ := mem_edgesL hs
 have hm : a.getD i default ∈ a := by rw [List.getD_eq_getElem?_getD, List.getElem?_eq_getElem hi]; exact List.getElem_mem hi
 rw [← hv _ hm]
 refine (odd_same fun j hj => ?_).symm
 rintro ⟨p, ⟨m, m0, m1, rfl⟩, k2⟩
 obtain ⟨n, n0, n1, rfl⟩ := k
 refine nm _ (seg_mem hi) _ (seg_mem hj) ⟨_, ⟨m * n, Rat.mul_nonneg m0 n0, ?_, ?_⟩, k2⟩
 ·have := Rat.mul_nonneg (show 0 ≤ 1 - m by grind) n0
  grind
 ·have e := pt_pt (a.getD i default) (nx a i) 0 n m
  have e0 : pt (a.getD i default) (nx a i) 0 = a.getD i default := Pt.ext (by unfold pt; simp only; grind) (by unfold pt; simp only; grind)
  rw [e0] at e
  show pt (a.getD i default) (pt (a.getD i default) (nx a i) n) m = _
  rw [e, show (0 : Rat) + m * (n - 0) = m * n by grind]; rfl
theorem side_zero {l : List Pt} (h : Ring l) {q : Pt} : sideS l q = 0 ↔ onE l q := by
 rw [← onB_onE h]
 unfold sideS
 by_cases k : onB l q = true
 ·rw [if_pos k]; exact ⟨fun _ => k, fun _ => rfl⟩
 ·rw [if_neg k]
  refine ⟨fun e => ?_, fun e => absurd e k⟩
  split at e <;> cases e
theorem where_zero {L : List Pt} {Hs : List (List Pt)} (h : Valid L Hs) (q : Pt) : whereS L Hs q = 0 ↔ ∃ l ∈ L :: Hs, onE l q := by
 obtain ⟨w1, w2⟩ := where_eq h q
 constructor
 ·intro e
  rcases sideS_one (l := L) (q := q) with k | k | k
  ·exact ⟨L, List.mem_cons_self .., (side_zero h.out).1 k⟩
  ·obtain ⟨a, b, c⟩ := w2 k
   by_cases hx : ∃ x ∈ Hs, sideS x q = 0
   ·obtain ⟨x, hx, k2⟩ := hx
    exact ⟨x, List.mem_cons_of_mem _ hx, (side_zero (h.holes x hx)).1 k2⟩
   ·exfalso
    by_cases hy : ∃ x ∈ Hs, sideS x q = 1
    ·rw [b hx hy] at e; cases e
    ·rw [c fun x hm => ?_] at e
     ·cases e
     ·rcases sideS_one (l := x) (q := q) with u | u | u
      ·exact absurd ⟨x, hm, u⟩ hx
      ·exact absurd ⟨x, hm, u⟩ hy
      ·exact u
  ·rw [w1 (by omega), k] at e; cases e
 ·rintro ⟨l, hl, k⟩
  rcases List.mem_cons.1 hl with rfl | hl
  ·have := (side_zero h.out).2 k
   rw [w1 (by omega), this]
  ·obtain ⟨o1, o2⟩ := off_gen (h.mo l hl) (v := true) (fun p hp => h.wo l hl p hp) k
   have hs : sideS L q = 1 := by
    unfold sideS
    rw [if_neg (fun hh => o1 ((onB_onE h.out q).1 hh)), if_pos o2]
   exact (w2 hs).1 ⟨l, hl, (side_zero (h.holes l hl)).2 k⟩
theorem mem_edgesTo {Ls : List (List Pt)} {s : Sg} : ∀ {n}, n ≤ Ls.length → s ∈ edgesTo Ls n → ∃ l ∈ Ls, s ∈ edgesL l
 | 0, _, h => by simp [edgesTo] at h
 | n + 1, hn, h => by
  rw [edgesTo, List.mem_append] at h
  rcases h with h | h
  ·exact mem_edgesTo (by omega) h
  ·refine ⟨_, ?_, h⟩
   rw [List.getD_eq_getElem?_getD, List.getElem?_eq_getElem (by omega)]; exact List.getElem_mem _
theorem vring_of {L : List Pt} {Hs : List (List Pt)} (h : Valid L Hs) {l : List Pt} (hl : l ∈ L :: Hs) : Ring l := by
 rcases List.mem_cons.1 hl with rfl | hl
 ·exact h.out
 ·exact h.holes l hl
end Go.Av
