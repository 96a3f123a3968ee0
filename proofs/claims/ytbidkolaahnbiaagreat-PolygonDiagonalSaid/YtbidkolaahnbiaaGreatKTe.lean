/- Helping texts: Te. -/
import Derived.Test.YtbidkolaahnbiaaGreatKTd
import Derived.Test.YtbidkolaahnbiaaGreatKSq
import Derived.Test.YtbidkolaahnbiaaGreatKMb
import Derived.Test.YtbidkolaahnbiaaGreatKDs
set_option linter.unusedSimpArgs false
set_option linter.unusedVariables false
set_option maxRecDepth 100000
set_option maxHeartbeats 16000000
namespace Go.Av
open Go.RowKit
open Go.Proofs.Tryz (prog)
variable {O : List Rp} {hs : List (List Rp)}
theorem s4V_sgV {s : R2} (h1 : s.a.can) (h2 : s.b.can) : r2V s = sgV ⟨⟨s.a.x.val, s.a.y.val⟩, ⟨s.b.x.val, s.b.y.val⟩⟩ := by
 show s4V s.a.x s.a.y s.b.x s.b.y = s4V (can s.a.x.val) (can s.a.y.val) (can s.b.x.val) (can s.b.y.val)
 rw [← h1.1, ← h1.2, ← h2.1, ← h2.2]
theorem le16 {p : Rp} (h : p.le (2 ^ 16)) : p.le (2 ^ 20) := ⟨Rt.le_mono h.1 (by omega), Rt.le_mono h.2 (by omega)⟩
theorem hp_raw16 {p : Rp} (h : p.can) (hl : p.le (2 ^ 16)) : hp ⟨p.x.val, p.y.val⟩ ≤ 2 ^ 16 := by
 have h1 := hl.1
 have h2 := hl.2
 rw [h.1] at h1
 rw [h.2] at h2
 exact hp_mk (ht_of_le h1 (by omega)) (ht_of_le h2 (by omega))
theorem both_diag (hg : greatP O hs = false) (sm : Small O hs) (s : R2) (ha : s.a.le (2 ^ 16)) (hb : s.b.le (2 ^ 16)) :
 ∃ b z, PC prog 70 [pgV O hs, r2V s] (.tup [.prim (.bool b), .prim (.int .i64 (z))]) ∧ PC prog 71 [pgV O hs, r2V s] (.tup [.prim (.bool b), .prim (.int .i64 (z))]) := by
 by_cases hbad : chkP O hs ≠ 0 ∨ ¬ s.a.can ∨ ¬ s.b.can
 ·exact ⟨false, 1, diagBad_pc sm s (le16 ha) (le16 hb) hbad, rdiagBad_pc sm s (le16 ha) (le16 hb) hbad⟩
 ·rw [not_or, not_or, Decidable.not_not, Classical.not_not, Classical.not_not] at hbad
  obtain ⟨hz, h1, h2⟩ := hbad
  obtain ⟨hf, _, _⟩ := good_of hg hz
  rw [hf.val, s4V_sgV h1 h2]
  have hss : Av.hs (⟨⟨s.a.x.val, s.a.y.val⟩, ⟨s.b.x.val, s.b.y.val⟩⟩ : Sg) ≤ 2 ^ 16 := hs_mk (hp_raw16 h1 ha) (hp_raw16 h2 hb)
  exact ⟨_, _, Diagonal_pc hf _ hss, rDiagonal_pc hf.valid hf.apart _ hss⟩
theorem polygonDiagonal_pc (O : List Rp) (hs : List (List Rp)) (O' : List Rp) (hs' : List (List Rp)) (s : R2) (hr : Read O hs) (hr' : Read O' hs') (hf : s.fit) : PC prog 13 [pgV O hs, pgV O' hs', r2V s] (.prim (.bool true)) := by
 have aw := awake_pc
 have g1 := greatP_pc O hs (by have := hr.n; unfold maxLen at this; omega) (by have := hr.o.1; unfold maxLen at this; omega) hr.o.2 (fun l hl => ⟨by have := (hr.h l hl).1; unfold maxLen at this; omega, (hr.h l hl).2⟩)
 have g2 := greatP_pc O' hs' (by have := hr'.n; unfold maxLen at this; omega) (by have := hr'.o.1; unfold maxLen at this; omega) hr'.o.2 (fun l hl => ⟨by have := (hr'.h l hl).1; unfold maxLen at this; omega, (hr'.h l hl).2⟩)
 have g3 := great_pc [s.a, s.b] (by simp) (by intro p hp; simp only [List.mem_cons, List.not_mem_nil, or_false] at hp; rcases hp with rfl | rfl; exact hf.1; exact hf.2)
 cases hg1 : greatP O hs with
 | true =>
  rw [hg1] at g1
  refine PC_intro mixed (FnD.of (by kernel_rfl)) ?_
  simp only [lcOf, Go.Proofs.Tryz.func13, Go.Proofs.Tryz.f13, liteF]
  conv in (occs := *) opsL _ _ _ => all_goals cbv
  conv in ntOf _ _ => cbv
  conv in rsOf _ _ => cbv
  simp only [RN, Nat.reduceAdd, Nat.reduceSub]
  simp (disch := omega) only [↓RS, RZ, simprocAttr, pgV, hsV, rpsV, r2V, s4V]
  refine cX g1 ?_
  simp (disch := omega) only [↓RS, RZ, simprocAttr]
  refine cX aw ?_
  simp (disch := omega) only [↓RS, RZ, simprocAttr]
 | false =>
 rw [hg1] at g1
 cases hg2 : greatP O' hs' with
 | true =>
  rw [hg2] at g2
  refine PC_intro mixed (FnD.of (by kernel_rfl)) ?_
  simp only [lcOf, Go.Proofs.Tryz.func13, Go.Proofs.Tryz.f13, liteF]
  conv in (occs := *) opsL _ _ _ => all_goals cbv
  conv in ntOf _ _ => cbv
  conv in rsOf _ _ => cbv
  simp only [RN, Nat.reduceAdd, Nat.reduceSub]
  simp (disch := omega) only [↓RS, RZ, simprocAttr, pgV, hsV, rpsV, r2V, s4V]
  refine cX g1 ?_
  simp (disch := omega) only [↓RS, RZ, simprocAttr, pgV, hsV, rpsV]
  refine cX g2 ?_
  simp (disch := omega) only [↓RS, RZ, simprocAttr]
  refine cX aw ?_
  simp (disch := omega) only [↓RS, RZ, simprocAttr]
 | false =>
 rw [hg2] at g2
 cases hg3 : greatL [s.a, s.b] with
 | true =>
  rw [hg3] at g3
  have g3 : PC prog 56 [.lst 6 [rpc s.a, rpc s.b]] (.prim (.bool true)) := g3
  refine PC_intro mixed (FnD.of (by kernel_rfl)) ?_
  simp only [lcOf, Go.Proofs.Tryz.func13, Go.Proofs.Tryz.f13, liteF]
  conv in (occs := *) opsL _ _ _ => all_goals cbv
  conv in ntOf _ _ => cbv
  conv in rsOf _ _ => cbv
  simp only [RN, Nat.reduceAdd, Nat.reduceSub]
  simp (disch := omega) only [↓RS, RZ, simprocAttr, pgV, hsV, rpsV, r2V, s4V]
  refine cX g1 ?_
  simp (disch := omega) only [↓RS, RZ, simprocAttr, pgV, hsV, rpsV]
  refine cX g2 ?_
  simp (disch := omega) only [↓RS, RZ, simprocAttr, pgV, hsV, rpsV]
  refine cX g3 ?_
  simp (disch := omega) only [↓RS, RZ, simprocAttr]
  refine cX aw ?_
  simp (disch := omega) only [↓RS, RZ, simprocAttr]
 | false =>
  rw [hg3] at g3
  have g3 : PC prog 56 [.lst 6 [rpc s.a, rpc s.b]] (.prim (.bool false)) := g3
  have sm := small_of hg1
  have sm' := small_of hg2
  have la := greatL_le hg3 s.a (by simp)
  have lb := greatL_le hg3 s.b (by simp)
  obtain ⟨b, z, d1, d2⟩ := both_diag hg1 sm s la lb
  have s1 := sameR_pc O hs O' hs' sm.nO sm'.nO sm.n sm'.n (fun l hl => (sm.kh l hl).1) (fun l hl => (sm'.kh l hl).1)
  have s2 := rsameP_pc O hs O' hs' sm.nO sm'.nO sm.n sm'.n (fun l hl => (sm.kh l hl).1) (fun l hl => (sm'.kh l hl).1)
  generalize decide (O = O' ∧ hs = hs') = e at *
  have bb : (b == b) = true := by cases b <;> rfl
  have ee : (e == e) = true := by cases e <;> rfl
  refine PC_intro mixed (FnD.of (by kernel_rfl)) ?_
  simp only [lcOf, Go.Proofs.Tryz.func13, Go.Proofs.Tryz.f13, liteF]
  conv in (occs := *) opsL _ _ _ => all_goals cbv
  conv in ntOf _ _ => cbv
  conv in rsOf _ _ => cbv
  simp only [RN, Nat.reduceAdd, Nat.reduceSub]
  simp (disch := omega) only [↓RS, RZ, simprocAttr, pgV, hsV, rpsV, r2V, s4V]
  refine cX g1 ?_
  simp (disch := omega) only [↓RS, RZ, simprocAttr, pgV, hsV, rpsV]
  refine cX g2 ?_
  simp (disch := omega) only [↓RS, RZ, simprocAttr, pgV, hsV, rpsV]
  refine cX g3 ?_
  simp (disch := omega) only [↓RS, RZ, simprocAttr, pgV, hsV, rpsV]
  refine cX d1 ?_
  simp (disch := omega) only [↓RS, RZ, simprocAttr, pgV, hsV, rpsV]
  refine cX d2 ?_
  simp (disch := omega) only [↓RS, RZ, simprocAttr, eqA_bool9, bb, hsV, rpsV]
  refine cX s1 ?_
  simp (disch := omega) only [↓RS, RZ, simprocAttr, hsV, rpsV]
  refine cX s2 ?_
  simp (disch := omega) only [↓RS, RZ, simprocAttr, eqA_bool9, ee]
  refine cX aw ?_
  simp (disch := omega) only [↓RS, RZ, simprocAttr]
end Go.Av
