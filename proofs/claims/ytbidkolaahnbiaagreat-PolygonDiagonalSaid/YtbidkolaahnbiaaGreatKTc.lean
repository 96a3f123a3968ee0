/- Helping texts: Tc. -/
import Derived.Test.YtbidkolaahnbiaaGreatKCy
import Derived.Test.YtbidkolaahnbiaaGreatKCs
set_option linter.unusedSimpArgs false
set_option linter.unusedVariables false
set_option maxRecDepth 100000
set_option maxHeartbeats 16000000
namespace Go.Av
open Go.RowKit
open Go.Proofs.Tryz (prog)
variable {H : Type} {enc : TypeId × Value → H} {W : World} {base : Nat} {spare : Nat → Bool} {held : Bool}
structure R2 where
 a : Rp
 b : Rp
def R2.fit (s : R2) : Prop := s.a.fit ∧ s.b.fit
def r2V (s : R2) : V := s4V s.a.x s.a.y s.b.x s.b.y
theorem trod_sgV {fuel : Nat} {v : Value} {x : DataW H × List MemPlace} (h : DataW.trod enc prog W base spare held fuel 79 v.cells.toList = some x) :
 ∃ s : R2, VR (fun _ => none) (fun B => B < W.heap.size) W (r2V s) v ∧ s.fit := by
 obtain ⟨y0, y1, n, _, hl, h0, h1⟩ := Go.ChangeShapes.trod_struct2 (P := prog) Go.Proofs.Tryz.underlying79 h
 have c12 : prog.cellsOf 79 = 12 := by kernel_rfl
 have c6 : prog.cellsOf 31 = 6 := by kernel_rfl
 rw [c12] at hl
 have : ∃ s : R2, v.cells.toList = ptCells s.a ++ ptCells s.b ∧ s.fit := by
  match hcs : v.cells.toList, hl with
  | [a, b, c, d, e, f, a', b', c', d', e', f'], _ =>
   simp only [hcs, c6, List.drop_zero, List.drop_succ_cons, List.take_succ_cons, List.take_zero] at h0 h1
   obtain ⟨p0, e0, k0⟩ := trod_pt h0
   obtain ⟨p1, e1, k1⟩ := trod_pt h1
   refine ⟨⟨p0, p1⟩, ?_, k0, k1⟩
   rw [← e0, ← e1]; rfl
 obtain ⟨s, e, hf⟩ := this
 obtain ⟨xs, rfl⟩ := cells_agg' (v := v) (t := 12) (by rw [e]; rfl) (by omega)
 have e : xs = (ptCells s.a ++ ptCells s.b).toArray := by
  have e2 : xs.toList = ptCells s.a ++ ptCells s.b := e
  rw [← e2]
 subst e
 refine ⟨s, ?_, hf⟩
 unfold r2V s4V
 refine .agg rfl ?_
 intro k u y hk hy
 match k with
 | 0 | 1 | 2 | 3 | 4 | 5 | 6 | 7 | 8 | 9 | 10 | 11 => simp [ptCells, ratCells] at hk hy; subst hk; subst hy; exact .prim rfl
 | k + 12 => simp at hk
end Go.Av
