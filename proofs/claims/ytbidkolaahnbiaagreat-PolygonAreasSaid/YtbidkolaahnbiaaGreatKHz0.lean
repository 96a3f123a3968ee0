/- Helping texts: Hz0. -/
import Derived.Test.YtbidkolaahnbiaaGreatRows
import Derived.ProofKit
set_option linter.unusedSimpArgs false
set_option linter.unusedVariables false
namespace Go.Proofs.YtbidkolaahnbiaaGreat
open Go Go.ChangeShapes Go.WideShapes Go.ChangeAt Go.RowKit
theorem andTPolygonAreas {a b : Bool} (h : a = true) (k : b = true) : (a && b) = true := by rw [h, k]; rfl
set_option maxHeartbeats 8000000 in
theorem closedPolygonAreas : joinedFacts Tryz.pinned.checked.prog 9 Tryz.f9 Rows.polygonAreasSpec Rows.polygonAreasRow = true := by
  unfold joinedFacts
  repeat' with_reducible refine andTPolygonAreas ?_ ?_
  all_goals as_aux_lemma => kernel_rfl
theorem instPolygonAreas : Tryz.f9.isInstance Tryz.pinned.checked.prog Rows.polygonAreasRow.origin Rows.polygonAreasRow.targs := of_decide_eq_true (by kernel_rfl)
set_option maxHeartbeats 8000000 in
theorem wrapPolygonAreas : Tryz.f9.isWrapper Tryz.pinned.checked.prog Rows.polygonAreasRow.wrapper Rows.polygonAreasRow.mainSum := by
  unfold Func.isWrapper; first | (rw [if_pos (by decide +kernel)]; kernel_rfl) | (rw [if_neg (by decide +kernel)]; exact ⟨rfl, rfl⟩)
theorem namedPolygonAreas : Tryz.pinned.checked.prog.funcNamed Rows.polygonAreasRow.func = some 9 := by kernel_rfl
end Go.Proofs.YtbidkolaahnbiaaGreat
