/- Helping texts: Tf0. -/
import Derived.Test.YtbidkolaahnbiaaGreatRows
import Derived.ProofKit
set_option linter.unusedSimpArgs false
set_option linter.unusedVariables false
set_option maxRecDepth 100000
set_option maxHeartbeats 16000000
namespace Go.Proofs.YtbidkolaahnbiaaGreat
open Go Go.ChangeShapes Go.WideShapes Go.ChangeAt Go.RowKit
theorem andTPolygonDiagonal {a b : Bool} (h : a = true) (k : b = true) : (a && b) = true := by rw [h, k]; rfl
theorem closedPolygonDiagonal : joinedFacts Tryz.pinned.checked.prog 13 Tryz.f13 Rows.polygonDiagonalSpec Rows.polygonDiagonalRow = true := by
 unfold joinedFacts
 repeat' with_reducible refine andTPolygonDiagonal ?_ ?_
 all_goals as_aux_lemma => kernel_rfl
theorem instPolygonDiagonal : Tryz.f13.isInstance Tryz.pinned.checked.prog Rows.polygonDiagonalRow.origin Rows.polygonDiagonalRow.targs := of_decide_eq_true (by kernel_rfl)
theorem wrapPolygonDiagonal : Tryz.f13.isWrapper Tryz.pinned.checked.prog Rows.polygonDiagonalRow.wrapper Rows.polygonDiagonalRow.mainSum := by
 unfold Func.isWrapper; first | (rw [if_pos (by decide +kernel)]; kernel_rfl) | (rw [if_neg (by decide +kernel)]; exact ⟨rfl, rfl⟩)
theorem namedPolygonDiagonal : Tryz.pinned.checked.prog.funcNamed Rows.polygonDiagonalRow.func = some 13 := by kernel_rfl
end Go.Proofs.YtbidkolaahnbiaaGreat
