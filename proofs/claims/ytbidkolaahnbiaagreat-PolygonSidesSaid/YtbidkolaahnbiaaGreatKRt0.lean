/- Helping texts: Rt0. -/
import Derived.Test.YtbidkolaahnbiaaGreatRows
import Derived.ProofKit
set_option linter.unusedSimpArgs false
set_option linter.unusedVariables false
set_option maxRecDepth 100000
set_option maxHeartbeats 16000000
namespace Go.Proofs.YtbidkolaahnbiaaGreat
open Go Go.ChangeShapes Go.WideShapes Go.ChangeAt Go.RowKit
theorem andTPolygonSides {a b : Bool} (h : a = true) (k : b = true) : (a && b) = true := by rw [h, k]; rfl
theorem closedPolygonSides : joinedFacts Tryz.pinned.checked.prog 11 Tryz.f11 Rows.polygonSidesSpec Rows.polygonSidesRow = true := by
  unfold joinedFacts
  repeat' with_reducible refine andTPolygonSides ?_ ?_
  all_goals as_aux_lemma => kernel_rfl
theorem instPolygonSides : Tryz.f11.isInstance Tryz.pinned.checked.prog Rows.polygonSidesRow.origin Rows.polygonSidesRow.targs := of_decide_eq_true (by kernel_rfl)
theorem wrapPolygonSides : Tryz.f11.isWrapper Tryz.pinned.checked.prog Rows.polygonSidesRow.wrapper Rows.polygonSidesRow.mainSum := by
  unfold Func.isWrapper; first | (rw [if_pos (by decide +kernel)]; kernel_rfl) | (rw [if_neg (by decide +kernel)]; exact ⟨rfl, rfl⟩)
theorem namedPolygonSides : Tryz.pinned.checked.prog.funcNamed Rows.polygonSidesRow.func = some 11 := by kernel_rfl
end Go.Proofs.YtbidkolaahnbiaaGreat
