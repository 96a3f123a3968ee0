/- Helping texts: Gk0. -/
import Derived.Test.YtbidkolaahnbiaaGreatRows
import Derived.ProofKit
set_option linter.unusedSimpArgs false
set_option linter.unusedVariables false
set_option maxRecDepth 100000
set_option maxHeartbeats 16000000
namespace Go.Proofs.YtbidkolaahnbiaaGreat
open Go Go.ChangeShapes Go.WideShapes Go.ChangeAt Go.RowKit
theorem andTTransformPoints {a b : Bool} (h : a = true) (k : b = true) : (a && b) = true := by rw [h, k]; rfl
theorem closedTransformPoints : joinedFacts Tryz.pinned.checked.prog 7 Tryz.f7 Rows.transformPointsSpec Rows.transformPointsRow = true := by
  unfold joinedFacts
  repeat' with_reducible refine andTTransformPoints ?_ ?_
  all_goals as_aux_lemma => kernel_rfl
theorem instTransformPoints : Tryz.f7.isInstance Tryz.pinned.checked.prog Rows.transformPointsRow.origin Rows.transformPointsRow.targs := of_decide_eq_true (by kernel_rfl)
theorem wrapTransformPoints : Tryz.f7.isWrapper Tryz.pinned.checked.prog Rows.transformPointsRow.wrapper Rows.transformPointsRow.mainSum := by
  unfold Func.isWrapper; first | (rw [if_pos (by decide +kernel)]; kernel_rfl) | (rw [if_neg (by decide +kernel)]; exact ⟨rfl, rfl⟩)
theorem namedTransformPoints : Tryz.pinned.checked.prog.funcNamed Rows.transformPointsRow.func = some 7 := by kernel_rfl
end Go.Proofs.YtbidkolaahnbiaaGreat
