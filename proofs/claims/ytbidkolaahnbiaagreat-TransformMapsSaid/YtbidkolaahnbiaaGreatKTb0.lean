/- Helping texts: Tb0. -/
import Derived.Test.YtbidkolaahnbiaaGreatRows
import Derived.ProofKit
set_option linter.unusedSimpArgs false
set_option linter.unusedVariables false
set_option maxRecDepth 100000
set_option maxHeartbeats 16000000
namespace Go.Proofs.YtbidkolaahnbiaaGreat
open Go Go.ChangeShapes Go.WideShapes Go.ChangeAt Go.RowKit
theorem andTTransformMaps {a b : Bool} (h : a = true) (k : b = true) : (a && b) = true := by rw [h, k]; rfl
theorem closedTransformMaps : joinedFacts Tryz.pinned.checked.prog 4 Tryz.f4 Rows.transformMapsSpec Rows.transformMapsRow = true := by
 unfold joinedFacts
 repeat' with_reducible refine andTTransformMaps ?_ ?_
 all_goals as_aux_lemma => kernel_rfl
theorem instTransformMaps : Tryz.f4.isInstance Tryz.pinned.checked.prog Rows.transformMapsRow.origin Rows.transformMapsRow.targs := of_decide_eq_true (by kernel_rfl)
theorem wrapTransformMaps : Tryz.f4.isWrapper Tryz.pinned.checked.prog Rows.transformMapsRow.wrapper Rows.transformMapsRow.mainSum := by
 unfold Func.isWrapper; first | (rw [if_pos (by decide +kernel)]; kernel_rfl) | (rw [if_neg (by decide +kernel)]; exact ⟨rfl, rfl⟩)
theorem namedTransformMaps : Tryz.pinned.checked.prog.funcNamed Rows.transformMapsRow.func = some 4 := by kernel_rfl
end Go.Proofs.YtbidkolaahnbiaaGreat
