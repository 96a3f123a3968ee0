/- Helping texts: Ta0. -/
import Derived.Test.YtbidkolaahnbiaaGreatRows
import Derived.ProofKit
set_option linter.unusedSimpArgs false
set_option linter.unusedVariables false
set_option maxRecDepth 100000
set_option maxHeartbeats 16000000
namespace Go.Proofs.YtbidkolaahnbiaaGreat
open Go Go.ChangeShapes Go.WideShapes Go.ChangeAt Go.RowKit
theorem andTTransformMoves {a b : Bool} (h : a = true) (k : b = true) : (a && b) = true := by rw [h, k]; rfl
theorem closedTransformMoves : joinedFacts Tryz.pinned.checked.prog 3 Tryz.f3 Rows.transformMovesSpec Rows.transformMovesRow = true := by
 unfold joinedFacts
 repeat' with_reducible refine andTTransformMoves ?_ ?_
 all_goals as_aux_lemma => kernel_rfl
theorem instTransformMoves : Tryz.f3.isInstance Tryz.pinned.checked.prog Rows.transformMovesRow.origin Rows.transformMovesRow.targs := of_decide_eq_true (by kernel_rfl)
theorem wrapTransformMoves : Tryz.f3.isWrapper Tryz.pinned.checked.prog Rows.transformMovesRow.wrapper Rows.transformMovesRow.mainSum := by
 unfold Func.isWrapper; first | (rw [if_pos (by decide +kernel)]; kernel_rfl) | (rw [if_neg (by decide +kernel)]; exact ⟨rfl, rfl⟩)
theorem namedTransformMoves : Tryz.pinned.checked.prog.funcNamed Rows.transformMovesRow.func = some 3 := by kernel_rfl
end Go.Proofs.YtbidkolaahnbiaaGreat
