/- Helping texts: Gn0. -/
import Derived.Test.YtbidkolaahnbiaaGreatRows
import Derived.ProofKit
set_option linter.unusedSimpArgs false
set_option linter.unusedVariables false
set_option maxRecDepth 100000
set_option maxHeartbeats 16000000
namespace Go.Proofs.YtbidkolaahnbiaaGreat
open Go Go.ChangeShapes Go.WideShapes Go.ChangeAt Go.RowKit
theorem andTTransformGroups {a b : Bool} (h : a = true) (k : b = true) : (a && b) = true := by rw [h, k]; rfl
theorem closedTransformGroups : joinedFacts Tryz.pinned.checked.prog 6 Tryz.f6 Rows.transformGroupsSpec Rows.transformGroupsRow = true := by
  unfold joinedFacts
  repeat' with_reducible refine andTTransformGroups ?_ ?_
  all_goals as_aux_lemma => kernel_rfl
theorem instTransformGroups : Tryz.f6.isInstance Tryz.pinned.checked.prog Rows.transformGroupsRow.origin Rows.transformGroupsRow.targs := of_decide_eq_true (by kernel_rfl)
theorem wrapTransformGroups : Tryz.f6.isWrapper Tryz.pinned.checked.prog Rows.transformGroupsRow.wrapper Rows.transformGroupsRow.mainSum := by
  unfold Func.isWrapper; first | (rw [if_pos (by decide +kernel)]; kernel_rfl) | (rw [if_neg (by decide +kernel)]; exact ⟨rfl, rfl⟩)
theorem namedTransformGroups : Tryz.pinned.checked.prog.funcNamed Rows.transformGroupsRow.func = some 6 := by kernel_rfl
end Go.Proofs.YtbidkolaahnbiaaGreat
