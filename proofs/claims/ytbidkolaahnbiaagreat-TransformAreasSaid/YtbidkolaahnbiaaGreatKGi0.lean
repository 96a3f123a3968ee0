/- Helping texts: Gi0. -/
import Derived.Test.YtbidkolaahnbiaaGreatRows
import Derived.ProofKit
set_option linter.unusedSimpArgs false
set_option linter.unusedVariables false
set_option maxRecDepth 100000
set_option maxHeartbeats 16000000
namespace Go.Proofs.YtbidkolaahnbiaaGreat
open Go Go.ChangeShapes Go.WideShapes Go.ChangeAt Go.RowKit
theorem andTTransformAreas {a b : Bool} (h : a = true) (k : b = true) : (a && b) = true := by rw [h, k]; rfl
theorem closedTransformAreas : joinedFacts Tryz.pinned.checked.prog 5 Tryz.f5 Rows.transformAreasSpec Rows.transformAreasRow = true := by
  unfold joinedFacts
  repeat' with_reducible refine andTTransformAreas ?_ ?_
  all_goals as_aux_lemma => kernel_rfl
theorem instTransformAreas : Tryz.f5.isInstance Tryz.pinned.checked.prog Rows.transformAreasRow.origin Rows.transformAreasRow.targs := of_decide_eq_true (by kernel_rfl)
theorem wrapTransformAreas : Tryz.f5.isWrapper Tryz.pinned.checked.prog Rows.transformAreasRow.wrapper Rows.transformAreasRow.mainSum := by
  unfold Func.isWrapper; first | (rw [if_pos (by decide +kernel)]; kernel_rfl) | (rw [if_neg (by decide +kernel)]; exact ⟨rfl, rfl⟩)
theorem namedTransformAreas : Tryz.pinned.checked.prog.funcNamed Rows.transformAreasRow.func = some 5 := by kernel_rfl
end Go.Proofs.YtbidkolaahnbiaaGreat
