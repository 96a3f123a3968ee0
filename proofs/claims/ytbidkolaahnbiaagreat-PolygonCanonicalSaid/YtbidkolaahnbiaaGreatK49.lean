/- Helping texts: Fk0. -/
import Derived.Test.YtbidkolaahnbiaaGreatRows
import Derived.ProofKit
set_option linter.unusedSimpArgs false
set_option linter.unusedVariables false
namespace Go.Proofs.YtbidkolaahnbiaaGreat
open Go Go.ChangeShapes Go.WideShapes Go.ChangeAt Go.RowKit
theorem andT {a b : Bool} (h : a = true) (k : b = true) : (a && b) = true := by rw [h, k]; rfl
set_option maxHeartbeats 8000000 in
theorem closedCan : joinedFacts Tryz.pinned.checked.prog 15 Tryz.f15 Rows.polygonCanonicalSpec Rows.polygonCanonicalRow = true := by
  unfold joinedFacts
  repeat' with_reducible refine andT ?_ ?_
  all_goals as_aux_lemma => kernel_rfl
theorem instCan : Tryz.f15.isInstance Tryz.pinned.checked.prog Rows.polygonCanonicalRow.origin Rows.polygonCanonicalRow.targs := of_decide_eq_true (by kernel_rfl)
set_option maxHeartbeats 8000000 in
theorem wrapCan : Tryz.f15.isWrapper Tryz.pinned.checked.prog Rows.polygonCanonicalRow.wrapper Rows.polygonCanonicalRow.mainSum := by
  unfold Func.isWrapper; first | (rw [if_pos (by decide +kernel)]; kernel_rfl) | (rw [if_neg (by decide +kernel)]; exact ⟨rfl, rfl⟩)
theorem namedCan : Tryz.pinned.checked.prog.funcNamed Rows.polygonCanonicalRow.func = some 15 := by kernel_rfl
end Go.Proofs.YtbidkolaahnbiaaGreat
