/- Helping texts: Lp0. -/
import Derived.Test.YtkmlhdfpcjkekaaGreatRows
import Derived.ProofKit
set_option linter.unusedSimpArgs false
set_option linter.unusedVariables false
set_option maxRecDepth 100000
set_option maxHeartbeats 16000000
namespace Go.Proofs.YtkmlhdfpcjkekaaGreat
open Go Go.ChangeShapes Go.WideShapes Go.ChangeAt Go.RowKit
theorem andTTriangulatePoints {a b:Bool} (h:a=true) (k:b=true):(a&&b)=true:=by rw [h,k];rfl
theorem closedTriangulatePoints:joinedFacts Tryz.pinned.checked.prog 5 Tryz.f5 Rows.triangulatePointsSpec Rows.triangulatePointsRow=true:=by
 unfold joinedFacts
 repeat' with_reducible refine andTTriangulatePoints ?_ ?_
 all_goals as_aux_lemma=>kernel_rfl
theorem instTriangulatePoints: Tryz.f5.isInstance Tryz.pinned.checked.prog Rows.triangulatePointsRow.origin Rows.triangulatePointsRow.targs:=of_decide_eq_true (by kernel_rfl)
theorem wrapTriangulatePoints: Tryz.f5.isWrapper Tryz.pinned.checked.prog Rows.triangulatePointsRow.wrapper Rows.triangulatePointsRow.mainSum:=by
 unfold Func.isWrapper;first|(rw [if_pos (by decide+kernel)];kernel_rfl)|(rw [if_neg (by decide+kernel)];exact ⟨rfl,rfl⟩)
theorem namedTriangulatePoints: Tryz.pinned.checked.prog.funcNamed Rows.triangulatePointsRow.func=some 5 :=by kernel_rfl
end Go.Proofs.YtkmlhdfpcjkekaaGreat
