/- Helping texts: Py0. -/
import Derived.Test.YtbidkolaahnbiaaGreatRows
import Derived.ProofKit
set_option linter.unusedSimpArgs false
set_option linter.unusedVariables false
set_option maxRecDepth 100000
set_option maxHeartbeats 16000000
namespace Go.Proofs.YtbidkolaahnbiaaGreat
open Go Go.ChangeShapes Go.WideShapes Go.ChangeAt Go.RowKit
theorem andTPolygonReads {a b:Bool} (h:a=true) (k:b=true):(a&&b)=true:=by rw [h,k];rfl
theorem closedPolygonReads:joinedFacts Tryz.pinned.checked.prog 12 Tryz.f12 Rows.polygonReadsSpec Rows.polygonReadsRow=true:=by
 unfold joinedFacts
 repeat' with_reducible refine andTPolygonReads ?_ ?_
 all_goals as_aux_lemma=>kernel_rfl
theorem instPolygonReads: Tryz.f12.isInstance Tryz.pinned.checked.prog Rows.polygonReadsRow.origin Rows.polygonReadsRow.targs:=of_decide_eq_true (by kernel_rfl)
theorem wrapPolygonReads: Tryz.f12.isWrapper Tryz.pinned.checked.prog Rows.polygonReadsRow.wrapper Rows.polygonReadsRow.mainSum:=by
 unfold Func.isWrapper;first|(rw [if_pos (by decide+kernel)];kernel_rfl)|(rw [if_neg (by decide+kernel)];exact ⟨rfl,rfl⟩)
theorem namedPolygonReads: Tryz.pinned.checked.prog.funcNamed Rows.polygonReadsRow.func=some 12 :=by kernel_rfl
end Go.Proofs.YtbidkolaahnbiaaGreat
