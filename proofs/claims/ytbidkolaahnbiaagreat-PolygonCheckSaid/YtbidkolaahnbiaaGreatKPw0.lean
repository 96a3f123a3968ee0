/- Helping texts: Pw0. -/
import Derived.Test.YtbidkolaahnbiaaGreatRows
import Derived.ProofKit
set_option linter.unusedSimpArgs false
set_option linter.unusedVariables false
set_option maxRecDepth 100000
set_option maxHeartbeats 16000000
namespace Go.Proofs.YtbidkolaahnbiaaGreat
open Go Go.ChangeShapes Go.WideShapes Go.ChangeAt Go.RowKit
theorem andTPolygonCheck {a b:Bool} (h:a=true) (k:b=true):(a&&b)=true:=by rw [h,k];rfl
theorem closedPolygonCheck:joinedFacts Tryz.pinned.checked.prog 14 Tryz.f14 Rows.polygonCheckSpec Rows.polygonCheckRow=true:=by
 unfold joinedFacts
 repeat' with_reducible refine andTPolygonCheck ?_ ?_
 all_goals as_aux_lemma=>kernel_rfl
theorem instPolygonCheck: Tryz.f14.isInstance Tryz.pinned.checked.prog Rows.polygonCheckRow.origin Rows.polygonCheckRow.targs:=of_decide_eq_true (by kernel_rfl)
theorem wrapPolygonCheck: Tryz.f14.isWrapper Tryz.pinned.checked.prog Rows.polygonCheckRow.wrapper Rows.polygonCheckRow.mainSum:=by
 unfold Func.isWrapper;first|(rw [if_pos (by decide+kernel)];kernel_rfl)|(rw [if_neg (by decide+kernel)];exact ⟨rfl,rfl⟩)
theorem namedPolygonCheck: Tryz.pinned.checked.prog.funcNamed Rows.polygonCheckRow.func=some 14 :=by kernel_rfl
end Go.Proofs.YtbidkolaahnbiaaGreat
