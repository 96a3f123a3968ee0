/- Helping texts: Pz0. -/
import Derived.Test.YtbidkolaahnbiaaGreatRows
import Derived.ProofKit
set_option linter.unusedSimpArgs false
set_option linter.unusedVariables false
set_option maxRecDepth 100000
set_option maxHeartbeats 16000000
namespace Go.Proofs.YtbidkolaahnbiaaGreat
open Go Go.ChangeShapes Go.WideShapes Go.ChangeAt Go.RowKit
theorem andTPolygonInner {a b:Bool} (h:a=true) (k:b=true):(a&&b)=true:=by rw [h,k];rfl
theorem closedPolygonInner:joinedFacts Tryz.pinned.checked.prog 10 Tryz.f10 Rows.polygonInnerSpec Rows.polygonInnerRow=true:=by
 unfold joinedFacts
 repeat' with_reducible refine andTPolygonInner ?_ ?_
 all_goals as_aux_lemma=>kernel_rfl
theorem instPolygonInner: Tryz.f10.isInstance Tryz.pinned.checked.prog Rows.polygonInnerRow.origin Rows.polygonInnerRow.targs:=of_decide_eq_true (by kernel_rfl)
theorem wrapPolygonInner: Tryz.f10.isWrapper Tryz.pinned.checked.prog Rows.polygonInnerRow.wrapper Rows.polygonInnerRow.mainSum:=by
 unfold Func.isWrapper;first|(rw [if_pos (by decide+kernel)];kernel_rfl)|(rw [if_neg (by decide+kernel)];exact ⟨rfl,rfl⟩)
theorem namedPolygonInner: Tryz.pinned.checked.prog.funcNamed Rows.polygonInnerRow.func=some 10 :=by kernel_rfl
end Go.Proofs.YtbidkolaahnbiaaGreat
