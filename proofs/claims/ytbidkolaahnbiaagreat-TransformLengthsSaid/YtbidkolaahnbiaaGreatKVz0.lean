/- Helping texts: Vz0. -/
import Derived.Test.YtbidkolaahnbiaaGreatRows
import Derived.ProofKit
set_option linter.unusedSimpArgs false
set_option linter.unusedVariables false
set_option maxRecDepth 100000
set_option maxHeartbeats 16000000
namespace Go.Proofs.YtbidkolaahnbiaaGreat
open Go Go.ChangeShapes Go.WideShapes Go.ChangeAt Go.RowKit
theorem andTTransformLengths {a b:Bool} (h:a=true) (k:b=true):(a&&b)=true:=by rw [h,k];rfl
theorem closedTransformLengths:joinedFacts Tryz.pinned.checked.prog 8 Tryz.f8 Rows.transformLengthsSpec Rows.transformLengthsRow=true:=by
 unfold joinedFacts
 repeat' with_reducible refine andTTransformLengths ?_ ?_
 all_goals as_aux_lemma=>kernel_rfl
theorem instTransformLengths: Tryz.f8.isInstance Tryz.pinned.checked.prog Rows.transformLengthsRow.origin Rows.transformLengthsRow.targs:=of_decide_eq_true (by kernel_rfl)
theorem wrapTransformLengths: Tryz.f8.isWrapper Tryz.pinned.checked.prog Rows.transformLengthsRow.wrapper Rows.transformLengthsRow.mainSum:=by
 unfold Func.isWrapper;first|(rw [if_pos (by decide+kernel)];kernel_rfl)|(rw [if_neg (by decide+kernel)];exact ⟨rfl,rfl⟩)
theorem namedTransformLengths: Tryz.pinned.checked.prog.funcNamed Rows.transformLengthsRow.func=some 8 :=by kernel_rfl
end Go.Proofs.YtbidkolaahnbiaaGreat
