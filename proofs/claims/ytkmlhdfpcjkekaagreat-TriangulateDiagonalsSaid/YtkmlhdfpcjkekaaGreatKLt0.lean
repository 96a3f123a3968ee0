/- Helping texts: Lt0. -/
import Derived.Test.YtkmlhdfpcjkekaaGreatRows
import Derived.ProofKit
set_option linter.unusedSimpArgs false
set_option linter.unusedVariables false
set_option maxRecDepth 100000
set_option maxHeartbeats 16000000
namespace Go.Proofs.YtkmlhdfpcjkekaaGreat
open Go Go.ChangeShapes Go.WideShapes Go.ChangeAt Go.RowKit
theorem andTTriangulateDiagonals {a b:Bool} (h:a=true) (k:b=true):(a&&b)=true:=by rw [h,k];rfl
theorem closedTriangulateDiagonals:joinedFacts Tryz.pinned.checked.prog 3 Tryz.f3 Rows.triangulateDiagonalsSpec Rows.triangulateDiagonalsRow=true:=by
 unfold joinedFacts
 repeat' with_reducible refine andTTriangulateDiagonals ?_ ?_
 all_goals as_aux_lemma=>kernel_rfl
theorem instTriangulateDiagonals: Tryz.f3.isInstance Tryz.pinned.checked.prog Rows.triangulateDiagonalsRow.origin Rows.triangulateDiagonalsRow.targs:=of_decide_eq_true (by kernel_rfl)
theorem wrapTriangulateDiagonals: Tryz.f3.isWrapper Tryz.pinned.checked.prog Rows.triangulateDiagonalsRow.wrapper Rows.triangulateDiagonalsRow.mainSum:=by
 unfold Func.isWrapper;first|(rw [if_pos (by decide+kernel)];kernel_rfl)|(rw [if_neg (by decide+kernel)];exact ⟨rfl,rfl⟩)
theorem namedTriangulateDiagonals: Tryz.pinned.checked.prog.funcNamed Rows.triangulateDiagonalsRow.func=some 3 :=by kernel_rfl
end Go.Proofs.YtkmlhdfpcjkekaaGreat
