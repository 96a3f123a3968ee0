/- Helping texts: Ds, Dt, Du. -/
import Derived.Test.YtbidkolaahnbiaaGreatKDh
import Derived.Test.YtbidkolaahnbiaaGreatKDq
set_option linter.unusedSimpArgs false
set_option linter.unusedVariables false
set_option maxRecDepth 100000
set_option maxHeartbeats 16000000
open Nat (reduceAdd reduceLT reduceLeDiff reducePow reduceDiv reduceMod reduceEqDiff)
namespace Go.Av
open Go.RowKit
open Go.Proofs.Tryz (prog)
theorem set_self {H : Hp} {b : Nat} {k : Blk} (h : get H b = some k) : H.set b (some k) = H := by
  refine List.ext_getElem? fun c => ?_
  rw [List.getElem?_set]
  split
  · rename_i hc
    subst hc
    have hl := get_lt_len h
    rw [if_pos hl]
    simp only [get, List.getElem?_eq_getElem hl, Option.join_some] at h ⊢
    rw [h]
  · rfl
def hq (l : List Rat) (k : Nat) : Prop := ∀ i, i < l.length → ht (l.getD i 0) ≤ k
end Go.Av
set_option maxRecDepth 100000
set_option maxHeartbeats 16000000
open Nat (reduceAdd reduceLT reduceLeDiff reducePow reduceDiv reduceMod reduceEqDiff)
namespace Go.Av
open Go.RowKit
open Go.Proofs.Tryz (prog)
theorem eqA_q (a b : Rat) : eqA (tyOf prog) 9 27 (.agg [.prim (.bool (can a).neg), .prim (.string (bs ((can a).num))), .prim (.string (bs ((can a).den)))]) (.agg [.prim (.bool (can b).neg), .prim (.string (bs ((can b).num))), .prim (.string (bs ((can b).den)))]) = some (decide (a = b)) := by
  rw [eqA_rat]
  have : decide (Rt.mk (can a).neg (can a).num (can a).den = Rt.mk (can b).neg (can b).num (can b).den) = decide (a = b) := by
    rw [decide_eq_decide]
    exact ⟨fun h => can_inj h, fun h => by subst h; rfl⟩
  rw [this]

end Go.Av
set_option maxRecDepth 100000
set_option maxHeartbeats 16000000
open Nat (reduceAdd reduceLT reduceLeDiff reducePow reduceDiv reduceMod reduceEqDiff)
namespace Go.Av
open Go.RowKit
open Go.Proofs.Tryz (prog)
end Go.Av
