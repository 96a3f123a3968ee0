/- Helping texts: Dv, Dw, Dx, Dy. -/
import Derived.Test.YtbidkolaahnbiaaGreatKDs
set_option linter.unusedSimpArgs false
set_option linter.unusedVariables false
set_option maxRecDepth 100000
set_option maxHeartbeats 16000000
open Nat (reduceAdd reduceLT reduceLeDiff reducePow reduceDiv reduceMod reduceEqDiff)
namespace Go.Av
open Go.RowKit
open Go.Proofs.Tryz (prog)
end Go.Av
set_option maxRecDepth 100000
set_option maxHeartbeats 16000000
open Nat (reduceAdd reduceLT reduceLeDiff reducePow reduceDiv reduceMod reduceEqDiff)
namespace Go.Av
open Go.RowKit
open Go.Proofs.Tryz (prog)
end Go.Av
set_option maxRecDepth 100000
set_option maxHeartbeats 16000000
open Nat (reduceAdd reduceLT reduceLeDiff reducePow reduceDiv reduceMod reduceEqDiff)
namespace Go.Av
open Go.RowKit
open Go.Proofs.Tryz (prog)
theorem hl_of {L : List Pt} {k : Nat} (hk : 1 ≤ k) (h : ∀ p ∈ L, ∃ x y : Int, p = ⟨x, y⟩ ∧ x.natAbs < 256 ∧ y.natAbs < 256) : hl L k := by
  intro p hp
  obtain ⟨x, y, rfl, hx, hy⟩ := h p hp
  exact Nat.le_trans (hp_mk (ht_int hx) (ht_int hy)) hk
end Go.Av
set_option maxRecDepth 100000
set_option maxHeartbeats 16000000
open Nat (reduceAdd reduceLT reduceLeDiff reducePow reduceDiv reduceMod reduceEqDiff)
namespace Go.Av
open Go.RowKit
open Go.Proofs.Tryz (prog)
theorem hp_ints {x y : Int} (hx : x.natAbs < 256) (hy : y.natAbs < 256) : hp ⟨x, y⟩ ≤ 1 := hp_mk (ht_int hx) (ht_int hy)
end Go.Av
