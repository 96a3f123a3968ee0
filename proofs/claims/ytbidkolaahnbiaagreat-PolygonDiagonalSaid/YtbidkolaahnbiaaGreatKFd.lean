/- Helping texts: Fd, Fe, Fg, Fh, Fi, Fj. -/
import Derived.Test.YtbidkolaahnbiaaGreatKFa
import Derived.Test.YtbidkolaahnbiaaGreatKDl
import Derived.Test.YtbidkolaahnbiaaGreatKDb
import Derived.Test.YtbidkolaahnbiaaGreatKMb
set_option linter.unusedSimpArgs false
set_option linter.unusedVariables false
set_option maxRecDepth 100000
set_option maxHeartbeats 16000000
namespace Go.Av
open Go.RowKit
open Go.Proofs.Tryz (prog)
end Go.Av
namespace Go.Av
open Go.RowKit
open Go.Proofs.Tryz (prog)
def cmpH (a b : List Pt) : Int := cmpP (a.getD 0 default) (b.getD 0 default)
end Go.Av
open Nat (reduceAdd reduceLT reduceLeDiff reducePow reduceDiv reduceMod reduceEqDiff)
namespace Go.Av
open Go.RowKit
open Go.Proofs.Tryz (prog)
end Go.Av
namespace Go.Av
open Go.RowKit
open Go.Proofs.Tryz (prog)
end Go.Av
namespace Go.Av
open Go.RowKit
open Go.Proofs.Tryz (prog)
def Asc (Hs : List (List Pt)) : Prop := ∀ i, 0 < i → i < Hs.length → cmpH (Hs.getD (i - 1) []) (Hs.getD i []) < 0
theorem Fine.asc {O : List Rp} {hs : List (List Rp)} (h : Fine O hs) : Asc (hs.map pts) := by
 have get : ∀ i, i < hs.length → (hs.map pts).getD i [] = pts (hs.getD i []) := fun i hi => by
  rw [List.getD_eq_getElem?_getD, List.getD_eq_getElem?_getD, List.getElem?_map, List.getElem?_eq_getElem hi]; rfl
 intro i h0 hi
 rw [List.length_map] at hi
 rw [get i hi, get (i - 1) (by omega)]
 have hz := h.hz i hi
 unfold chkH at hz
 rw [if_neg (by intro h2; exact h2 (chkH_ring (h.hz i hi)))] at hz
 split at hz
 ·cases hz
 split at hz
 ·cases hz
 split at hz
 ·cases hz
 split at hz
 ·cases hz
 ·rename_i hx
  unfold cmpH
  exact Int.not_le.1 fun hle => hx ⟨h0, hle⟩
end Go.Av
namespace Go.Av
open Go.RowKit
open Go.Proofs.Tryz (prog)
end Go.Av
