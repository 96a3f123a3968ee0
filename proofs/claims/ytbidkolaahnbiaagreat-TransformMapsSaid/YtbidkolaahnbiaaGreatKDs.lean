/- Helping texts: Ds, Dt, Du, Dv, Dw, Dx, Dy. -/
import Derived.Test.YtbidkolaahnbiaaGreatKDh
import Derived.Test.YtbidkolaahnbiaaGreatKDl
set_option linter.unusedSimpArgs false
set_option linter.unusedVariables false
set_option maxRecDepth 100000
set_option maxHeartbeats 16000000
namespace Go.Av
open Go.RowKit
open Go.Proofs.Tryz (prog)
theorem set_self {H : Hp} {b : Nat} {k : Blk} (h : get H b = some k) : H.set b (some k) = H := by
 refine List.ext_getElem? fun c => ?_
 rw [List.getElem?_set]
 split
 ·rename_i hc
  subst hc
  have hl := get_lt_len h
  rw [if_pos hl]
  simp only [get, List.getElem?_eq_getElem hl, Option.join_some] at h ⊢
  rw [h]
 ·rfl
def hq (l : List Rat) (k : Nat) : Prop := ∀ i, i < l.length → ht (l.getD i 0) ≤ k
end Go.Av
namespace Go.Av
open Go.RowKit
open Go.Proofs.Tryz (prog)
end Go.Av
namespace Go.Av
open Go.RowKit
open Go.Proofs.Tryz (prog)
end Go.Av
namespace Go.Av
open Go.RowKit
open Go.Proofs.Tryz (prog)
end Go.Av
namespace Go.Av
open Go.RowKit
open Go.Proofs.Tryz (prog)
end Go.Av
namespace Go.Av
open Go.RowKit
open Go.Proofs.Tryz (prog)
theorem hl_of {L : List Pt} {k : Nat} (hk : 1 ≤ k) (h : ∀ p ∈ L, ∃ x y : Int, p = ⟨x, y⟩ ∧ x.natAbs < 256 ∧ y.natAbs < 256) : hl L k := by
 intro p hp
 obtain ⟨x, y, rfl, hx, hy⟩ := h p hp
 exact Nat.le_trans (hp_mk (ht_int hx) (ht_int hy)) hk
end Go.Av
namespace Go.Av
open Go.RowKit
open Go.Proofs.Tryz (prog)
theorem hp_ints {x y : Int} (hx : x.natAbs < 256) (hy : y.natAbs < 256) : hp ⟨x, y⟩ ≤ 1 := hp_mk (ht_int hx) (ht_int hy)
end Go.Av
