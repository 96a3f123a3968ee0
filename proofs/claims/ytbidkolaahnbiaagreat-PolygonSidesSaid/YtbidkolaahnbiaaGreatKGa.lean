/- Helping texts: Gb, Gc, Ga, Gd, Ge, Gf, Gg. -/
import Derived.Test.YtbidkolaahnbiaaGreatKFa
import Derived.Test.YtbidkolaahnbiaaGreatKMh
import Derived.Test.YtbidkolaahnbiaaGreatKDj
import Derived.Test.YtbidkolaahnbiaaGreatKMb
set_option linter.unusedSimpArgs false
set_option linter.unusedVariables false
set_option maxRecDepth 100000
set_option maxHeartbeats 16000000
open Nat (reduceAdd reduceLT reduceLeDiff reducePow reduceDiv reduceMod reduceEqDiff)
namespace Go.Av
open Go.RowKit
open Go.Proofs.Tryz (prog)
end Go.Av
set_option maxRecDepth 100000
set_option maxHeartbeats 16000000
open Nat (reduceAdd reduceLT reduceLeDiff reducePow reduceDiv reduceMod reduceEqDiff)
namespace Go.Av
open Go.RowKit
open Go.Proofs.Tryz (prog)
theorem Fits.can {t : Aff} {L : List Pt} {Hs : List (List Pt)} (hf : Fits t L Hs) (ht : t.det ≠ 0) (hv : Valid L Hs) : ∀ l ∈ (L.map t.ap) :: (Hs.map fun l => l.map t.ap), Can l := by
  have key : ∀ l, l ∈ L :: Hs → Ring l → Can (l.map t.ap) := fun l hl hr => by
    have g := hr.good.map ht
    exact ⟨g.lo, by rw [List.length_map]; exact hr.hi, hf l hl, g.keep, g.crossB⟩
  intro l hl
  rcases List.mem_cons.1 hl with rfl | hl
  · exact key L (List.mem_cons_self ..) hv.out
  · obtain ⟨h, hh, rfl⟩ := List.mem_map.1 hl
    exact key h (List.mem_cons_of_mem _ hh) (hv.holes h hh)
end Go.Av
set_option maxRecDepth 100000
set_option maxHeartbeats 16000000
open Nat (reduceAdd reduceLT reduceLeDiff reducePow reduceDiv reduceMod reduceEqDiff)
namespace Go.Av
open Go.RowKit
open Go.Proofs.Tryz (prog)
end Go.Av
set_option maxRecDepth 100000
set_option maxHeartbeats 16000000
open Nat (reduceAdd reduceLT reduceLeDiff reducePow reduceDiv reduceMod reduceEqDiff)
namespace Go.Av
open Go.RowKit
open Go.Proofs.Tryz (prog)
variable {L : List Pt} {Hs : List (List Pt)}
end Go.Av
set_option maxRecDepth 100000
set_option maxHeartbeats 16000000
open Nat (reduceAdd reduceLT reduceLeDiff reducePow reduceDiv reduceMod reduceEqDiff)
namespace Go.Av
open Go.RowKit
open Go.Proofs.Tryz (prog)
theorem ptV_pV {p : Rp} (h : p.x = can p.x.val ∧ p.y = can p.y.val) : ptV p.x p.y = pV ⟨p.x.val, p.y.val⟩ := by
  show ptV p.x p.y = ptV (can p.x.val) (can p.y.val)
  rw [← h.1, ← h.2]
end Go.Av
set_option maxRecDepth 100000
set_option maxHeartbeats 16000000
open Nat (reduceAdd reduceLT reduceLeDiff reducePow reduceDiv reduceMod reduceEqDiff)
namespace Go.Av
open Go.RowKit
open Go.Proofs.Tryz (prog)
end Go.Av
set_option maxRecDepth 100000
set_option maxHeartbeats 16000000
namespace Go.Av
open Go.RowKit
open Go.Proofs.Tryz (prog)
/-- Every number of a map is short. -/
def Aff.le (t : Aff) (A : Nat) : Prop := ht t.a ≤ A ∧ ht t.b ≤ A ∧ ht t.c ≤ A ∧ ht t.d ≤ A ∧ ht t.e ≤ A ∧ ht t.f ≤ A
theorem Valid.inside_pc {L : List Pt} {Hs : List (List Pt)} (h : Valid L Hs) (q : Pt) (hq : hp q ≤ 2 ^ 16) : PC prog 44 [cgV L Hs, pV q] (.tup [.prim (.int .i64 (whereS L Hs q)), .prim (.int .i64 (0))]) := by
  have := InsideP_pc h.fine q (by omega)
  have e : Hs.map (pts ∘ fun l => l.map Pt.rp) = Hs := by
    conv => rhs; rw [← List.map_id Hs]
    exact List.map_congr_left fun l _ => pts_rp l
  rw [pts_rp, List.map_map, e] at this
  exact this
end Go.Av
