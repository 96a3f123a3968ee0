/- Helping texts: Fa, Fs, Fb, Fc, Fd, Fe, Fg, Fh, Fi, Ft, Fj. -/
import Derived.Test.YtbidkolaahnbiaaGreatKDj
import Derived.Test.YtbidkolaahnbiaaGreatKAx
import Derived.Test.YtbidkolaahnbiaaGreatKDs
import Derived.Test.YtbidkolaahnbiaaGreatKMe
import Derived.Test.YtbidkolaahnbiaaGreatKDq
import Derived.Test.YtbidkolaahnbiaaGreatKDb
import Derived.Test.YtbidkolaahnbiaaGreatKMb
set_option linter.unusedSimpArgs false
set_option linter.unusedVariables false
set_option maxRecDepth 100000
set_option maxHeartbeats 16000000
open Nat (reduceAdd reduceLT reduceLeDiff reducePow reduceDiv reduceMod reduceEqDiff)
namespace Go.Av
open Go.RowKit
open Go.Proofs.Tryz (prog)
end Go.Av
set_option maxRecDepth 100000
set_option maxHeartbeats 16000000
namespace Go.Av
open Go.RowKit
variable {P : Program} {H : Hp}
structure FnS (P : Program) (f : FuncId) (k : Nat) (rs : List ResultVar) (lc : LC) : Prop where
  ex : ∃ fn c d x y, P.funcs[f]? = some fn ∧ fn.body = some (.seq c (.scope d)) ∧ lite c = some x ∧ lite d = some y ∧ rfOk c = true ∧ rfOk d = true ∧ (fn.name == "runtime.NumGoroutine") = false ∧ fn.ntmps = k ∧ fn.results.toList = rs ∧ lc = .seq x y
theorem FnS.call {f : FuncId} {k : Nat} {rs : List ResultVar} {lc : LC} (h : FnS P f k rs lc) (xs : Array Value) (W : World) : (callFunc f xs).run P W = .ok (.enter f xs) W := by
  obtain ⟨fn, c, d, x, y, h1, h2, _, _, _, _, h5, _⟩ := h.ex
  simp [callFunc, Sem.run_bind, h1, h2]
  simpa using h5
def lcS (P : Program) (f : FuncId) : LC := match P.funcs[f]? with
  | some fn => match fn.body with
    | some (.seq c (.scope d)) => .seq (liteF c) (liteF d)
    | _ => .skip
  | none => .skip
def fnS (P : Program) (f : FuncId) : Bool := match P.funcs[f]? with
  | some fn => match fn.body with
    | some (.seq c (.scope d)) => (lite c).isSome && (lite d).isSome && rfOk c && rfOk d && !(fn.name == "runtime.NumGoroutine")
    | _ => false
  | none => false
theorem FnS.of {f : FuncId} (h : fnS P f = true) : FnS P f (ntOf P f) (rsOf P f) (lcS P f) := by
  unfold fnS at h
  split at h
  · rename_i fn h1
    unfold ntOf rsOf lcS
    rw [h1]
    split at h
    · rename_i c d h2
      simp only [Bool.and_eq_true, Bool.not_eq_true'] at h
      obtain ⟨⟨⟨⟨p1, p2⟩, p3⟩, p4⟩, p5⟩ := h
      obtain ⟨x, hx⟩ := Option.isSome_iff_exists.1 p1
      obtain ⟨y, hy⟩ := Option.isSome_iff_exists.1 p2
      refine ⟨fn, c, d, x, y, h1, h2, hx, hy, p3, p4, p5, rfl, rfl, ?_⟩
      simp only [h2, liteF_eq c x hx, liteF_eq d y hy]
    · cases h
  · cases h
end Go.Av
set_option maxRecDepth 100000
set_option maxHeartbeats 16000000
open Nat (reduceAdd reduceLT reduceLeDiff reducePow reduceDiv reduceMod reduceEqDiff)
namespace Go.Av
open Go.RowKit
open Go.Proofs.Tryz (prog)
end Go.Av
set_option maxRecDepth 100000
set_option maxHeartbeats 16000000
open Nat (reduceAdd reduceLT reduceLeDiff reducePow reduceDiv reduceMod reduceEqDiff)
namespace Go.Av
open Go.RowKit
open Go.Proofs.Tryz (prog)
end Go.Av
set_option maxRecDepth 100000
set_option maxHeartbeats 16000000
open Nat (reduceAdd reduceLT reduceLeDiff reducePow reduceDiv reduceMod reduceEqDiff)
namespace Go.Av
open Go.RowKit
open Go.Proofs.Tryz (prog)
theorem leastTo_in {L : List Pt} (h : 0 < L.length) : leastTo L L.length < L.length := leastTo_lt h
end Go.Av
set_option maxRecDepth 100000
set_option maxHeartbeats 16000000
open Nat (reduceAdd reduceLT reduceLeDiff reducePow reduceDiv reduceMod reduceEqDiff)
namespace Go.Av
open Go.RowKit
open Go.Proofs.Tryz (prog)
def cmpH (a b : List Pt) : Int := cmpP (a.getD 0 default) (b.getD 0 default)
end Go.Av
set_option maxRecDepth 100000
set_option maxHeartbeats 16000000
open Nat (reduceAdd reduceLT reduceLeDiff reducePow reduceDiv reduceMod reduceEqDiff)
namespace Go.Av
open Go.RowKit
open Go.Proofs.Tryz (prog)
/-- A list of which a ring is made, with nothing removed. -/
structure Can (l : List Pt) : Prop where
  lo : 3 ≤ l.length
  hi : l.length ≤ 64
  ht : hl l (2 ^ 16)
  kp : keepAll l
  cx : crossB l = false
theorem startL_length {m : List Pt} (h : 0 < m.length) : (startL m).length = m.length := rotL_length (Nat.le_of_lt (leastTo_in h))
theorem canonL_length {l : List Pt} (h : 0 < l.length) : (canonL l).length = l.length := by
  unfold canonL
  split
  · rw [startL_length (by rw [List.length_reverse]; exact h), List.length_reverse]
  · exact startL_length h
theorem startL_mem {m : List Pt} {p : Pt} (h : p ∈ startL m) : p ∈ m := by
  rcases List.mem_append.1 h with h | h
  · exact List.mem_of_mem_drop h
  · exact List.mem_of_mem_take h
theorem canonL_mem {l : List Pt} {p : Pt} (h : p ∈ canonL l) : p ∈ l := by
  unfold canonL at h
  split at h
  · exact List.mem_reverse.1 (startL_mem h)
  · exact startL_mem h
theorem Can.get {L : List Pt} {Hs : List (List Pt)} (h : ∀ l ∈ L :: Hs, Can l) {i : Nat} (hi : i ≤ Hs.length) : Can ((L :: Hs).getD i []) := by
  rw [List.getD_eq_getElem?_getD, List.getElem?_eq_getElem (by simp only [List.length_cons]; omega)]
  exact h _ (List.getElem_mem _)

end Go.Av
set_option maxRecDepth 100000
set_option maxHeartbeats 16000000
open Nat (reduceAdd reduceLT reduceLeDiff reducePow reduceDiv reduceMod reduceEqDiff)
namespace Go.Av
open Go.RowKit
open Go.Proofs.Tryz (prog)
end Go.Av
set_option maxRecDepth 100000
set_option maxHeartbeats 16000000
open Nat (reduceAdd reduceLT reduceLeDiff reducePow reduceDiv reduceMod reduceEqDiff)
namespace Go.Av
open Go.RowKit
open Go.Proofs.Tryz (prog)
/-- The holes are in ascending order. -/
def Asc (Hs : List (List Pt)) : Prop := ∀ i, 0 < i → i < Hs.length → cmpH (Hs.getD (i - 1) []) (Hs.getD i []) < 0
theorem Fine.asc {O : List Rp} {hs : List (List Rp)} (h : Fine O hs) : Asc (hs.map pts) := by
  have get : ∀ i, i < hs.length → (hs.map pts).getD i [] = pts (hs.getD i []) := fun i hi => by
    rw [List.getD_eq_getElem?_getD, List.getD_eq_getElem?_getD, List.getElem?_map, List.getElem?_eq_getElem hi]; rfl
  intro i h0 hi
  rw [List.length_map] at hi
  rw [get i hi, get (i - 1) (by omega)]
  have hz := h.hz i hi
  unfold chkH at hz
  rw [if_neg (by intro h2; exact h2 (chkH_ring (h.hz i hi)))] at hz
  split at hz
  · cases hz
  split at hz
  · cases hz
  split at hz
  · cases hz
  split at hz
  · cases hz
  · rename_i hx
    unfold cmpH
    exact Int.not_le.1 fun hle => hx ⟨h0, hle⟩
theorem Ring.can {R : List Pt} (h : Ring R) : Can R := ⟨h.lo, h.hi, h.ht, h.good.keep, h.good.crossB⟩
end Go.Av
set_option maxRecDepth 100000
set_option maxHeartbeats 16000000
namespace Go.Av
open Go.RowKit
variable {P : Program} {H : Hp}
end Go.Av
set_option maxRecDepth 100000
set_option maxHeartbeats 16000000
open Nat (reduceAdd reduceLT reduceLeDiff reducePow reduceDiv reduceMod reduceEqDiff)
namespace Go.Av
open Go.RowKit
open Go.Proofs.Tryz (prog)
end Go.Av
