/- Helping texts: Fd, Fe, Fg. -/
import Derived.Test.YtbidkolaahnbiaaGreatKFa
import Derived.Test.YtbidkolaahnbiaaGreatKDq
set_option linter.unusedSimpArgs false
set_option linter.unusedVariables false
namespace Go.Av
open Go.RowKit
open Go.Proofs.Tryz (prog)
theorem leastTo_in {L : List Pt} (h : 0 < L.length) : leastTo L L.length < L.length := leastTo_lt h
end Go.Av
namespace Go.Av
open Go.RowKit
open Go.Proofs.Tryz (prog)
def cmpH (a b : List Pt) : Int := cmpP (a.getD 0 default) (b.getD 0 default)
end Go.Av
namespace Go.Av
open Go.RowKit
open Go.Proofs.Tryz (prog)
/-- A list of which a ring is made, with nothing removed. -/
structure Can (l : List Pt) : Prop where
  lo : 3 ≤ l.length
  hi : l.length ≤ 64
  ht : hl l (2 ^ 16)
  kp : keepAll l
  cx : crossB l = false
theorem startL_length {m : List Pt} (h : 0 < m.length) : (startL m).length = m.length := rotL_length (Nat.le_of_lt (leastTo_in h))
theorem canonL_length {l : List Pt} (h : 0 < l.length) : (canonL l).length = l.length := by
  unfold canonL
  split
  · rw [startL_length (by rw [List.length_reverse]; exact h), List.length_reverse]
  · exact startL_length h
theorem startL_mem {m : List Pt} {p : Pt} (h : p ∈ startL m) : p ∈ m := by
  rcases List.mem_append.1 h with h | h
  · exact List.mem_of_mem_drop h
  · exact List.mem_of_mem_take h
theorem canonL_mem {l : List Pt} {p : Pt} (h : p ∈ canonL l) : p ∈ l := by
  unfold canonL at h
  split at h
  · exact List.mem_reverse.1 (startL_mem h)
  · exact startL_mem h
theorem Can.get {L : List Pt} {Hs : List (List Pt)} (h : ∀ l ∈ L :: Hs, Can l) {i : Nat} (hi : i ≤ Hs.length) : Can ((L :: Hs).getD i []) := by
  rw [List.getD_eq_getElem?_getD, List.getElem?_eq_getElem (by simp only [List.length_cons]; omega)]
  exact h _ (List.getElem_mem _)

end Go.Av
