/- Helping texts: Sq. -/
import Derived.Test.YtbidkolaahnbiaaGreatKSp
import Derived.Test.YtbidkolaahnbiaaGreatKGa
set_option linter.unusedSimpArgs false
set_option linter.unusedVariables false
set_option maxRecDepth 100000
set_option maxHeartbeats 16000000
namespace Go.Av
open Go.RowKit
open Go.Proofs.Tryz (prog)
variable {O : List Rp} {hs : List (List Rp)}
theorem good_of (hg : greatP O hs = false) (z : chkP O hs = 0) : Fine O hs ∧ hs.length ≤ 3 ∧ hlP (pts O) (hs.map pts) 12 := by
 obtain ⟨h1, h2, h3, h4⟩ := greatP_small hg
 obtain ⟨l1, l2⟩ := greatP_12 hg
 have hf : Fine O hs := ⟨z, h2, h4⟩
 have h8 := hf.few
 refine ⟨hf, ?_, ?_⟩
 ·unfold greatP at hg
  simp only [Bool.or_eq_false_iff, decide_eq_false_iff_not] at hg
  omega
 ·intro l hl
  rcases List.mem_cons.1 hl with rfl | hl
  ·exact hl_pts (chkR_ok hf.o0) l1 (by omega)
  ·obtain ⟨l0, h0, rfl⟩ := List.mem_map.1 hl
   refine hl_pts (chkR_ok (hf.hr l0 h0)) (fun p hp => ?_) (by omega)
   obtain ⟨i, hi, rfl⟩ := List.mem_iff_getElem.1 h0
   refine l2 i hi (by omega) p ?_
   rw [List.getD_eq_getElem?_getD, List.getElem?_eq_getElem hi]; exact hp
theorem small_of (hg : greatP O hs = false) : Small O hs := by
 obtain ⟨h1, h2, h3, h4⟩ := greatP_small hg
 refine ⟨by omega, by omega, h2, fun l hl => ⟨?_, (h4 l hl).2⟩⟩
 obtain ⟨i, hi, rfl⟩ := List.mem_iff_getElem.1 hl
 unfold greatP at hg
 simp only [Bool.or_eq_false_iff, decide_eq_false_iff_not] at hg
 obtain ⟨_, _, _, k4, _⟩ := hg
 have := anyTo_get k4 (i := i) (by omega)
 simp only [Bool.or_eq_false_iff, decide_eq_false_iff_not] at this
 have := this.1
 rw [List.getD_eq_getElem?_getD, List.getElem?_eq_getElem hi] at this
 simp only [Option.getD_some] at this
 omega
end Go.Av
