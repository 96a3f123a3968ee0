/- Helping texts: Gb, Gc, Ga, Gd, Ge, Gf, Gg. -/
import Derived.Test.YtbidkolaahnbiaaGreatKFd
import Derived.Test.YtbidkolaahnbiaaGreatKMf
import Derived.Test.YtbidkolaahnbiaaGreatKDh
import Derived.Test.YtbidkolaahnbiaaGreatKMb
set_option linter.unusedSimpArgs false
set_option linter.unusedVariables false
set_option maxRecDepth 100000
set_option maxHeartbeats 16000000
namespace Go.Av
open Go.RowKit
open Go.Proofs.Tryz (prog)
end Go.Av
namespace Go.Av
open Go.RowKit
open Go.Proofs.Tryz (prog)
end Go.Av
namespace Go.Av
open Go.RowKit
open Go.Proofs.Tryz (prog)
end Go.Av
namespace Go.Av
open Go.RowKit
open Go.Proofs.Tryz (prog)
variable {L : List Pt} {Hs : List (List Pt)}
end Go.Av
namespace Go.Av
open Go.RowKit
open Go.Proofs.Tryz (prog)
theorem greatP_12 {O : List Rp} {hs : List (List Rp)} (h : greatP O hs = false) : (∀ p ∈ O, p.le 12) ∧ ∀ i, i < hs.length → i < 11 → ∀ p ∈ hs.getD i [], p.le 12 := by
 unfold greatP at h
 simp only [Bool.or_eq_false_iff, decide_eq_false_iff_not] at h
 obtain ⟨h1, h2, h3, h4, h5, h6⟩ := h
 have one : ∀ {l : List Rp}, greatL l = false → ∀ p ∈ l, p.le 12 := by
  intro l hl p hp
  obtain ⟨i, hi, rfl⟩ := List.mem_iff_getElem.1 hp
  have := anyTo_get hl hi
  rw [List.getD_eq_getElem?_getD, List.getElem?_eq_getElem hi] at this
  unfold bigP at this
  simp only [Option.getD_some, Bool.or_eq_false_iff, decide_eq_false_iff_not] at this
  exact ⟨⟨by omega, by omega⟩, ⟨by omega, by omega⟩⟩
 refine ⟨one h3, fun i hi h11 => ?_⟩
 have := anyTo_get h4 (i := i) (by omega)
 simp only [Bool.or_eq_false_iff, decide_eq_false_iff_not] at this
 exact one this.2
theorem Rt.le_mono {r : Rt} {a b : Nat} (h : r.le a) (hab : a ≤ b) : r.le b := ⟨Nat.le_trans h.1 hab, Nat.le_trans h.2 hab⟩
end Go.Av
namespace Go.Av
open Go.RowKit
open Go.Proofs.Tryz (prog)
end Go.Av
namespace Go.Av
open Go.RowKit
open Go.Proofs.Tryz (prog)
theorem chkR_ok {l : List Rp} (h : chkR l = 0) : allOk l = true := by
 unfold chkR at h
 split at h
 ·cases h
 ·split at h
  ·assumption
  ·cases h
def Aff.le (t : Aff) (A : Nat) : Prop := ht t.a ≤ A ∧ ht t.b ≤ A ∧ ht t.c ≤ A ∧ ht t.d ≤ A ∧ ht t.e ≤ A ∧ ht t.f ≤ A
def hlP (L : List Pt) (Hs : List (List Pt)) (k : Nat) : Prop := ∀ l ∈ L :: Hs, hl l k
end Go.Av
