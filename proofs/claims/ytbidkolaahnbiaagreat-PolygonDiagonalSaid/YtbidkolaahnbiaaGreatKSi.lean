/- Helping texts: Si, Sk, Sj. -/
import Derived.Test.YtbidkolaahnbiaaGreatKSg
import Derived.Test.YtbidkolaahnbiaaGreatKGa
import Derived.Test.YtbidkolaahnbiaaGreatKSe
set_option linter.unusedSimpArgs false
set_option linter.unusedVariables false
set_option maxRecDepth 100000
set_option maxHeartbeats 16000000
namespace Go.Av
open Go.RowKit
open Go.Proofs.Tryz (prog)
end Go.Av
namespace Go.Av
open Go.RowKit
open Go.Proofs.Tryz (prog)
variable {L : List Pt} {Hs : List (List Pt)}
theorem Valid.rcheck_pc (h : Valid L Hs) : PC prog 75 [cgV L Hs] (.prim (.int .i64 (0))) := by
 have hf := h.fine
 have := rcheckP_pc (L.map Pt.rp) (Hs.map fun l => l.map Pt.rp) (by rw [List.length_map]; have := h.few; omega) (by rw [List.length_map]; have := h.out.hi; omega) hf.kO (fun l hl => by
  obtain ⟨m, hm, rfl⟩ := List.mem_map.1 hl
  exact ⟨by rw [List.length_map]; have := (h.holes m hm).hi; omega, (hf.kh _ hl).2⟩)
 rw [hf.chk, ← cg_pg] at this
 exact this
end Go.Av
namespace Go.Av
open Go.RowKit
open Go.Proofs.Tryz (prog)
structure Small (O : List Rp) (hs : List (List Rp)) : Prop where
 n : hs.length < 2 ^ 40
 nO : O.length < 2 ^ 40
 kO : ∀ p ∈ O, p.le (2 ^ 16)
 kh : ∀ l ∈ hs, l.length < 2 ^ 40 ∧ ∀ p ∈ l, p.le (2 ^ 16)
theorem Small.check {O : List Rp} {hs : List (List Rp)} (h : Small O hs) : PC prog 74 [pgV O hs] (.prim (.int .i64 (chkP O hs))) :=
 Pcheck_pc O hs (by have := h.n; omega) (by have := h.nO; omega) h.kO fun l hl => ⟨by have := (h.kh l hl).1; omega, (h.kh l hl).2⟩
end Go.Av
