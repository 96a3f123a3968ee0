/- Helping texts: Sp. -/
import Derived.Test.YtbidkolaahnbiaaGreatKSl
set_option linter.unusedSimpArgs false
set_option linter.unusedVariables false
set_option maxRecDepth 100000
set_option maxHeartbeats 16000000
namespace Go.Av
open Go.RowKit
open Go.Proofs.Tryz (prog)
def Rp.can (p : Rp) : Prop := p.x = Av.can p.x.val ∧ p.y = Av.can p.y.val
variable {O : List Rp} {hs : List (List Rp)}
theorem Small.rcheck (h : Small O hs) : PC prog 75 [pgV O hs] (.prim (.int .i64 (chkP O hs))) := rcheckP_pc O hs h.n h.nO h.kO h.kh
theorem Rp.le32 {p : Rp} (h : p.le (2 ^ 20)) : p.x.le (2 ^ 32) ∧ p.y.le (2 ^ 32) := ⟨Rt.le_mono h.1 (by omega), Rt.le_mono h.2 (by omega)⟩
theorem moveBad_pc (h : Small O hs) (v : Rp) (hv : v.le (2 ^ 20)) (hbad : chkP O hs ≠ 0 ∨ ¬ v.can) : PC prog 18 [pgV O hs, ptV v.x v.y] (noV 1) := by
 have c := vcheck_pc v.x v.y (Rp.le32 hv).1 (Rp.le32 hv).2
 by_cases hc : v.x = can v.x.val ∧ v.y = can v.y.val
 ·rw [if_pos hc] at c
  refine PCi ?_
  conv in trip _ _ => cbv
  simp only [runT, RN, simprocAttr]
  simp (disch := omega) only [↓RS, RZ, simprocAttr, pgV, hsV, rpsV, ptV]
  refine cX c ?_
  simp (disch := omega) only [↓RS, RZ, simprocAttr]
  refine callD_qc (noV 1) none ⟨rfl, trivial⟩ (fun H0 h0 => mappedBad_sc h true (.inl (hbad.resolve_right fun k => k hc)) (fun H' hE' => ⟨rfl, fun c k h => hE'.get h⟩)) ?_
  simp (disch := omega) only [↓RS, RZ, simprocAttr, noV, setO]
 ·rw [if_neg hc] at c
  refine PCi ?_
  conv in trip _ _ => cbv
  simp only [runT, RN, simprocAttr]
  simp (disch := omega) only [↓RS, RZ, simprocAttr, pgV, hsV, rpsV, ptV]
  refine cX c ?_
  simp (disch := omega) only [↓RS, RZ, simprocAttr]
  refine callD_qc (noV 1) none ⟨rfl, trivial⟩ (fun H0 h0 => mappedBad_sc h false (.inr rfl) (fun H' hE' => ⟨rfl, fun c k h => hE'.get h⟩)) ?_
  simp (disch := omega) only [↓RS, RZ, simprocAttr, noV, setO]
theorem rmoveBad_pc (h : Small O hs) (v : Rp) (hv : v.le (2 ^ 20)) (hbad : chkP O hs ≠ 0 ∨ ¬ v.can) : PC prog 19 [pgV O hs, ptV v.x v.y] (noV 1) := by
 have ck := h.rcheck
 by_cases hz : chkP O hs = 0
 ·have c := rvcheck_pc v.x v.y (Rp.le32 hv).1 (Rp.le32 hv).2
  rw [if_neg (show ¬ (v.x = can v.x.val ∧ v.y = can v.y.val) from hbad.resolve_left fun k => k hz)] at c
  rw [hz] at ck
  refine PCi ?_
  conv in trip _ _ => cbv
  simp only [runT, RN, simprocAttr]
  simp (disch := omega) only [↓RS, RZ, simprocAttr, pgV, hsV, rpsV, ptV]
  refine cX ck ?_
  simp (disch := omega) only [↓RS, RZ, simprocAttr, hsV, rpsV]
  refine cX c ?_
  simp (disch := omega) only [↓RS, RZ, simprocAttr, noV]
 ·generalize chkP O hs = z at *
  refine PCi ?_
  conv in trip _ _ => cbv
  simp only [runT, RN, simprocAttr]
  simp (disch := omega) only [↓RS, RZ, simprocAttr, pgV, hsV, rpsV, ptV]
  refine cX ck ?_
  simp (disch := omega) only [↓RS, RZ, simprocAttr, noV]
theorem mirrorBad_pc (h : Small O hs) (hbad : chkP O hs ≠ 0) : PC prog 27 [pgV O hs] (noV 1) := by
 refine PCi ?_
 conv in trip _ _ => cbv
 simp only [runT, RN, simprocAttr]
 simp (disch := omega) only [↓RS, RZ, simprocAttr, pgV, hsV, rpsV]
 refine call_sc (mappedBad_sc h true (.inl hbad) ?_)
 intro H' hE
 have e1 : get H' 1 = some (.row 2 true [[.prim (.slice none 0 0), .prim (.slice none 0 0)]]) := hE.get rfl
 have s1 : ∀ x, get (H'.set 1 x) 1 = x := fun x => get_eq (get_lt_len e1)
 simp (disch := omega) only [↓RS, RZ, simprocAttr, noV, e1, s1]
theorem rmirrorBad_pc (h : Small O hs) (hbad : chkP O hs ≠ 0) : PC prog 28 [pgV O hs] (noV 1) := by
 have ck := h.rcheck
 generalize chkP O hs = z at *
 refine PCi ?_
 conv in trip _ _ => cbv
 simp only [runT, RN, simprocAttr]
 simp (disch := omega) only [↓RS, RZ, simprocAttr, pgV, hsV, rpsV]
 refine cX ck ?_
 simp (disch := omega) only [↓RS, RZ, simprocAttr, noV]
theorem scaleBad_pc (h : Small O hs) (k : Rt) (hk : k.le (2 ^ 20)) (hbad : chkP O hs ≠ 0 ∨ ¬ k = can k.val) : PC prog 29 [pgV O hs, rV k] (noV 1) := by
 have c := checkR2_pc k (Rt.le_mono hk (by omega))
 have ck := h.check
 have fin : ∀ {H' : Hp}, get H' 2 = some (.row 2 true [[.prim (.slice none 0 0), .prim (.slice none 0 0)]]) → ∀ x, get (H'.set 2 x) 2 = x := fun e x => get_eq (get_lt_len e)
 by_cases hc : k = can k.val
 ·have hz : chkP O hs ≠ 0 := hbad.resolve_right fun j => j hc
  have bad := fun H K hK => @mappedBad_sc O hs h true (.inl hz) 94 [.ptr 1 0 0] H K hK
  rw [if_pos hc] at c
  have s : PC prog 36 [rV k] (.prim (.int .i64 (cmpQ k.val 0))) := by
   have := signQ_pc k.val (by rw [hc] at hk; have := ht_of_le hk (by omega); omega)
   rw [show qV k.val = rV (can k.val) from rfl, ← hc] at this
   exact this
  by_cases h0 : cmpQ k.val 0 = 0
  ·rw [h0] at s
   generalize chkP O hs = z at *
   refine PCi ?_
   conv in trip _ _ => cbv
   simp only [runT, RN, simprocAttr]
   simp (disch := omega) only [↓RS, RZ, simprocAttr, pgV, hsV, rpsV, rV]
   refine cX c ?_
   simp (disch := omega) only [↓RS, RZ, simprocAttr]
   refine cX s ?_
   simp (disch := omega) only [↓RS, RZ, simprocAttr, hsV, rpsV]
   refine cX ck ?_
   simp (disch := omega) only [↓RS, RZ, simprocAttr]
   refine call_sc (bad _ _ ?_)
   intro H' hE
   have e1 : get H' 2 = some (.row 2 true [[.prim (.slice none 0 0), .prim (.slice none 0 0)]]) := hE.get rfl
   have s1 := fin e1
   simp (disch := omega) only [↓RS, RZ, simprocAttr, noV, e1, s1]
  ·generalize cmpQ k.val 0 = y at *
   refine PCi ?_
   conv in trip _ _ => cbv
   simp only [runT, RN, simprocAttr]
   simp (disch := omega) only [↓RS, RZ, simprocAttr, pgV, hsV, rpsV, rV]
   refine cX c ?_
   simp (disch := omega) only [↓RS, RZ, simprocAttr]
   refine cX s ?_
   simp (disch := omega) only [↓RS, RZ, simprocAttr, hsV, rpsV]
   refine call_sc (bad _ _ ?_)
   intro H' hE
   have e1 : get H' 2 = some (.row 2 true [[.prim (.slice none 0 0), .prim (.slice none 0 0)]]) := hE.get rfl
   have s1 := fin e1
   simp (disch := omega) only [↓RS, RZ, simprocAttr, noV, e1, s1]
 ·have bad := fun H K hK => @mappedBad_sc O hs h false (.inr rfl) 94 [.ptr 1 0 0] H K hK
  rw [if_neg hc] at c
  refine PCi ?_
  conv in trip _ _ => cbv
  simp only [runT, RN, simprocAttr]
  simp (disch := omega) only [↓RS, RZ, simprocAttr, pgV, hsV, rpsV, rV]
  refine cX c ?_
  simp (disch := omega) only [↓RS, RZ, simprocAttr]
  refine call_sc (bad _ _ ?_)
  intro H' hE
  have e1 : get H' 2 = some (.row 2 true [[.prim (.slice none 0 0), .prim (.slice none 0 0)]]) := hE.get rfl
  have s1 := fin e1
  simp (disch := omega) only [↓RS, RZ, simprocAttr, noV, e1, s1]
theorem rscaleBad_pc (h : Small O hs) (k : Rt) (hk : k.le (2 ^ 20)) (hbad : chkP O hs ≠ 0 ∨ ¬ k = can k.val) : PC prog 30 [pgV O hs, rV k] (noV 1) := by
 have ck := h.rcheck
 by_cases hz : chkP O hs = 0
 ·have c := rcheckR_pc k (Rt.le_mono hk (by omega))
  rw [if_neg (hbad.resolve_left fun j => j hz)] at c
  rw [hz] at ck
  refine PCi ?_
  conv in trip _ _ => cbv
  simp only [runT, RN, simprocAttr]
  simp (disch := omega) only [↓RS, RZ, simprocAttr, pgV, hsV, rpsV, rV]
  refine cX ck ?_
  simp (disch := omega) only [↓RS, RZ, simprocAttr, hsV, rpsV]
  refine cX c ?_
  simp (disch := omega) only [↓RS, RZ, simprocAttr, noV]
 ·generalize chkP O hs = z at *
  refine PCi ?_
  conv in trip _ _ => cbv
  simp only [runT, RN, simprocAttr]
  simp (disch := omega) only [↓RS, RZ, simprocAttr, pgV, hsV, rpsV, rV]
  refine cX ck ?_
  simp (disch := omega) only [↓RS, RZ, simprocAttr, noV]
theorem shearBad_pc (h : Small O hs) (k : Rt) (hk : k.le (2 ^ 20)) (hbad : chkP O hs ≠ 0 ∨ ¬ k = can k.val) : PC prog 31 [pgV O hs, rV k] (noV 1) := by
 have c := checkR2_pc k (Rt.le_mono hk (by omega))
 by_cases hc : k = can k.val
 ·rw [if_pos hc] at c
  refine PCi ?_
  conv in trip _ _ => cbv
  simp only [runT, RN, simprocAttr]
  simp (disch := omega) only [↓RS, RZ, simprocAttr, pgV, hsV, rpsV, rV]
  refine cX c ?_
  simp (disch := omega) only [↓RS, RZ, simprocAttr]
  refine callD_qc (noV 1) none ⟨rfl, trivial⟩ (fun H0 h0 => mappedBad_sc h true (.inl (hbad.resolve_right fun k => k hc)) (fun H' hE' => ⟨rfl, fun c k h => hE'.get h⟩)) ?_
  simp (disch := omega) only [↓RS, RZ, simprocAttr, noV, setO]
 ·rw [if_neg hc] at c
  refine PCi ?_
  conv in trip _ _ => cbv
  simp only [runT, RN, simprocAttr]
  simp (disch := omega) only [↓RS, RZ, simprocAttr, pgV, hsV, rpsV, rV]
  refine cX c ?_
  simp (disch := omega) only [↓RS, RZ, simprocAttr]
  refine callD_qc (noV 1) none ⟨rfl, trivial⟩ (fun H0 h0 => mappedBad_sc h false (.inr rfl) (fun H' hE' => ⟨rfl, fun c k h => hE'.get h⟩)) ?_
  simp (disch := omega) only [↓RS, RZ, simprocAttr, noV, setO]
theorem rshearBad_pc (h : Small O hs) (k : Rt) (hk : k.le (2 ^ 20)) (hbad : chkP O hs ≠ 0 ∨ ¬ k = can k.val) : PC prog 32 [pgV O hs, rV k] (noV 1) := by
 have ck := h.rcheck
 by_cases hz : chkP O hs = 0
 ·have c := rcheckR_pc k (Rt.le_mono hk (by omega))
  rw [if_neg (hbad.resolve_left fun j => j hz)] at c
  rw [hz] at ck
  refine PCi ?_
  conv in trip _ _ => cbv
  simp only [runT, RN, simprocAttr]
  simp (disch := omega) only [↓RS, RZ, simprocAttr, pgV, hsV, rpsV, rV]
  refine cX ck ?_
  simp (disch := omega) only [↓RS, RZ, simprocAttr, hsV, rpsV]
  refine cX c ?_
  simp (disch := omega) only [↓RS, RZ, simprocAttr, noV]
 ·generalize chkP O hs = z at *
  refine PCi ?_
  conv in trip _ _ => cbv
  simp only [runT, RN, simprocAttr]
  simp (disch := omega) only [↓RS, RZ, simprocAttr, pgV, hsV, rpsV, rV]
  refine cX ck ?_
  simp (disch := omega) only [↓RS, RZ, simprocAttr, noV]
theorem placeBad_pc (h : Small O hs) (r v : Rp) (hr : r.le (2 ^ 20)) (hv : v.le (2 ^ 20)) (hbad : chkP O hs ≠ 0 ∨ rotC r.x r.y ≠ 0 ∨ ¬ v.can) : PC prog 22 [pgV O hs, ptV r.x r.y, ptV v.x v.y] (noV 1) := by
 have rc := rotCheck_pc r.x r.y hr.1 hr.2
 have c := vcheck_pc v.x v.y (Rp.le32 hv).1 (Rp.le32 hv).2
 by_cases hrc : rotC r.x r.y = 0
 ·rw [hrc] at rc
  by_cases hc : v.x = can v.x.val ∧ v.y = can v.y.val
  ·rw [if_pos hc] at c
   refine PCi ?_
   conv in trip _ _ => cbv
   simp only [runT, RN, simprocAttr]
   simp (disch := omega) only [↓RS, RZ, simprocAttr, pgV, hsV, rpsV, ptV]
   refine cX rc ?_
   simp (disch := omega) only [↓RS, RZ, simprocAttr]
   refine cX c ?_
   simp (disch := omega) only [↓RS, RZ, simprocAttr]
   refine callD_qc (noV 1) none ⟨rfl, trivial⟩ (fun H0 h0 => mappedBad_sc h true (.inl (by
    rcases hbad with k | k | k
    ·exact k
    ·exact absurd hrc k
    ·exact absurd hc k)) (fun H' hE' => ⟨rfl, fun c k h => hE'.get h⟩)) ?_
   simp (disch := omega) only [↓RS, RZ, simprocAttr, noV, setO]
  ·rw [if_neg hc] at c
   refine PCi ?_
   conv in trip _ _ => cbv
   simp only [runT, RN, simprocAttr]
   simp (disch := omega) only [↓RS, RZ, simprocAttr, pgV, hsV, rpsV, ptV]
   refine cX rc ?_
   simp (disch := omega) only [↓RS, RZ, simprocAttr]
   refine cX c ?_
   simp (disch := omega) only [↓RS, RZ, simprocAttr]
   refine callD_qc (noV 1) none ⟨rfl, trivial⟩ (fun H0 h0 => mappedBad_sc h false (.inr rfl) (fun H' hE' => ⟨rfl, fun c k h => hE'.get h⟩)) ?_
   simp (disch := omega) only [↓RS, RZ, simprocAttr, noV, setO]
 ·generalize rotC r.x r.y = z at *
  refine PCi ?_
  conv in trip _ _ => cbv
  simp only [runT, RN, simprocAttr]
  simp (disch := omega) only [↓RS, RZ, simprocAttr, pgV, hsV, rpsV, ptV]
  refine cX rc ?_
  simp (disch := omega) only [↓RS, RZ, simprocAttr]
  refine callD_qc (noV 1) none ⟨rfl, trivial⟩ (fun H0 h0 => mappedBad_sc h false (.inr rfl) (fun H' hE' => ⟨rfl, fun c k h => hE'.get h⟩)) ?_
  simp (disch := omega) only [↓RS, RZ, simprocAttr, noV, setO]
theorem rplaceBad_pc (h : Small O hs) (r v : Rp) (hr : r.le (2 ^ 20)) (hv : v.le (2 ^ 20)) (hbad : chkP O hs ≠ 0 ∨ rotC r.x r.y ≠ 0 ∨ ¬ v.can) : PC prog 23 [pgV O hs, ptV r.x r.y, ptV v.x v.y] (noV 1) := by
 have ck := h.rcheck
 by_cases hz : chkP O hs = 0
 ·rw [hz] at ck
  have rc := rrotCheck_pc r.x r.y hr.1 hr.2
  by_cases hrc : rotC r.x r.y = 0
  ·rw [hrc] at rc
   have c := rvcheck_pc v.x v.y (Rp.le32 hv).1 (Rp.le32 hv).2
   rw [if_neg (show ¬ (v.x = can v.x.val ∧ v.y = can v.y.val) from by
    rcases hbad with k | k | k
    ·exact absurd hz k
    ·exact absurd hrc k
    ·exact k)] at c
   refine PCi ?_
   conv in trip _ _ => cbv
   simp only [runT, RN, simprocAttr]
   simp (disch := omega) only [↓RS, RZ, simprocAttr, pgV, hsV, rpsV, ptV]
   refine cX ck ?_
   simp (disch := omega) only [↓RS, RZ, simprocAttr, hsV, rpsV]
   refine cX rc ?_
   simp (disch := omega) only [↓RS, RZ, simprocAttr, hsV, rpsV]
   refine cX c ?_
   simp (disch := omega) only [↓RS, RZ, simprocAttr, noV]
  ·generalize rotC r.x r.y = z at *
   refine PCi ?_
   conv in trip _ _ => cbv
   simp only [runT, RN, simprocAttr]
   simp (disch := omega) only [↓RS, RZ, simprocAttr, pgV, hsV, rpsV, ptV]
   refine cX ck ?_
   simp (disch := omega) only [↓RS, RZ, simprocAttr, hsV, rpsV]
   refine cX rc ?_
   simp (disch := omega) only [↓RS, RZ, simprocAttr, noV]
 ·generalize chkP O hs = z at *
  refine PCi ?_
  conv in trip _ _ => cbv
  simp only [runT, RN, simprocAttr]
  simp (disch := omega) only [↓RS, RZ, simprocAttr, pgV, hsV, rpsV, ptV]
  refine cX ck ?_
  simp (disch := omega) only [↓RS, RZ, simprocAttr, noV]
end Go.Av
