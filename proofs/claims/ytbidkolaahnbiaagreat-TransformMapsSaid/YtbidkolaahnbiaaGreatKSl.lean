/- Helping texts: Sl. -/
import Derived.Test.YtbidkolaahnbiaaGreatKSi
set_option linter.unusedSimpArgs false
set_option linter.unusedVariables false
set_option maxRecDepth 100000
set_option maxHeartbeats 16000000
namespace Go.Av
open Go.RowKit
open Go.Proofs.Tryz (prog)
theorem rone_pc : PC prog 85 [] (qV 1) := by
 have o := rofR_pc 1 (by omega) (by omega)
 rw [show ((1 : Int) : Rat) = 1 from rfl] at o
 refine PCi ?_
 conv in trip _ _ => cbv
 simp only [runT, RN, simprocAttr]
 simp (disch := omega) only [↓RS, RZ, simprocAttr]
 refine cX o ?_
 simp (disch := omega) only [↓RS, RZ, simprocAttr, qV, rV]
 try rfl
variable {L : List Pt} {Hs : List (List Pt)}
theorem rmove_pc (hv : Valid L Hs) (h3 : Hs.length ≤ 3) (v : Pt) (h1 : hp v ≤ 2 ^ 20) (hf : Fits (moveA v) L Hs) : PC prog 19 [cgV L Hs, pV v] (.tup [cgV (imgL (moveA v) L) (imgH (moveA v) Hs), .prim (.int .i64 (0))]) := by
 have ck := hv.rcheck_pc
 have vc := rvcheckP_pc v h1
 have o := rone_pc
 have p := rpolygon_pc (t := moveA v) hv h3 (par_move v.x v.y) hf (le_move h1 (by omega))
 generalize imgL (moveA v) L = L2 at *
 generalize imgH (moveA v) Hs = H2 at *
 simp only [mpV, mpc, moveA, can_zero] at p
 refine PCi ?_
 conv in trip _ _ => cbv
 simp only [runT, RN, simprocAttr]
 simp (disch := omega) only [↓RS, RZ, simprocAttr, cgV, psV, pV, ptV]
 refine cX ck ?_
 simp (disch := omega) only [↓RS, RZ, simprocAttr, cgV, psV]
 refine cX vc ?_
 simp (disch := omega) only [↓RS, RZ, simprocAttr, cgV, psV]
 refine cX o ?_
 simp (disch := omega) only [↓RS, RZ, simprocAttr, qV, rV, ty_map]
 refine cX o ?_
 simp (disch := omega) only [↓RS, RZ, simprocAttr, qV, rV, ty_map]
 refine cX p ?_
 simp (disch := omega) only [↓RS, RZ, simprocAttr, cgV, psV]
theorem rmirror_pc (hv : Valid L Hs) (h3 : Hs.length ≤ 3) (hf : Fits mirA L Hs) : PC prog 28 [cgV L Hs] (.tup [cgV (imgL mirA L) (imgH mirA Hs), .prim (.int .i64 (0))]) := by
 have ck := hv.rcheck_pc
 have o := rone_pc
 have n := rofR_pc (-1) (by omega) (by omega)
 rw [show ((-1 : Int) : Rat) = -1 from rfl] at n
 obtain ⟨k1, k2, k3, k4, k5, k6⟩ := le_mir
 have p := rpolygon_pc (t := mirA) hv h3 par_mirror hf ⟨by omega, by omega, by omega, by omega, by omega, by omega⟩
 generalize imgL mirA L = L2 at *
 generalize imgH mirA Hs = H2 at *
 simp only [mpV, mpc, mirA, can_zero] at p
 refine PCi ?_
 conv in trip _ _ => cbv
 simp only [runT, RN, simprocAttr]
 simp (disch := omega) only [↓RS, RZ, simprocAttr, cgV, psV]
 refine cX ck ?_
 simp (disch := omega) only [↓RS, RZ, simprocAttr, cgV, psV]
 refine cX n ?_
 simp (disch := omega) only [↓RS, RZ, simprocAttr, qV, rV, ty_map]
 refine cX o ?_
 simp (disch := omega) only [↓RS, RZ, simprocAttr, qV, rV, ty_map]
 refine cX p ?_
 simp (disch := omega) only [↓RS, RZ, simprocAttr, cgV, psV]
theorem rcheckQ_pc (k : Rat) (h : ht k ≤ 2 ^ 20) : PC prog 95 [qV k] (.prim (.int .i64 (0))) := by
 have := rcheckR_pc (can k) (can_le (by omega))
 rw [can_val, if_pos rfl] at this
 exact this
theorem rscale_pc (hv : Valid L Hs) (h3 : Hs.length ≤ 3) (k : Rat) (h1 : ht k ≤ 2 ^ 20) (h0 : k ≠ 0) (hf : Fits (scaleA k) L Hs) : PC prog 30 [cgV L Hs, qV k] (.tup [cgV (imgL (scaleA k) L) (imgH (scaleA k) Hs), .prim (.int .i64 (0))]) := by
 have ck := hv.rcheck_pc
 have kc := rcheckQ_pc k h1
 have s := rsignQ_pc k (by omega)
 have hs0 : cmpQ k 0 ≠ 0 := fun e => h0 (cmpQ_zero.1 e)
 have p := rpolygon_pc (t := scaleA k) hv h3 (par_scale h0) hf (le_scale h1 (by omega))
 generalize imgL (scaleA k) L = L2 at *
 generalize imgH (scaleA k) Hs = H2 at *
 simp only [mpV, mpc, scaleA, can_zero] at p
 refine PCi ?_
 conv in trip _ _ => cbv
 simp only [runT, RN, simprocAttr]
 simp (disch := omega) only [↓RS, RZ, simprocAttr, cgV, psV, qV, rV]
 refine cX ck ?_
 simp (disch := omega) only [↓RS, RZ, simprocAttr, cgV, psV]
 refine cX kc ?_
 simp (disch := omega) only [↓RS, RZ, simprocAttr, cgV, psV]
 refine cX s ?_
 simp (disch := omega) only [↓RS, RZ, simprocAttr, qV, rV, ty_map]
 refine cX p ?_
 simp (disch := omega) only [↓RS, RZ, simprocAttr, cgV, psV]
theorem rscale0_pc (hv : Valid L Hs) : PC prog 30 [cgV L Hs, qV 0] (.tup [.agg [.prim (.slice none 0 0), .prim (.slice none 0 0)], .prim (.int .i64 (12))]) := by
 have ck := hv.rcheck_pc
 have z := ht_zero
 have kc := rcheckQ_pc 0 (by omega)
 have s := rsignQ_pc 0 (by omega)
 rw [cmpQ_zero.2 rfl] at s
 refine PCi ?_
 conv in trip _ _ => cbv
 simp only [runT, RN, simprocAttr]
 simp (disch := omega) only [↓RS, RZ, simprocAttr, cgV, psV, qV, rV]
 refine cX ck ?_
 simp (disch := omega) only [↓RS, RZ, simprocAttr, cgV, psV]
 refine cX kc ?_
 simp (disch := omega) only [↓RS, RZ, simprocAttr, cgV, psV]
 refine cX s ?_
 simp (disch := omega) only [↓RS, RZ, simprocAttr]
theorem rshear_pc (hv : Valid L Hs) (h3 : Hs.length ≤ 3) (k : Rat) (h1 : ht k ≤ 2 ^ 20) (hf : Fits (shA k) L Hs) : PC prog 32 [cgV L Hs, qV k] (.tup [cgV (imgL (shA k) L) (imgH (shA k) Hs), .prim (.int .i64 (0))]) := by
 have ck := hv.rcheck_pc
 have kc := rcheckQ_pc k h1
 have o := rone_pc
 have p := rpolygon_pc (t := shA k) hv h3 (par_shx k) hf (le_sh h1 (by omega))
 generalize imgL (shA k) L = L2 at *
 generalize imgH (shA k) Hs = H2 at *
 simp only [mpV, mpc, shA, can_zero] at p
 refine PCi ?_
 conv in trip _ _ => cbv
 simp only [runT, RN, simprocAttr]
 simp (disch := omega) only [↓RS, RZ, simprocAttr, cgV, psV, qV, rV]
 refine cX ck ?_
 simp (disch := omega) only [↓RS, RZ, simprocAttr, cgV, psV]
 refine cX kc ?_
 simp (disch := omega) only [↓RS, RZ, simprocAttr, cgV, psV]
 refine cX o ?_
 simp (disch := omega) only [↓RS, RZ, simprocAttr, qV, rV, ty_map]
 refine cX o ?_
 simp (disch := omega) only [↓RS, RZ, simprocAttr, qV, rV, ty_map]
 refine cX p ?_
 simp (disch := omega) only [↓RS, RZ, simprocAttr, cgV, psV]
theorem rrotCheck_pc (X Y : Rt) (h1 : X.le (2 ^ 20)) (h2 : Y.le (2 ^ 20)) : PC prog 88 [ptV X Y] (.prim (.int .i64 (rotC X Y))) := by
 have c1 := rcheckR_pc X ⟨by have := h1.1; omega, by have := h1.2; omega⟩
 have c2 := rcheckR_pc Y ⟨by have := h2.1; omega, by have := h2.2; omega⟩
 unfold rotC
 by_cases hx : X = can X.val
 ·rw [if_pos hx] at c1
  by_cases hy : Y = can Y.val
  ·rw [if_pos hy] at c2
   rw [if_pos ⟨hx, hy⟩]
   rw [hx] at h1
   rw [hy] at h2
   have k1 := ht_of_le h1 (by omega)
   have k2 := ht_of_le h2 (by omega)
   generalize X.val = a at *
   generalize Y.val = b at *
   subst hx
   subst hy
   have m1 := rmulQ_pc a a (by omega) (by omega)
   have m2 := rmulQ_pc b b (by omega) (by omega)
   have l1 := ht_mul a a
   have l2 := ht_mul b b
   have l3 := ht_add (a * a) (b * b)
   have l4 := ht_one
   have s := raddQ_pc (a * a) (b * b) (by omega) (by omega)
   have o := rofR_pc 1 (by omega) (by omega)
   rw [show ((1 : Int) : Rat) = 1 from rfl] at o
   have cc := rcmpQ_pc (a * a + b * b) 1 (by omega) (by omega)
   have z1 : cmpQ (a * a + b * b) 1 = 0 ↔ a * a + b * b = 1 := cmpQ_zero
   by_cases hs : a * a + b * b = 1
   ·rw [if_pos hs]
    rw [z1.2 hs] at cc
    refine PCi ?_
    conv in trip _ _ => cbv
    simp only [runT, RN, simprocAttr]
    simp (disch := omega) only [↓RS, RZ, simprocAttr, ptV]
    refine cX c1 ?_
    simp (disch := omega) only [↓RS, RZ, simprocAttr]
    refine cX c2 ?_
    simp (disch := omega) only [↓RS, RZ, simprocAttr]
    refine cX m1 ?_
    simp (disch := omega) only [↓RS, RZ, simprocAttr, qV, rV]
    refine cX m2 ?_
    simp (disch := omega) only [↓RS, RZ, simprocAttr, qV, rV]
    refine cX s ?_
    simp (disch := omega) only [↓RS, RZ, simprocAttr, qV, rV]
    refine cX o ?_
    simp (disch := omega) only [↓RS, RZ, simprocAttr, qV, rV]
    refine cX cc ?_
    simp (disch := omega) only [↓RS, RZ, simprocAttr]
   ·rw [if_neg hs]
    have hn : cmpQ (a * a + b * b) 1 ≠ 0 := fun e => hs (z1.1 e)
    refine PCi ?_
    conv in trip _ _ => cbv
    simp only [runT, RN, simprocAttr]
    simp (disch := omega) only [↓RS, RZ, simprocAttr, ptV]
    refine cX c1 ?_
    simp (disch := omega) only [↓RS, RZ, simprocAttr]
    refine cX c2 ?_
    simp (disch := omega) only [↓RS, RZ, simprocAttr]
    refine cX m1 ?_
    simp (disch := omega) only [↓RS, RZ, simprocAttr, qV, rV]
    refine cX m2 ?_
    simp (disch := omega) only [↓RS, RZ, simprocAttr, qV, rV]
    refine cX s ?_
    simp (disch := omega) only [↓RS, RZ, simprocAttr, qV, rV]
    refine cX o ?_
    simp (disch := omega) only [↓RS, RZ, simprocAttr, qV, rV]
    refine cX cc ?_
    simp (disch := omega) only [↓RS, RZ, simprocAttr]
  ·rw [if_neg hy] at c2
   rw [if_neg (fun h => hy h.2)]
   refine PCi ?_
   conv in trip _ _ => cbv
   simp only [runT, RN, simprocAttr]
   simp (disch := omega) only [↓RS, RZ, simprocAttr, ptV]
   refine cX c1 ?_
   simp (disch := omega) only [↓RS, RZ, simprocAttr]
   refine cX c2 ?_
   simp (disch := omega) only [↓RS, RZ, simprocAttr]
 ·rw [if_neg hx] at c1
  rw [if_neg (fun h => hx h.1)]
  refine PCi ?_
  conv in trip _ _ => cbv
  simp only [runT, RN, simprocAttr]
  simp (disch := omega) only [↓RS, RZ, simprocAttr, ptV]
  refine cX c1 ?_
  simp (disch := omega) only [↓RS, RZ, simprocAttr]
theorem rrotCheck0_pc (r : Pt) (h0 : hp r ≤ 2 ^ 20) (hr : isRot r) : PC prog 88 [pV r] (.prim (.int .i64 (0))) := by
 have h1 := hp_x r; have h2 := hp_y r
 have := rrotCheck_pc (can r.x) (can r.y) (can_le (by omega)) (can_le (by omega))
 have e : rotC (can r.x) (can r.y) = 0 := by
  unfold rotC; rw [can_val, can_val, if_pos ⟨rfl, rfl⟩, if_pos (show r.x * r.x + r.y * r.y = 1 from hr)]
 rw [e] at this
 exact this
theorem rplace_pc (hv : Valid L Hs) (h3 : Hs.length ≤ 3) (r v : Pt) (hr : isRot r) (h0 : hp r ≤ 2 ^ 20) (h1 : hp v ≤ 2 ^ 20) (hf : Fits (placeA r v) L Hs) :
 PC prog 23 [cgV L Hs, pV r, pV v] (.tup [cgV (imgL (placeA r v) L) (imgH (placeA r v) Hs), .prim (.int .i64 (0))]) := by
 have ck := hv.rcheck_pc
 have rc := rrotCheck0_pc r h0 hr
 have vc := rvcheckP_pc v h1
 have l1 := hp_y r
 have n := rnegQ_pc r.y (by omega)
 have p := rpolygon_pc (t := placeA r v) hv h3 (par_place hr v.x v.y) hf (le_place h0 h1)
 generalize imgL (placeA r v) L = L2 at *
 generalize imgH (placeA r v) Hs = H2 at *
 simp only [mpV, mpc, placeA] at p
 refine PCi ?_
 conv in trip _ _ => cbv
 simp only [runT, RN, simprocAttr]
 simp (disch := omega) only [↓RS, RZ, simprocAttr, cgV, psV, pV, ptV]
 refine cX ck ?_
 simp (disch := omega) only [↓RS, RZ, simprocAttr, cgV, psV]
 refine cX rc ?_
 simp (disch := omega) only [↓RS, RZ, simprocAttr, cgV, psV]
 refine cX vc ?_
 simp (disch := omega) only [↓RS, RZ, simprocAttr, cgV, psV]
 refine cX n ?_
 simp (disch := omega) only [↓RS, RZ, simprocAttr, qV, rV, ty_map]
 refine cX p ?_
 simp (disch := omega) only [↓RS, RZ, simprocAttr, cgV, psV]
theorem rturn_pc (hv : Valid L Hs) (h3 : Hs.length ≤ 3) (r : Pt) (hr : isRot r) (h0 : hp r ≤ 2 ^ 20) (hf : Fits (placeA r pt0) L Hs) :
 PC prog 21 [cgV L Hs, pV r] (.tup [cgV (imgL (placeA r pt0) L) (imgH (placeA r pt0) Hs), .prim (.int .i64 (0))]) := by
 have z := hp_pt0
 have p := rplace_pc hv h3 r pt0 hr h0 (by omega) hf
 have e : pV pt0 = ptV ⟨false, [], []⟩ ⟨false, [], []⟩ := by simp only [pV, pt0, can_zero]
 rw [e] at p
 refine PCi ?_
 conv in trip _ _ => cbv
 simp only [runT, RN, simprocAttr]
 simp (disch := omega) only [↓RS, RZ, simprocAttr, cgV, psV, pV, ptV]
 refine cX p ?_
 simp (disch := omega) only [↓RS, RZ, simprocAttr, cgV, psV]
theorem rflip_pc (hv : Valid L Hs) (h3 : Hs.length ≤ 3) (hf : Fits (scaleA (-1)) L Hs) : PC prog 26 [cgV L Hs] (.tup [cgV (imgL (scaleA (-1)) L) (imgH (scaleA (-1)) Hs), .prim (.int .i64 (0))]) := by
 have o := rofR_pc (-1) (by omega) (by omega)
 rw [show ((-1 : Int) : Rat) = -1 from rfl] at o
 have := ht_mone
 have s := rscale_pc hv h3 (-1) (by omega) (by decide +kernel) hf
 refine PCi ?_
 conv in trip _ _ => cbv
 simp only [runT, RN, simprocAttr]
 simp (disch := omega) only [↓RS, RZ, simprocAttr, cgV, psV]
 refine cX o ?_
 simp (disch := omega) only [↓RS, RZ, simprocAttr, qV, rV]
 refine cX s ?_
 simp (disch := omega) only [↓RS, RZ, simprocAttr, cgV, psV]
end Go.Av
