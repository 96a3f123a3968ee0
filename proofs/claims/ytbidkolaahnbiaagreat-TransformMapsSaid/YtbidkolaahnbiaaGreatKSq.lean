/- Helping texts: Sq, Sr. -/
import Derived.Test.YtbidkolaahnbiaaGreatKSp
import Derived.Test.YtbidkolaahnbiaaGreatKGa
set_option linter.unusedSimpArgs false
set_option linter.unusedVariables false
set_option maxRecDepth 100000
set_option maxHeartbeats 16000000
namespace Go.Av
open Go.RowKit
open Go.Proofs.Tryz (prog)
theorem PC_noR {P : Program} {f : FuncId} {us : List V} {z : Int} (h : PC P f us (noV z)) : PC P f us (.tup [.agg [.lst 6 [], .lst 1 []], .prim (.int .i64 (z))]) := by
 intro I w xs hI hxs
 obtain ⟨h1, h2⟩ := h I w xs hI hxs
 refine ⟨h1, h2.mono ?_⟩
 rintro e w' ⟨x, h3, h4, h5⟩
 refine ⟨x, h3, ?_, h5⟩
 unfold noV at h4
 cases h4 with
 | tup h1 hx =>
  refine .tup h1 fun k v x hv hxk => ?_
  match k, hv with
  | 0, hv => cases hv; exact VR_nil6 (hx 0 _ x rfl hxk)
  | 1, hv => exact hx 1 v x hv hxk
  | k + 2, hv => simp at hv
def Both (f g : FuncId) (args : List V) : Prop := ∃ A B z, PC prog f args (.tup [.agg [.lst 6 A, .lst 1 B], .prim (.int .i64 (z))]) ∧ PC prog g args (.tup [.agg [.lst 6 A, .lst 1 B], .prim (.int .i64 (z))]) ∧
 PC prog 24 [.agg [.lst 6 A, .lst 1 B], .agg [.lst 6 A, .lst 1 B]] (.prim (.bool true))
theorem Both.bad {f g : FuncId} {args : List V} {z : Int} (h1 : PC prog f args (noV z)) (h2 : PC prog g args (noV z)) : Both f g args := by
 refine ⟨[], [], z, PC_noR h1, PC_noR h2, ?_⟩
 have := rsameP_pc [] [] [] [] (by simp) (by simp) (by simp) (by simp) (by simp) (by simp)
 rw [decide_eq_true ⟨rfl, rfl⟩] at this
 exact this
theorem Both.good {f g : FuncId} {args : List V} {L : List Pt} {Hs : List (List Pt)} (hv : Valid L Hs) (h1 : PC prog f args (.tup [cgV L Hs, .prim (.int .i64 (0))])) (h2 : PC prog g args (.tup [cgV L Hs, .prim (.int .i64 (0))])) : Both f g args :=
 ⟨_, _, 0, h1, h2, rsameC_pc L Hs (by have := hv.out.hi; omega) (by have := hv.few; omega) fun l hl => by have := (hv.holes l hl).hi; omega⟩
variable {O : List Rp} {hs : List (List Rp)}
theorem good_of (hg : greatP O hs = false) (z : chkP O hs = 0) : Fine O hs ∧ hs.length ≤ 3 ∧ hlP (pts O) (hs.map pts) 12 := by
 obtain ⟨h1, h2, h3, h4⟩ := greatP_small hg
 obtain ⟨l1, l2⟩ := greatP_12 hg
 have hf : Fine O hs := ⟨z, h2, h4⟩
 have h8 := hf.few
 refine ⟨hf, ?_, ?_⟩
 ·unfold greatP at hg
  simp only [Bool.or_eq_false_iff, decide_eq_false_iff_not] at hg
  omega
 ·intro l hl
  rcases List.mem_cons.1 hl with rfl | hl
  ·exact hl_pts (chkR_ok hf.o0) l1 (by omega)
  ·obtain ⟨l0, h0, rfl⟩ := List.mem_map.1 hl
   refine hl_pts (chkR_ok (hf.hr l0 h0)) (fun p hp => ?_) (by omega)
   obtain ⟨i, hi, rfl⟩ := List.mem_iff_getElem.1 h0
   refine l2 i hi (by omega) p ?_
   rw [List.getD_eq_getElem?_getD, List.getElem?_eq_getElem hi]; exact hp
theorem small_of (hg : greatP O hs = false) : Small O hs := by
 obtain ⟨h1, h2, h3, h4⟩ := greatP_small hg
 refine ⟨by omega, by omega, h2, fun l hl => ⟨?_, (h4 l hl).2⟩⟩
 obtain ⟨i, hi, rfl⟩ := List.mem_iff_getElem.1 hl
 unfold greatP at hg
 simp only [Bool.or_eq_false_iff, decide_eq_false_iff_not] at hg
 obtain ⟨_, _, _, k4, _⟩ := hg
 have := anyTo_get k4 (i := i) (by omega)
 simp only [Bool.or_eq_false_iff, decide_eq_false_iff_not] at this
 have := this.1
 rw [List.getD_eq_getElem?_getD, List.getElem?_eq_getElem hi] at this
 simp only [Option.getD_some] at this
 omega
theorem le20 {p : Rp} (h : p.le 30) : p.le (2 ^ 20) := ⟨Rt.le_mono h.1 (by omega), Rt.le_mono h.2 (by omega)⟩
theorem rot_of {X Y : Rt} (h : rotC X Y = 0) : (X = can X.val ∧ Y = can Y.val) ∧ isRot ⟨X.val, Y.val⟩ := by
 unfold rotC at h
 split at h
 ·rename_i q1
  split at h
  ·rename_i q2; exact ⟨q1, q2⟩
  ·cases h
 ·cases h
theorem both_move (hg : greatP O hs = false) (sm : Small O hs) (v : Rp) (hv : v.le 30) : Both 18 19 [pgV O hs, ptV v.x v.y] := by
 by_cases hb : chkP O hs ≠ 0 ∨ ¬ v.can
 ·exact .bad (moveBad_pc sm v (le20 hv) hb) (rmoveBad_pc sm v (le20 hv) hb)
 ·rw [not_or, Decidable.not_not, Classical.not_not] at hb
  obtain ⟨hz, hc⟩ := hb
  obtain ⟨hf, h3, hl⟩ := good_of hg hz
  have hV := hp_raw hc hv
  have h3 : (hs.map pts).length ≤ 3 := by rw [List.length_map]; exact h3
  rw [hf.val, ptV_pV hc]
  generalize (⟨v.x.val, v.y.val⟩ : Pt) = W at *
  have ft : Fits (moveA W) (pts O) (hs.map pts) := hl.fits (le_move hV (by omega)) (by omega)
  exact .good (hf.valid.img h3 (t := moveA W) (par_move W.x W.y) ft) (move_pc hf.valid h3 W (by omega) ft) (rmove_pc hf.valid h3 W (by omega) ft)
theorem both_place (hg : greatP O hs = false) (sm : Small O hs) (r v : Rp) (hr : r.le 30) (hv : v.le 30) : Both 22 23 [pgV O hs, ptV r.x r.y, ptV v.x v.y] := by
 by_cases hb : chkP O hs ≠ 0 ∨ rotC r.x r.y ≠ 0 ∨ ¬ v.can
 ·exact .bad (placeBad_pc sm r v (le20 hr) (le20 hv) hb) (rplaceBad_pc sm r v (le20 hr) (le20 hv) hb)
 ·rw [not_or, not_or, Decidable.not_not, Decidable.not_not, Classical.not_not] at hb
  obtain ⟨hz, hrc, hc⟩ := hb
  obtain ⟨hf, h3, hl⟩ := good_of hg hz
  obtain ⟨c1, c2⟩ := rot_of hrc
  have hV := hp_raw hc hv
  have hR := hp_raw c1 hr
  have h3 : (hs.map pts).length ≤ 3 := by rw [List.length_map]; exact h3
  rw [hf.val, ptV_pV hc, ptV_pV c1]
  generalize (⟨v.x.val, v.y.val⟩ : Pt) = W at *
  generalize (⟨r.x.val, r.y.val⟩ : Pt) = R at *
  have ft : Fits (placeA R W) (pts O) (hs.map pts) := hl.fits (le_place hR hV) (by omega)
  exact .good (hf.valid.img h3 (t := placeA R W) (par_place c2 W.x W.y) ft) (place_pc hf.valid h3 R W c2 (by omega) (by omega) ft) (rplace_pc hf.valid h3 R W c2 (by omega) (by omega) ft)
theorem turnBad_pc (h : Small O hs) (r : Rp) (hr : r.le (2 ^ 20)) (hbad : chkP O hs ≠ 0 ∨ rotC r.x r.y ≠ 0) : PC prog 20 [pgV O hs, ptV r.x r.y] (noV 1) := by
 have p := placeBad_pc h r ⟨⟨false, [], []⟩, ⟨false, [], []⟩⟩ hr ⟨⟨by simp, by simp⟩, ⟨by simp, by simp⟩⟩ (hbad.elim .inl fun k => .inr (.inl k))
 refine PCi ?_
 conv in trip _ _ => cbv
 simp only [runT, RN, simprocAttr]
 simp (disch := omega) only [↓RS, RZ, simprocAttr, pgV, hsV, rpsV, ptV]
 refine cX p ?_
 simp (disch := omega) only [↓RS, RZ, simprocAttr, noV]
theorem rturnBad_pc (h : Small O hs) (r : Rp) (hr : r.le (2 ^ 20)) (hbad : chkP O hs ≠ 0 ∨ rotC r.x r.y ≠ 0) : PC prog 21 [pgV O hs, ptV r.x r.y] (noV 1) := by
 have p := rplaceBad_pc h r ⟨⟨false, [], []⟩, ⟨false, [], []⟩⟩ hr ⟨⟨by simp, by simp⟩, ⟨by simp, by simp⟩⟩ (hbad.elim .inl fun k => .inr (.inl k))
 refine PCi ?_
 conv in trip _ _ => cbv
 simp only [runT, RN, simprocAttr]
 simp (disch := omega) only [↓RS, RZ, simprocAttr, pgV, hsV, rpsV, ptV]
 refine cX p ?_
 simp (disch := omega) only [↓RS, RZ, simprocAttr, noV]
theorem both_turn (hg : greatP O hs = false) (sm : Small O hs) (r : Rp) (hr : r.le 30) : Both 20 21 [pgV O hs, ptV r.x r.y] := by
 by_cases hb : chkP O hs ≠ 0 ∨ rotC r.x r.y ≠ 0
 ·exact .bad (turnBad_pc sm r (le20 hr) hb) (rturnBad_pc sm r (le20 hr) hb)
 ·rw [not_or, Decidable.not_not, Decidable.not_not] at hb
  obtain ⟨hz, hrc⟩ := hb
  obtain ⟨hf, h3, hl⟩ := good_of hg hz
  obtain ⟨c1, c2⟩ := rot_of hrc
  have hR := hp_raw c1 hr
  have h3 : (hs.map pts).length ≤ 3 := by rw [List.length_map]; exact h3
  rw [hf.val, ptV_pV c1]
  generalize (⟨r.x.val, r.y.val⟩ : Pt) = R at *
  have z0 := hp_pt0
  have ft : Fits (placeA R pt0) (pts O) (hs.map pts) := hl.fits (le_place hR (show hp pt0 ≤ 30 by omega)) (by omega)
  exact .good (hf.valid.img h3 (t := placeA R pt0) (par_place c2 pt0.x pt0.y) ft) (turn_pc hf.valid h3 R c2 (by omega) ft) (rturn_pc hf.valid h3 R c2 (by omega) ft)
theorem transformMoves_pc (O : List Rp) (hs : List (List Rp)) (r v : Rp) (hr : Read O hs) (f1 : r.fit) (f2 : v.fit) : PC prog 3 [pgV O hs, ptV r.x r.y, ptV v.x v.y] (.prim (.bool true)) := by
 have aw := awake14_pc
 have g := great14_pc O hs [r.x, r.y, v.x, v.y] hr (by simp) (fun x hx => by
  simp only [List.mem_cons, List.not_mem_nil, or_false] at hx
  rcases hx with rfl | rfl | rfl | rfl
  ·exact f1.1
  ·exact f1.2
  ·exact f2.1
  ·exact f2.2)
 simp only [List.map_cons, List.map_nil, rtc] at g
 cases hg : greatP O hs || anyBig [r.x, r.y, v.x, v.y] with
 | true =>
  rw [hg] at g
  refine PC_intro mixed (FnD.of (by kernel_rfl)) ?_
  simp only [lcOf, Go.Proofs.Tryz.func3, Go.Proofs.Tryz.f3, liteF]
  conv in (occs := *) opsL _ _ _ => all_goals cbv
  conv in ntOf _ _ => cbv
  conv in rsOf _ _ => cbv
  simp only [RN, Nat.reduceAdd, Nat.reduceSub]
  simp (disch := omega) only [↓RS, RZ, simprocAttr, pgV, hsV, rpsV, ptV, rV]
  refine cX g ?_
  simp (disch := omega) only [↓RS, RZ, simprocAttr]
  refine cX aw ?_
  simp (disch := omega) only [↓RS, RZ, simprocAttr]
 | false =>
  rw [hg] at g
  rw [Bool.or_eq_false_iff] at hg
  obtain ⟨hg1, hg2⟩ := hg
  have rl : r.le 30 := ⟨anyBig_get hg2 (by simp), anyBig_get hg2 (by simp)⟩
  have vl : v.le 30 := ⟨anyBig_get hg2 (by simp), anyBig_get hg2 (by simp)⟩
  have sm := small_of hg1
  obtain ⟨A1, B1, z1, m1, m2, s1⟩ := both_move hg1 sm v vl
  obtain ⟨A2, B2, z2, t1, t2, s2⟩ := both_turn hg1 sm r rl
  obtain ⟨A3, B3, z3, p1, p2, s3⟩ := both_place hg1 sm r v rl vl
  refine PC_intro mixed (FnD.of (by kernel_rfl)) ?_
  simp only [lcOf, Go.Proofs.Tryz.func3, Go.Proofs.Tryz.f3, liteF]
  conv in (occs := *) opsL _ _ _ => all_goals cbv
  conv in ntOf _ _ => cbv
  conv in rsOf _ _ => cbv
  simp only [RN, Nat.reduceAdd, Nat.reduceSub]
  simp (disch := omega) only [↓RS, RZ, simprocAttr, pgV, hsV, rpsV, ptV, rV]
  refine cX g ?_
  simp (disch := omega) only [↓RS, RZ, simprocAttr, pgV, hsV, rpsV, ptV, rV]
  refine cX m1 ?_
  simp (disch := omega) only [↓RS, RZ, simprocAttr, pgV, hsV, rpsV, ptV, rV]
  refine cX m2 ?_
  simp (disch := omega) only [↓RS, RZ, simprocAttr, pgV, hsV, rpsV, ptV, rV]
  refine cX t1 ?_
  simp (disch := omega) only [↓RS, RZ, simprocAttr, pgV, hsV, rpsV, ptV, rV]
  refine cX t2 ?_
  simp (disch := omega) only [↓RS, RZ, simprocAttr, pgV, hsV, rpsV, ptV, rV]
  refine cX p1 ?_
  simp (disch := omega) only [↓RS, RZ, simprocAttr, pgV, hsV, rpsV, ptV, rV]
  refine cX p2 ?_
  simp (disch := omega) only [↓RS, RZ, simprocAttr]
  refine cX s1 ?_
  simp (disch := omega) only [↓RS, RZ, simprocAttr]
  refine cX s2 ?_
  simp (disch := omega) only [↓RS, RZ, simprocAttr]
  refine cX s3 ?_
  simp (disch := omega) only [↓RS, RZ, simprocAttr]
  refine cX aw ?_
  simp (disch := omega) only [↓RS, RZ, simprocAttr]
end Go.Av
namespace Go.Av
open Go.RowKit
open Go.Proofs.Tryz (prog)
variable {O : List Rp} {hs : List (List Rp)}
theorem both_mirror (hg : greatP O hs = false) (sm : Small O hs) : Both 27 28 [pgV O hs] := by
 by_cases hb : chkP O hs = 0
 ·obtain ⟨hf, h3, hl⟩ := good_of hg hb
  have h3 : (hs.map pts).length ≤ 3 := by rw [List.length_map]; exact h3
  rw [hf.val]
  have ft : Fits mirA (pts O) (hs.map pts) := hl.fits le_mir (by omega)
  exact .good (hf.valid.img h3 (t := mirA) par_mirror ft) (mirror_pc hf.valid h3 ft) (rmirror_pc hf.valid h3 ft)
 ·exact .bad (mirrorBad_pc sm hb) (rmirrorBad_pc sm hb)
theorem qV_of {k : Rt} (h : k = can k.val) : rV k = qV k.val := by show rV k = rV (can k.val); rw [← h]
theorem both_scale (hg : greatP O hs = false) (sm : Small O hs) (k : Rt) (hk : k.le 30) : Both 29 30 [pgV O hs, rV k] := by
 have hk2 : k.le (2 ^ 20) := Rt.le_mono hk (by omega)
 by_cases hb : chkP O hs ≠ 0 ∨ ¬ k = can k.val
 ·exact .bad (scaleBad_pc sm k hk2 hb) (rscaleBad_pc sm k hk2 hb)
 ·rw [not_or, Decidable.not_not, Decidable.not_not] at hb
  obtain ⟨hz, hc⟩ := hb
  obtain ⟨hf, h3, hl⟩ := good_of hg hz
  have h3 : (hs.map pts).length ≤ 3 := by rw [List.length_map]; exact h3
  have hK : ht k.val ≤ 30 := by have := hk; rw [hc] at this; exact ht_of_le this (by omega)
  rw [hf.val, qV_of hc]
  generalize k.val = c at *
  by_cases h0 : c = 0
  ·subst h0
   exact .bad (z := 12) (scale0_pc hf.valid) (rscale0_pc hf.valid)
  ·have ft : Fits (scaleA c) (pts O) (hs.map pts) := hl.fits (le_scale hK (by omega)) (by omega)
   exact .good (hf.valid.img h3 (t := scaleA c) (par_scale h0) ft) (scale_pc hf.valid h3 c (by omega) h0 ft) (rscale_pc hf.valid h3 c (by omega) h0 ft)
theorem both_shear (hg : greatP O hs = false) (sm : Small O hs) (k : Rt) (hk : k.le 30) : Both 31 32 [pgV O hs, rV k] := by
 have hk2 : k.le (2 ^ 20) := Rt.le_mono hk (by omega)
 by_cases hb : chkP O hs ≠ 0 ∨ ¬ k = can k.val
 ·exact .bad (shearBad_pc sm k hk2 hb) (rshearBad_pc sm k hk2 hb)
 ·rw [not_or, Decidable.not_not, Decidable.not_not] at hb
  obtain ⟨hz, hc⟩ := hb
  obtain ⟨hf, h3, hl⟩ := good_of hg hz
  have h3 : (hs.map pts).length ≤ 3 := by rw [List.length_map]; exact h3
  have hK : ht k.val ≤ 30 := by have := hk; rw [hc] at this; exact ht_of_le this (by omega)
  rw [hf.val, qV_of hc]
  generalize k.val = c at *
  have ft : Fits (shA c) (pts O) (hs.map pts) := hl.fits (le_sh hK (by omega)) (by omega)
  exact .good (hf.valid.img h3 (t := shA c) (par_shx c) ft) (shear_pc hf.valid h3 c (by omega) ft) (rshear_pc hf.valid h3 c (by omega) ft)
theorem flipBad_pc (h : Small O hs) (hbad : chkP O hs ≠ 0) : PC prog 25 [pgV O hs] (noV 1) := by
 have o := ofQ_pc (-1) (by omega) (by omega)
 rw [show ((-1 : Int) : Rat) = -1 from rfl] at o
 have := ht_mone
 have s := scaleBad_pc h (can (-1)) (can_le (by omega)) (.inl hbad)
 refine PCi ?_
 conv in trip _ _ => cbv
 simp only [runT, RN, simprocAttr]
 simp (disch := omega) only [↓RS, RZ, simprocAttr, pgV, hsV, rpsV]
 refine cX o ?_
 simp (disch := omega) only [↓RS, RZ, simprocAttr, qV, rV]
 refine cX s ?_
 simp (disch := omega) only [↓RS, RZ, simprocAttr, noV]
theorem rflipBad_pc (h : Small O hs) (hbad : chkP O hs ≠ 0) : PC prog 26 [pgV O hs] (noV 1) := by
 have o := rofR_pc (-1) (by omega) (by omega)
 rw [show ((-1 : Int) : Rat) = -1 from rfl] at o
 have := ht_mone
 have s := rscaleBad_pc h (can (-1)) (can_le (by omega)) (.inl hbad)
 refine PCi ?_
 conv in trip _ _ => cbv
 simp only [runT, RN, simprocAttr]
 simp (disch := omega) only [↓RS, RZ, simprocAttr, pgV, hsV, rpsV]
 refine cX o ?_
 simp (disch := omega) only [↓RS, RZ, simprocAttr, qV, rV]
 refine cX s ?_
 simp (disch := omega) only [↓RS, RZ, simprocAttr, noV]
theorem both_flip (hg : greatP O hs = false) (sm : Small O hs) : Both 25 26 [pgV O hs] := by
 by_cases hb : chkP O hs = 0
 ·obtain ⟨hf, h3, hl⟩ := good_of hg hb
  have h3 : (hs.map pts).length ≤ 3 := by rw [List.length_map]; exact h3
  rw [hf.val]
  have := ht_mone
  have ft : Fits (scaleA (-1)) (pts O) (hs.map pts) := hl.fits (le_scale (show ht (-1) ≤ 30 by omega) (by omega)) (by omega)
  exact .good (hf.valid.img h3 (t := scaleA (-1)) (par_scale (by decide +kernel)) ft) (flip_pc hf.valid h3 ft) (rflip_pc hf.valid h3 ft)
 ·exact .bad (flipBad_pc sm hb) (rflipBad_pc sm hb)
theorem transformMaps_pc (O : List Rp) (hs : List (List Rp)) (k : Rt) (hr : Read O hs) (f1 : k.fit) : PC prog 4 [pgV O hs, rV k] (.prim (.bool true)) := by
 have aw := awake14_pc
 have g := great14_pc O hs [k] hr (by simp) (fun x hx => by
  simp only [List.mem_cons, List.not_mem_nil, or_false] at hx
  rw [hx]; exact f1)
 simp only [List.map_cons, List.map_nil, rtc] at g
 cases hg : greatP O hs || anyBig [k] with
 | true =>
  rw [hg] at g
  refine PC_intro mixed (FnD.of (by kernel_rfl)) ?_
  simp only [lcOf, Go.Proofs.Tryz.func4, Go.Proofs.Tryz.f4, liteF]
  conv in (occs := *) opsL _ _ _ => all_goals cbv
  conv in ntOf _ _ => cbv
  conv in rsOf _ _ => cbv
  simp only [RN, Nat.reduceAdd, Nat.reduceSub]
  simp (disch := omega) only [↓RS, RZ, simprocAttr, pgV, hsV, rpsV, ptV, rV]
  refine cX g ?_
  simp (disch := omega) only [↓RS, RZ, simprocAttr]
  refine cX aw ?_
  simp (disch := omega) only [↓RS, RZ, simprocAttr]
 | false =>
  rw [hg] at g
  rw [Bool.or_eq_false_iff] at hg
  obtain ⟨hg1, hg2⟩ := hg
  have kl : k.le 30 := anyBig_get hg2 (by simp)
  have sm := small_of hg1
  obtain ⟨A1, B1, z1, m1, m2, s1⟩ := both_flip hg1 sm
  obtain ⟨A2, B2, z2, t1, t2, s2⟩ := both_mirror hg1 sm
  obtain ⟨A3, B3, z3, p1, p2, s3⟩ := both_scale hg1 sm k kl
  obtain ⟨A4, B4, z4, q1, q2, s4⟩ := both_shear hg1 sm k kl
  refine PC_intro mixed (FnD.of (by kernel_rfl)) ?_
  simp only [lcOf, Go.Proofs.Tryz.func4, Go.Proofs.Tryz.f4, liteF]
  conv in (occs := *) opsL _ _ _ => all_goals cbv
  conv in ntOf _ _ => cbv
  conv in rsOf _ _ => cbv
  simp only [RN, Nat.reduceAdd, Nat.reduceSub]
  simp (disch := omega) only [↓RS, RZ, simprocAttr, pgV, hsV, rpsV, ptV, rV]
  refine cX g ?_
  simp (disch := omega) only [↓RS, RZ, simprocAttr, pgV, hsV, rpsV, ptV, rV]
  refine cX m1 ?_
  simp (disch := omega) only [↓RS, RZ, simprocAttr, pgV, hsV, rpsV, ptV, rV]
  refine cX m2 ?_
  simp (disch := omega) only [↓RS, RZ, simprocAttr, pgV, hsV, rpsV, ptV, rV]
  refine cX t1 ?_
  simp (disch := omega) only [↓RS, RZ, simprocAttr, pgV, hsV, rpsV, ptV, rV]
  refine cX t2 ?_
  simp (disch := omega) only [↓RS, RZ, simprocAttr, pgV, hsV, rpsV, ptV, rV]
  refine cX p1 ?_
  simp (disch := omega) only [↓RS, RZ, simprocAttr, pgV, hsV, rpsV, ptV, rV]
  refine cX p2 ?_
  simp (disch := omega) only [↓RS, RZ, simprocAttr, pgV, hsV, rpsV, ptV, rV]
  refine cX q1 ?_
  simp (disch := omega) only [↓RS, RZ, simprocAttr, pgV, hsV, rpsV, ptV, rV]
  refine cX q2 ?_
  simp (disch := omega) only [↓RS, RZ, simprocAttr]
  refine cX s1 ?_
  simp (disch := omega) only [↓RS, RZ, simprocAttr]
  refine cX s2 ?_
  simp (disch := omega) only [↓RS, RZ, simprocAttr]
  refine cX s3 ?_
  simp (disch := omega) only [↓RS, RZ, simprocAttr]
  refine cX s4 ?_
  simp (disch := omega) only [↓RS, RZ, simprocAttr]
  refine cX aw ?_
  simp (disch := omega) only [↓RS, RZ, simprocAttr]
end Go.Av
