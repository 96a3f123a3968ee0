/- Helping texts: Fh, Fi, Fj. -/
import Derived.Test.YtbidkolaahnbiaaGreatKFd
import Derived.Test.YtbidkolaahnbiaaGreatKDb
import Derived.Test.YtbidkolaahnbiaaGreatKMb
import Derived.Test.YtbidkolaahnbiaaGreatKFa
set_option linter.unusedSimpArgs false
set_option linter.unusedVariables false
set_option maxRecDepth 100000
set_option maxHeartbeats 16000000
open Nat (reduceAdd reduceLT reduceLeDiff reducePow reduceDiv reduceMod reduceEqDiff)
namespace Go.Av
open Go.RowKit
open Go.Proofs.Tryz (prog)
theorem equalH_pc (Hs : List (List Pt)) (hn : Hs.length < 2 ^ 40) (hh : ∀ l ∈ Hs, l.length < 2 ^ 40) :
    PC prog 109 [.lst 1 ((Hs.map psV).map fun v => [v]), .lst 1 ((Hs.map psV).map fun v => [v]), .clo 69 [] []] (.prim (.bool true)) := by
  refine PC_intro mixed (FnD.of (by kernel_rfl)) ?_
  conv in lcOf _ _ => cbv
  conv in ntOf _ _ => cbv
  conv in rsOf _ _ => cbv
  simp only [RN, Nat.reduceAdd, Nat.reduceSub]
  simp (maxSteps := 2000000) (disch := omega) only [↓RS, RZ, reduceCtorEq, reduceAdd, reduceLT, reduceLeDiff, List.reduceReplicate, reducePow, reduceDiv, reduceMod, reduceEqDiff, Nat.reduceBEq, one_length, pgs_length]
  refine wp_lp (fun (i : Nat) J => ov [(0, .lst 1 ((Hs.map psV).map fun v => [v])), (1, .lst 1 ((Hs.map psV).map fun v => [v])), (2, .clo 69 [] []), (15, .lst 1 ((Hs.map psV).map fun v => [v])), (16, .prim (.int .i64 ((Hs.length : Nat) : Int))), (17, .prim (.int .i64 ((i : Nat) : Int)))] J 0 32) (fun i _ => i ≤ Hs.length) (fun i => Hs.length - i) 0 rfl (Nat.zero_le _) ?_
  rintro i J H hi
  try conv in ov _ _ _ _ => simp only [ov, List.lookup, Option.getD_some, Option.getD_none, Nat.reduceAdd, Nat.reduceBEq]
  rcases Nat.lt_or_ge i Hs.length with hlt | hge
  · have g := pg_getD hlt
    have hm : Hs.getD i [] ∈ Hs := by rw [List.getD_eq_getElem?_getD, List.getElem?_eq_getElem hlt]; exact List.getElem_mem hlt
    have e := equalV_pc (Hs.getD i []) (Hs.getD i []) (hh _ hm) (hh _ hm)
    rw [decide_eq_true rfl] at e
    simp (maxSteps := 2000000) (disch := omega) only [↓RS, RZ, reduceCtorEq, reduceAdd, reduceLT, reduceLeDiff, List.reduceReplicate, reducePow, reduceDiv, reduceMod, reduceEqDiff, Nat.reduceBEq, one_length, pgs_length, g, psV]
    first | refine cP (e) ?_ | refine cD (e) ?_
    simp (maxSteps := 2000000) (disch := omega) only [↓RS, RZ, reduceCtorEq, reduceAdd, reduceLT, reduceLeDiff, List.reduceReplicate, reducePow, reduceDiv, reduceMod, reduceEqDiff, Nat.reduceBEq]
    exact lp_next (i + 1) rfl hlt (by omega)
  · have hia : i = Hs.length := by omega
    subst hia
    simp (maxSteps := 2000000) (disch := omega) only [↓RS, RZ, reduceCtorEq, reduceAdd, reduceLT, reduceLeDiff, List.reduceReplicate, reducePow, reduceDiv, reduceMod, reduceEqDiff, Nat.reduceBEq, one_length, pgs_length]
theorem same_pc (L : List Pt) (Hs : List (List Pt)) (hL : L.length < 2 ^ 40) (hn : Hs.length < 2 ^ 40) (hh : ∀ l ∈ Hs, l.length < 2 ^ 40) : PC prog 40 [cgV L Hs, cgV L Hs] (.prim (.bool true)) := by
  have e1 := equalV_pc L L hL hL
  rw [decide_eq_true rfl] at e1
  have e2 := equalH_pc Hs hn hh
  refine PC_intro mixed (FnD.of (by kernel_rfl)) ?_
  conv in lcOf _ _ => cbv
  conv in ntOf _ _ => cbv
  conv in rsOf _ _ => cbv
  simp only [RN, Nat.reduceAdd, Nat.reduceSub]
  simp (maxSteps := 2000000) (disch := omega) only [↓RS, RZ, reduceCtorEq, reduceAdd, reduceLT, reduceLeDiff, List.reduceReplicate, reducePow, reduceDiv, reduceMod, reduceEqDiff, Nat.reduceBEq, cgV, psV]
  first | refine cP (e1) ?_ | refine cD (e1) ?_
  simp (maxSteps := 2000000) (disch := omega) only [↓RS, RZ, reduceCtorEq, reduceAdd, reduceLT, reduceLeDiff, List.reduceReplicate, reducePow, reduceDiv, reduceMod, reduceEqDiff, Nat.reduceBEq, psV]
  first | refine cP (e2) ?_ | refine cD (e2) ?_
  simp (maxSteps := 2000000) (disch := omega) only [↓RS, RZ, reduceCtorEq, reduceAdd, reduceLT, reduceLeDiff, List.reduceReplicate, reducePow, reduceDiv, reduceMod, reduceEqDiff, Nat.reduceBEq]
end Go.Av
set_option maxRecDepth 100000
set_option maxHeartbeats 16000000
open Nat (reduceAdd reduceLT reduceLeDiff reducePow reduceDiv reduceMod reduceEqDiff)
namespace Go.Av
open Go.RowKit
open Go.Proofs.Tryz (prog)
/-- The holes are in ascending order. -/
def Asc (Hs : List (List Pt)) : Prop := ∀ i, 0 < i → i < Hs.length → cmpH (Hs.getD (i - 1) []) (Hs.getD i []) < 0
theorem Fine.asc {O : List Rp} {hs : List (List Rp)} (h : Fine O hs) : Asc (hs.map pts) := by
  have get : ∀ i, i < hs.length → (hs.map pts).getD i [] = pts (hs.getD i []) := fun i hi => by
    rw [List.getD_eq_getElem?_getD, List.getD_eq_getElem?_getD, List.getElem?_map, List.getElem?_eq_getElem hi]; rfl
  intro i h0 hi
  rw [List.length_map] at hi
  rw [get i hi, get (i - 1) (by omega)]
  have hz := h.hz i hi
  unfold chkH at hz
  rw [if_neg (by intro h2; exact h2 (chkH_ring (h.hz i hi)))] at hz
  split at hz
  · cases hz
  split at hz
  · cases hz
  split at hz
  · cases hz
  split at hz
  · cases hz
  · rename_i hx
    unfold cmpH
    exact Int.not_le.1 fun hle => hx ⟨h0, hle⟩
theorem cmpH_trans {a b c : List Pt} (h1 : cmpH a b < 0) (h2 : cmpH b c < 0) : cmpH a c < 0 := by
  unfold cmpH at *
  have h3 := cmpP_le_trans (Int.le_of_lt h1) (Int.le_of_lt h2)
  rcases Int.lt_or_eq_of_le h3 with h | h
  · exact h
  · have e := cmpP_zero.1 h
    rw [e] at h1
    have := cmpP_antisymm (Int.le_of_lt h1) (Int.le_of_lt h2)
    rw [this, cmpP_self] at h1
    omega
theorem cmpH_asym {a b : List Pt} (h1 : cmpH a b < 0) : ¬ cmpH b a < 0 := fun h2 => by
  have := cmpH_trans h1 h2
  unfold cmpH at this
  rw [cmpP_self] at this
  omega
theorem sort_asc {Hs : List (List Pt)} (h : Asc Hs) (h3 : Hs.length ≤ 3) : isortH Hs (Hs.length - 1) = Hs ∧ isortH Hs.reverse (Hs.length - 1) = Hs := by
  match Hs, h3, h with
  | [], _, _ => exact ⟨rfl, rfl⟩
  | [a], _, _ => exact ⟨rfl, rfl⟩
  | [a, b], _, h =>
    have h1 : cmpH a b < 0 := h 1 (by omega) (by simp)
    have h2 := cmpH_asym h1
    simp [isortH, bubbleH, swapH, h1, h2]
  | [a, b, c], _, h =>
    have h1 : cmpH a b < 0 := h 1 (by omega) (by simp)
    have h2 : cmpH b c < 0 := h 2 (by omega) (by simp)
    have h3 := cmpH_trans h1 h2
    have k1 := cmpH_asym h1
    have k2 := cmpH_asym h2
    have k3 := cmpH_asym h3
    simp [isortH, bubbleH, swapH, h1, h2, h3, k1, k2, k3]

theorem Ring.can {R : List Pt} (h : Ring R) : Can R := ⟨h.lo, h.hi, h.ht, h.good.keep, h.good.crossB⟩
end Go.Av
set_option maxRecDepth 100000
set_option maxHeartbeats 16000000
open Nat (reduceAdd reduceLT reduceLeDiff reducePow reduceDiv reduceMod reduceEqDiff)
namespace Go.Av
open Go.RowKit
open Go.Proofs.Tryz (prog)
theorem view_Y {H : Hp} {b n : Nat} {A : List (List V)} {Y : List (List Pt)} (hb : b < H.length) (hn : (Y.map hcel).length = n) :
    viewArgs ((List.replicate H.length none).set b (some (.row 1 true (Y.map hcel)))) [.agg [.lst 6 A, .sref b 0 n n 1 false]] = some [.agg [.lst 6 A, .lst 1 (Y.map hcel)]] := by
  have g : get ((List.replicate H.length (none : Option Blk)).set b (some (.row 1 true (Y.map hcel)))) b = some (.row 1 true (Y.map hcel)) := get_eq (by rw [List.length_replicate]; exact hb)
  have k2 : (Y.map hcel).take n = Y.map hcel := by rw [List.take_of_length_le (by omega)]
  have k3 := viewLL_hcel ((List.replicate H.length (none : Option Blk)).set b (some (.row 1 true (Y.map hcel)))) 6 Y
  simp only [viewArgs, view, view.viewL, g, Nat.zero_add, hn, Nat.le_refl, if_true, List.drop_zero, k2, k3, Option.map_some]

end Go.Av
