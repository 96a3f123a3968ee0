/- Helping texts: Se, Sf. -/
import Derived.Test.YtbidkolaahnbiaaGreatKSd
import Derived.Test.YtbidkolaahnbiaaGreatKSm
import Derived.Test.YtbidkolaahnbiaaGreatKSa
import Derived.Test.YtbidkolaahnbiaaGreatKGa
set_option linter.unusedSimpArgs false
set_option linter.unusedVariables false
set_option maxRecDepth 100000
set_option maxHeartbeats 16000000
namespace Go.Av
open Go.RowKit
open Go.Proofs.Tryz (prog)
theorem Ringside {L : List Pt} {Hs : List (List Pt)} (hv : Valid L Hs) {j : Nat} (hj : j < Hs.length) : Ring (Hs.getD j []) := hv.holes _ (by
 rw [List.getD_eq_getElem?_getD, List.getElem?_eq_getElem hj]; exact List.getElem_mem hj)
end Go.Av
namespace Go.Av
open Go.RowKit
open Go.Proofs.Tryz (prog)
instance : DecidableEq Rp := fun a b => decidable_of_iff (a.x = b.x ∧ a.y = b.y) ⟨fun h => by cases a; cases b; simp only at h; rw [h.1, h.2], fun h => by subst h; exact ⟨rfl, rfl⟩⟩
theorem eqA_rp (p q : Rp) : eqA (tyOf prog) 9 31 (.agg [.prim (.bool p.x.neg), .prim (.string (bs (p.x.num))), .prim (.string (bs (p.x.den))), .prim (.bool p.y.neg), .prim (.string (bs (p.y.num))), .prim (.string (bs (p.y.den)))]) (.agg [.prim (.bool q.x.neg), .prim (.string (bs (q.x.num))), .prim (.string (bs (q.x.den))), .prim (.bool q.y.neg), .prim (.string (bs (q.y.num))), .prim (.string (bs (q.y.den)))]) = some (decide (p = q)) := by
 rw [eqA_pt]
 congr 1
 rw [decide_eq_decide]
 exact ⟨fun h => by cases p; cases q; simp only at h; rw [h.1, h.2], fun h => by subst h; exact ⟨rfl, rfl⟩⟩
theorem list_eq_iff {α : Type} {d : α} {A B : List α} : A = B ↔ A.length = B.length ∧ ∀ i, i < A.length → A.getD i d = B.getD i d := by
 constructor
 ·rintro rfl; exact ⟨rfl, fun _ _ => rfl⟩
 ·rintro ⟨h1, h2⟩
  refine List.ext_getElem h1 fun i k1 k2 => ?_
  have := h2 i k1
  rwa [List.getD_eq_getElem?_getD, List.getD_eq_getElem?_getD, List.getElem?_eq_getElem k1, List.getElem?_eq_getElem k2] at this
theorem rsame_pc (A B : List Rp) (hA : A.length < 2 ^ 40) (hB : B.length < 2 ^ 40) : PC prog 90 [rpsV A, rpsV B] (.prim (.bool (decide (A = B)))) := by
 by_cases hl : A.length = B.length
 ·skip
  refine PCi ?_
  conv in trip _ _ => cbv
  simp only [runT, RN, simprocAttr]
  simp (disch := omega) only [↓RS, RZ, simprocAttr, rpsV, rpc_length]
  refine wp_lp (fun (i : Nat) J => ov [(0, rpsV A), (1, rpsV B), (5, .prim (.int .i64 ((i : Nat) : Int)))] J 0 26) (fun i _ => i ≤ A.length ∧ ∀ j, j < i → A.getD j default = B.getD j default) (fun i => A.length - i) 0 rfl ⟨Nat.zero_le _, fun j hj => absurd hj (Nat.not_lt_zero j)⟩ ?_
  rintro i J H ⟨hi, hp⟩
  try conv in ov _ _ _ _ => simp only [ov, List.lookup, RO, simprocAttr]
  rcases Nat.lt_or_ge i A.length with hlt | hge
  ·have g1 := rpc_getD hlt
   have g2 := rpc_getD (l := B) (k := i) (by omega)
   have e := eqA_rp (A.getD i default) (B.getD i default)
   by_cases h : A.getD i default = B.getD i default
   ·rw [decide_eq_true h] at e
    simp (disch := omega) only [↓RS, RZ, simprocAttr, rpsV, rpc_length, g1, g2, rpc, e]
    exact lp_next (i + 1) rfl ⟨hlt, fun j hj => by
     rcases Nat.lt_or_ge j i with h | h
     ·exact hp j h
     ·rw [show j = i by omega]; assumption⟩ (by omega)
   ·rw [decide_eq_false h] at e
    rw [decide_eq_false (fun k => h (by rw [k]))]
    simp (disch := omega) only [↓RS, RZ, simprocAttr, rpsV, rpc_length, g1, g2, rpc, e]
  ·have hia : i = A.length := by omega
   subst hia
   rw [decide_eq_true ((list_eq_iff (d := default)).2 ⟨hl, hp⟩)]
   simp (disch := omega) only [↓RS, RZ, simprocAttr, rpsV, rpc_length]
 ·rw [decide_eq_false (fun k => hl (by rw [k]))]
  refine PCi ?_
  conv in trip _ _ => cbv
  simp only [runT, RN, simprocAttr]
  simp (disch := omega) only [↓RS, RZ, simprocAttr, rpsV, rpc_length]
theorem rsameP_pc (O : List Rp) (hs : List (List Rp)) (O' : List Rp) (hs' : List (List Rp)) (h1 : O.length < 2 ^ 40) (h2 : O'.length < 2 ^ 40) (h3 : hs.length < 2 ^ 40) (h4 : hs'.length < 2 ^ 40) (k1 : ∀ l ∈ hs, l.length < 2 ^ 40) (k2 : ∀ l ∈ hs', l.length < 2 ^ 40) :
 PC prog 24 [pgV O hs, pgV O' hs'] (.prim (.bool (decide (O = O' ∧ hs = hs')))) := by
 have s := rsame_pc O O' h1 h2
 by_cases hO : O = O'
 ·rw [decide_eq_true hO] at s
  by_cases hl : hs.length = hs'.length
  ·skip
   refine PCi ?_
   conv in trip _ _ => cbv
   simp only [runT, RN, simprocAttr]
   simp (disch := omega) only [↓RS, RZ, simprocAttr, pgV, hsV, rpsV, one_length, hs_length]
   refine cX s ?_
   simp (disch := omega) only [↓RS, RZ, simprocAttr, one_length, hs_length]
   refine wp_lp (fun (i : Nat) J => ov [(2, .ptr 0 0 0), (3, .ptr 1 0 0), (5, .prim (.int .i64 ((i : Nat) : Int)))] J 0 40) (fun i H => (i ≤ hs.length ∧ ∀ j, j < i → hs.getD j [] = hs'.getD j []) ∧ H = [some (.row 2 true [[rpsV O, hsV hs]]), some (.row 2 true [[rpsV O', hsV hs']])]) (fun i => hs.length - i) 0 rfl ⟨⟨Nat.zero_le _, fun j hj => absurd hj (Nat.not_lt_zero j)⟩, rfl⟩ ?_
   rintro i J _ ⟨⟨hi, hp⟩, rfl⟩
   try conv in ov _ _ _ _ => simp only [ov, List.lookup, RO, simprocAttr]
   rcases Nat.lt_or_ge i hs.length with hlt | hge
   ·have g1 : ((hs.map rpsV).map fun v => [v]).getD i [] = [rpsV (hs.getD i [])] := by rw [one_getD (by rw [hs_length]; exact hlt), hs_getD hlt]
    have g2 : ((hs'.map rpsV).map fun v => [v]).getD i [] = [rpsV (hs'.getD i [])] := by rw [one_getD (by rw [hs_length]; omega), hs_getD (by omega)]
    have m1 : hs.getD i [] ∈ hs := by rw [List.getD_eq_getElem?_getD, List.getElem?_eq_getElem hlt]; exact List.getElem_mem hlt
    have m2 : hs'.getD i [] ∈ hs' := by rw [List.getD_eq_getElem?_getD, List.getElem?_eq_getElem (by omega)]; exact List.getElem_mem (by omega)
    have c := rsame_pc (hs.getD i []) (hs'.getD i []) (k1 _ m1) (k2 _ m2)
    by_cases h : hs.getD i [] = hs'.getD i []
    ·rw [decide_eq_true h] at c
     simp (disch := omega) only [↓RS, RZ, simprocAttr, hsV, rpsV, one_length, hs_length, g1, g2]
     refine cX c ?_
     simp (disch := omega) only [↓RS, RZ, simprocAttr]
     exact lp_next (i + 1) rfl ⟨⟨hlt, fun j hj => by
      rcases Nat.lt_or_ge j i with h | h
      ·exact hp j h
      ·rw [show j = i by omega]; assumption⟩, rfl⟩ (by omega)
    ·rw [decide_eq_false h] at c
     rw [decide_eq_false (fun k => h (by rw [k.2]))]
     simp (disch := omega) only [↓RS, RZ, simprocAttr, hsV, rpsV, one_length, hs_length, g1, g2]
     refine cX c ?_
     simp (disch := omega) only [↓RS, RZ, simprocAttr]
   ·have hia : i = hs.length := by omega
    subst hia
    rw [decide_eq_true ⟨hO, (list_eq_iff (d := [])).2 ⟨hl, hp⟩⟩]
    simp (disch := omega) only [↓RS, RZ, simprocAttr, hsV, rpsV, one_length, hs_length]
  ·rw [decide_eq_false (fun k => hl (by rw [k.2]))]
   refine PCi ?_
   conv in trip _ _ => cbv
   simp only [runT, RN, simprocAttr]
   simp (disch := omega) only [↓RS, RZ, simprocAttr, pgV, hsV, rpsV, one_length, hs_length]
   refine cX s ?_
   simp (disch := omega) only [↓RS, RZ, simprocAttr, one_length, hs_length]
 ·rw [decide_eq_false hO] at s
  rw [decide_eq_false (fun k => hO k.1)]
  refine PCi ?_
  conv in trip _ _ => cbv
  simp only [runT, RN, simprocAttr]
  simp (disch := omega) only [↓RS, RZ, simprocAttr, pgV, hsV, rpsV, one_length, hs_length]
  refine cX s ?_
  simp (disch := omega) only [↓RS, RZ, simprocAttr]
theorem cg_pg (L : List Pt) (Hs : List (List Pt)) : cgV L Hs = pgV (L.map Pt.rp) (Hs.map fun l => l.map Pt.rp) := by
 unfold cgV pgV hsV
 rw [psV_rps, List.map_map, List.map_map, List.map_map]
 have : Hs.map ((fun v => [v]) ∘ psV) = Hs.map (((fun v => [v]) ∘ rpsV) ∘ fun l => l.map Pt.rp) := List.map_congr_left fun l _ => by
  simp only [Function.comp_apply, psV_rps]
 rw [this]
theorem rsameC_pc (L : List Pt) (Hs : List (List Pt)) (h1 : L.length < 2 ^ 40) (h3 : Hs.length < 2 ^ 40) (k1 : ∀ l ∈ Hs, l.length < 2 ^ 40) : PC prog 24 [cgV L Hs, cgV L Hs] (.prim (.bool true)) := by
 have k : ∀ l ∈ Hs.map (fun l => l.map Pt.rp), l.length < 2 ^ 40 := fun l hl => by
  obtain ⟨m, hm, rfl⟩ := List.mem_map.1 hl
  rw [List.length_map]; exact k1 m hm
 have := rsameP_pc (L.map Pt.rp) (Hs.map fun l => l.map Pt.rp) (L.map Pt.rp) (Hs.map fun l => l.map Pt.rp) (by rw [List.length_map]; exact h1) (by rw [List.length_map]; exact h1) (by rw [List.length_map]; exact h3) (by rw [List.length_map]; exact h3) k k
 rw [decide_eq_true ⟨rfl, rfl⟩, ← cg_pg] at this
 exact this
theorem VR_nil6 {φ : Nat → Option Loc} {I : Nat → Prop} {w : World} {x : Value} (h : VR φ I w (.agg [.prim (.slice none 0 0), .prim (.slice none 0 0)]) x) : VR φ I w (.agg [.lst 6 [], .lst 1 []]) x := by
 cases h with
 | agg h1 hx =>
  refine .agg h1 fun k v x hv hxk => ?_
  match k, hv with
  | 0, hv => cases hv; have := hx 0 _ x rfl hxk; cases this; exact .lnil
  | 1, hv => cases hv; have := hx 1 _ x rfl hxk; cases this; exact .lnil
  | k + 2, hv => simp at hv
end Go.Av
