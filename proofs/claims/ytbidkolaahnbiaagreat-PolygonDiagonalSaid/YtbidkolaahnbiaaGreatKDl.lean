/- Helping texts: Dl, Dm, Dp, Dn, Do, Dq. -/
import Derived.Test.YtbidkolaahnbiaaGreatKDh
import Derived.Test.YtbidkolaahnbiaaGreatKCy
set_option linter.unusedSimpArgs false
set_option linter.unusedVariables false
set_option maxRecDepth 100000
set_option maxHeartbeats 16000000
namespace Go.Av
open Go.RowKit
open Go.Proofs.Tryz (prog)
def meetB (A B : List Pt) : Bool := (List.range A.length).any fun i => (List.range B.length).any fun k => (meetM (segOf A i) (segOf B k)).isSome
theorem meetB_true {A B : List Pt} {i k : Nat} (hi : i < A.length) (hk : k < B.length) (h : (meetM (segOf A i) (segOf B k)).isSome = true) : meetB A B = true :=
 List.any_eq_true.2 ⟨i, by simpa using hi, List.any_eq_true.2 ⟨k, by simpa using hk, h⟩⟩
theorem meetB_false {A B : List Pt} (h : ∀ i, i < A.length → ∀ k, k < B.length → (meetM (segOf A i) (segOf B k)).isSome = false) : meetB A B = false := by
 unfold meetB
 rw [List.any_eq_false]
 intro i hi
 simp only [List.mem_range] at hi
 rw [Bool.not_eq_true, List.any_eq_false]
 intro k hk
 simp only [List.mem_range] at hk
 rw [h i hi k hk]; simp
theorem meet_pc (A B : List Pt) (hA : Ring A) (hB : Ring B) : PC prog 232 [psV A, psV B] (.prim (.bool (meetB A B))) := by
 have a1 := hA.lo; have a2 := hA.hi; have a3 := hB.lo; have a4 := hB.hi
 have hLA : hl A (2 ^ 20) := hA.le (by omega)
 have hLB : hl B (2 ^ 20) := hB.le (by omega)
 have ea := Edges_pc A (by omega) hA.ne
 have eb := Edges_pc B (by omega) hB.ne
 refine PCi ?_
 conv in trip _ _ => cbv
 simp only [runT, RN, simprocAttr]
 simp (disch := omega) only [↓RS, RZ, simprocAttr, psV]
 refine cX ea ?_
 simp (disch := omega) only [↓RS, RZ, simprocAttr, ssV, sgc_length, edgesL_length]
 refine wp_lp (fun (i : Nat) J => ov [(0, psV A), (1, psV B), (13, ssV (edgesL A)), (14, .prim (.int .i64 ((A.length : Nat) : Int))), (15, .prim (.int .i64 ((i : Nat) : Int)))] J 0 36) (fun i _ => i ≤ A.length ∧ ∀ j, j < i → ∀ k, k < B.length → (meetM (segOf A j) (segOf B k)).isSome = false) (fun i => A.length - i) 0 rfl ⟨Nat.zero_le _, fun j hj => absurd hj (Nat.not_lt_zero j)⟩ ?_
 rintro i J H ⟨hi, hp⟩
 try conv in ov _ _ _ _ => simp only [ov, List.lookup, RO, simprocAttr]
 rcases Nat.lt_or_ge i A.length with hlt | hge
 ·have g1 := edges_getD hlt
  simp (disch := omega) only [↓RS, RZ, simprocAttr, ssV, sgc_length, edgesL_length, g1, sgc, psV, set_app_len]
  refine cX eb ?_
  simp (disch := omega) only [↓RS, RZ, simprocAttr, ssV, sgc_length, edgesL_length]
  refine wp_lp (fun (k : Nat) J => ov [(0, psV A), (1, psV B), (6, .ptr H.length 0 0), (13, ssV (edgesL A)), (14, .prim (.int .i64 ((A.length : Nat) : Int))), (15, .prim (.int .i64 ((i : Nat) : Int))), (20, ssV (edgesL B)), (21, .prim (.int .i64 ((B.length : Nat) : Int))), (22, .prim (.int .i64 ((k : Nat) : Int)))] J 0 36) (fun k H' => (k ≤ B.length ∧ ∀ j, j < k → (meetM (segOf A i) (segOf B j)).isSome = false) ∧ get H' H.length = some (.row 12 true [sgc (segOf A i)])) (fun k => B.length - k) 0 rfl ⟨⟨Nat.zero_le _, fun j hj => absurd hj (Nat.not_lt_zero j)⟩, get_app_len⟩ ?_
  rintro k J H' ⟨⟨hk, hq⟩, hg⟩
  try conv in ov _ _ _ _ => simp only [ov, List.lookup, RO, simprocAttr]
  rcases Nat.lt_or_ge k B.length with hkl | hkg
  ·have g2 := edges_getD hkl
   have m := Smeet_pc (segOf A i) (segOf B k) (hs_seg hLA hlt) (hs_seg hLB hkl)
   have hg1 : ∀ x, get (H' ++ [x]) H.length = some (.row 12 true [sgc (segOf A i)]) := fun x => get_app hg
   have hg2 : ∀ x y, get (H' ++ [x] ++ [y]) H.length = some (.row 12 true [sgc (segOf A i)]) := fun x y => get_app (get_app hg)
   simp (disch := omega) only [↓RS, RZ, simprocAttr, ssV, sgc_length, edgesL_length, g2, sgc, set_app_len, hg1]
   refine cX m ?_
   cases hm : (meetM (segOf A i) (segOf B k)).isSome with
   | true =>
    rw [meetB_true hlt hkl hm]
    simp (disch := omega) only [↓RS, RZ, simprocAttr, sgV, s4V, set_app_len]
   | false =>
    simp (disch := omega) only [↓RS, RZ, simprocAttr, sgV, s4V, set_app_len]
    exact lp_next (k + 1) rfl ⟨⟨hkl, fun j hj => by
     rcases Nat.lt_or_ge j k with h | h
     ·exact hq j h
     ·rw [show j = k by omega]; exact hm⟩, hg2 _ _⟩ (by omega)
  ·simp (disch := omega) only [↓RS, RZ, simprocAttr]
   exact lp_next (i + 1) rfl ⟨hlt, fun j hj k' hk' => by
    rcases Nat.lt_or_ge j i with h | h
    ·exact hp j h k' hk'
    ·rw [show j = i by omega]; exact hq k' (by omega)⟩ (by omega)
 ·have hia : i = A.length := by omega
  subst hia
  rw [meetB_false hp]
  simp (disch := omega) only [↓RS, RZ, simprocAttr]
def withinB (A B : List Pt) : Bool := decide (0 < sideS B (A.getD 0 default))
theorem within_pc (A B : List Pt) (hA : Ring A) (hB : Ring B) : PC prog 235 [psV A, psV B] (.prim (.bool (withinB A B))) := by
 have a1 := hA.lo
 have g := pc_getD (l := A) (k := 0) (by omega)
 have c := Inside_pc B (A.getD 0 default) hB (Nat.le_trans (hl_get hA.ht (by omega)) (by omega))
 refine PCi ?_
 conv in trip _ _ => cbv
 simp only [runT, RN, simprocAttr]
 unfold withinB
 simp (disch := omega) only [↓RS, RZ, simprocAttr, psV, pc_length, g, pc]
 refine cX c ?_
 by_cases h : 0 < sideS B (A.getD 0 default)
 ·rw [decide_eq_true h]
  simp (disch := omega) only [↓RS, RZ, simprocAttr]
 ·rw [decide_eq_false h]
  simp (disch := omega) only [↓RS, RZ, simprocAttr]
theorem hole1_sc (h x : List Pt) (h1 : Ring h) (h2 : Ring x) {b : Nat} {H : Hp} {K : V → Hp → Prop} (hb : get H b = some (.row 1 true [[psV h]])) (hK : K (.prim (.bool (meetB h x))) H) : SC prog 234 [psV x, .ptr b 0 0] H K := by
 have c := meet_pc h x h1 h2
 refine SCi ?_
 conv in trip _ _ => cbv
 simp only [runT, RN, simprocAttr]
 simp (disch := omega) only [↓RS, RZ, simprocAttr, hb, psV]
 refine cX c ?_
 simp (disch := omega) only [↓RS, RZ, simprocAttr]
 exact hK
theorem hole2_sc (h x : List Pt) (h1 : Ring h) (h2 : Ring x) {b : Nat} {H : Hp} {K : V → Hp → Prop} (hb : get H b = some (.row 1 true [[psV h]])) (hK : K (.prim (.bool (withinB h x || withinB x h))) H) : SC prog 236 [psV x, .ptr b 0 0] H K := by
 have c := within_pc h x h1 h2
 have d := within_pc x h h2 h1
 refine SCi ?_
 conv in trip _ _ => cbv
 simp only [runT, RN, simprocAttr]
 simp (disch := omega) only [↓RS, RZ, simprocAttr, hb, psV]
 refine cX c ?_
 cases hw : withinB h x with
 | true =>
  rw [hw, Bool.true_or] at hK
  simp (disch := omega) only [↓RS, RZ, simprocAttr]
  exact hK
 | false =>
  rw [hw, Bool.false_or] at hK
  simp (disch := omega) only [↓RS, RZ, simprocAttr, hb, psV]
  refine cX d ?_
  simp (disch := omega) only [↓RS, RZ, simprocAttr]
  exact hK
end Go.Av
namespace Go.Av
open Go.RowKit
open Go.Proofs.Tryz (prog)
theorem one_getD {es : List V} {i : Nat} (h : i < es.length) : (es.map fun v => [v]).getD i [] = [es.getD i undefV] := by
 rw [List.getD_eq_getElem?_getD, List.getD_eq_getElem?_getD, List.getElem?_map, List.getElem?_eq_getElem h]; rfl
theorem one_length (es : List V) : (es.map fun v => [v]).length = es.length := List.length_map ..
theorem indexF_sc (es : List V) (f : FuncId) {b : Nat} {blk : Blk} (p : Nat → Bool) {H : Hp} {K : V → Hp → Prop} (hb : get H b = some blk) (hn : es.length < 2 ^ 50)
 (hf : ∀ i H K, i < es.length → get H b = some blk → K (.prim (.bool (p i))) H → SC prog f [es.getD i undefV, .ptr b 0 0] H K)
 (hK : K (.prim (.int .i64 (idxP es.length p))) H) : SC prog 283 [.lst 1 (es.map fun v => [v]), .clo f [] [.ptr b 0 0]] H K := by
 refine SCi ?_
 conv in trip _ _ => cbv
 simp only [runT, RN, simprocAttr]
 simp (disch := omega) only [↓RS, RZ, simprocAttr, one_length]
 refine wp_lp (fun (i : Nat) J => ov [(0, .lst 1 (es.map fun v => [v])), (1, .clo f [] [.ptr b 0 0]), (4, .prim (.int .i64 (0))), (6, .lst 1 (es.map fun v => [v])), (7, .prim (.int .i64 ((es.length : Nat) : Int))), (8, .prim (.int .i64 ((i : Nat) : Int)))] J 0 19) (fun i H' => (i ≤ es.length ∧ ∀ j, j < i → p j = false) ∧ H' = H) (fun i => es.length - i) 0 rfl ⟨⟨Nat.zero_le _, fun j hj => absurd hj (Nat.not_lt_zero j)⟩, rfl⟩ ?_
 rintro i J _ ⟨⟨hi, hp⟩, rfl⟩
 try conv in ov _ _ _ _ => simp only [ov, List.lookup, RO, simprocAttr]
 rcases Nat.lt_or_ge i es.length with hlt | hge
 ·have g := one_getD hlt
  simp (disch := omega) only [↓RS, RZ, simprocAttr, one_length, g]
  refine call_sc (hf i _ _ hlt hb ?_)
  cases hpi : p i with
  | true =>
   rw [idxP_found hlt hpi hp] at hK
   simp (disch := omega) only [↓RS, RZ, simprocAttr]
   exact hK
  | false =>
   simp (disch := omega) only [↓RS, RZ, simprocAttr]
   exact lp_next (i + 1) rfl ⟨⟨hlt, fun j hj => by
    rcases Nat.lt_or_ge j i with h | h
    ·exact hp j h
    ·rw [show j = i by omega]; exact hpi⟩, rfl⟩ (by omega)
 ·have hia : i = es.length := by omega
  subst hia
  rw [idxP_none hp] at hK
  simp (disch := omega) only [↓RS, RZ, simprocAttr, one_length]
  exact hK
def anyTo (n : Nat) (p : Nat → Bool) : Bool := (List.range n).any p
theorem containsF_sc (es : List V) (f : FuncId) {b : Nat} {blk : Blk} (p : Nat → Bool) {H : Hp} {K : V → Hp → Prop} (hb : get H b = some blk) (hn : es.length < 2 ^ 50)
 (hf : ∀ i H K, i < es.length → get H b = some blk → K (.prim (.bool (p i))) H → SC prog f [es.getD i undefV, .ptr b 0 0] H K)
 (hK : K (.prim (.bool (anyTo es.length p))) H) : SC prog 233 [.lst 1 (es.map fun v => [v]), .clo f [] [.ptr b 0 0]] H K := by
 unfold anyTo at hK
 rw [← idxP_nonneg] at hK
 refine SCi ?_
 conv in trip _ _ => cbv
 simp only [runT, RN, simprocAttr]
 simp (disch := omega) only [↓RS, RZ, simprocAttr]
 refine call_sc (indexF_sc es f p hb hn hf ?_)
 by_cases h : 0 ≤ idxP es.length p
 ·rw [decide_eq_true h] at hK
  simp (disch := omega) only [↓RS, RZ, simprocAttr]
  exact hK
 ·rw [decide_eq_false h] at hK
  simp (disch := omega) only [↓RS, RZ, simprocAttr]
  exact hK
theorem ring_of {l : List Rp} (h : chkR l = 0) (hl0 : ∀ p ∈ l, p.le (2 ^ 16)) : Ring (pts l) ∧ rpsV l = psV (pts l) := by
 unfold chkR at h
 split at h
 ·cases h
 ·rename_i h1
  split at h
  ·rename_i h2
   exact ⟨⟨by rw [pts_length]; omega, by rw [pts_length]; omega, h, hl_pts h2 hl0 (by omega)⟩, raw_can h2⟩
  ·cases h
def chkH (O : List Rp) (hs : List (List Rp)) (i : Nat) : Int :=
 if chkR (hs.getD i []) ≠ 0 then chkR (hs.getD i [])
 else if meetB (pts (hs.getD i [])) (pts O) = true ∨ anyTo i (fun j => meetB (pts (hs.getD i [])) (pts (hs.getD j []))) = true then 13
 else if withinB (pts (hs.getD i [])) (pts O) = false then 14
 else if anyTo i (fun j => withinB (pts (hs.getD i [])) (pts (hs.getD j [])) || withinB (pts (hs.getD j [])) (pts (hs.getD i []))) = true then 22
 else if 0 < i ∧ 0 ≤ cmpP ((pts (hs.getD (i - 1) [])).getD 0 default) ((pts (hs.getD i [])).getD 0 default) then 8 else 0
theorem hs_getD {hs : List (List Rp)} {i : Nat} (h : i < hs.length) : (hs.map rpsV).getD i undefV = rpsV (hs.getD i []) := by
 rw [List.getD_eq_getElem?_getD, List.getD_eq_getElem?_getD, List.getElem?_map, List.getElem?_eq_getElem h]; rfl
theorem hs_length (hs : List (List Rp)) : (hs.map rpsV).length = hs.length := List.length_map ..
theorem hs_take {hs : List (List Rp)} {i : Nat} : ((hs.map rpsV).map fun v => [v]).take i = ((hs.take i).map rpsV).map fun v => [v] := by
 rw [← List.map_take, ← List.map_take]
theorem take_getD {hs : List (List Rp)} {i j : Nat} (hj : j < i) (hi : i ≤ hs.length) : ((hs.take i).map rpsV).getD j undefV = rpsV (hs.getD j []) := by
 rw [List.getD_eq_getElem?_getD, List.getD_eq_getElem?_getD, List.getElem?_map, List.getElem?_take_of_lt hj, List.getElem?_eq_getElem (by omega)]; rfl
theorem hole_pc (O : List Rp) (hs : List (List Rp)) (i : Nat) (hi : i < hs.length) (hn : hs.length < 2 ^ 50) (hO : chkR O = 0) (kO : ∀ p ∈ O, p.le (2 ^ 16))
 (kh : ∀ l ∈ hs, l.length < 2 ^ 50 ∧ ∀ p ∈ l, p.le (2 ^ 16)) (hb : ∀ j, j < i → chkR (hs.getD j []) = 0) : PC prog 162 [pgV O hs, .prim (.int .i64 ((i : Nat) : Int))] (.prim (.int .i64 (chkH O hs i))) := by
 have mem : ∀ j, j < hs.length → hs.getD j [] ∈ hs := fun j hj => by
  rw [List.getD_eq_getElem?_getD, List.getElem?_eq_getElem hj]; exact List.getElem_mem hj
 obtain ⟨rO, eO⟩ := ring_of hO kO
 have g : ((hs.map rpsV).map fun v => [v]).getD i [] = [rpsV (hs.getD i [])] := by rw [one_getD (by rw [hs_length]; exact hi), hs_getD hi]
 have c := Rcheck_pc (hs.getD i []) (kh _ (mem i hi)).1 (kh _ (mem i hi)).2
 have htake := @hs_take hs i
 have hlen : ((hs.take i).map rpsV).length = i := by rw [List.length_map, List.length_take]; omega
 refine PCi ?_
 conv in trip _ _ => cbv
 simp only [runT, RN, simprocAttr]
 unfold chkH
 simp (disch := omega) only [↓RS, RZ, simprocAttr, pgV, hsV, hs_length, one_length, g, List.drop_zero, Nat.sub_zero, htake, rpsV]
 refine cX c ?_
 by_cases h0 : chkR (hs.getD i []) = 0
 ·rw [if_neg (by simpa using h0)]
  obtain ⟨rh, eh⟩ := ring_of h0 (kh _ (mem i hi)).2
  have m := meet_pc _ _ rh rO
  have w := within_pc _ _ rh rO
  have ring : ∀ j, j < i → Ring (pts (hs.getD j [])) ∧ rpsV (hs.getD j []) = psV (pts (hs.getD j [])) := fun j hj => ring_of (hb j hj) (kh _ (mem j (by omega))).2
  have eh' : (hs.getD i []).map rpc = (pts (hs.getD i [])).map pc := by have := eh; unfold rpsV psV at this; injection this
  have eO' : O.map rpc = (pts O).map pc := by have := eO; unfold rpsV psV at this; injection this
  simp (disch := omega) only [↓RS, RZ, simprocAttr, eh', eO']
  refine cX m ?_
  cases hm : meetB (pts (hs.getD i [])) (pts O) with
  | true =>
   rw [if_pos (.inl rfl)]
   simp (disch := omega) only [↓RS, RZ, simprocAttr]
  | false =>
   simp (disch := omega) only [↓RS, RZ, simprocAttr, eh', eO']
   refine call_sc (containsF_sc ((hs.take i).map rpsV) _ (fun j => meetB (pts (hs.getD i [])) (pts (hs.getD j []))) rfl (by omega) (fun j H K hj hb hK => ?_) ?_)
   ·rw [hlen] at hj
    rw [take_getD hj (by omega), (ring j hj).2]
    exact hole1_sc _ _ rh (ring j hj).1 hb hK
   rw [hlen]
   cases ha : anyTo i (fun j => meetB (pts (hs.getD i [])) (pts (hs.getD j []))) with
   | true =>
    rw [if_pos (.inr rfl)]
    simp (disch := omega) only [↓RS, RZ, simprocAttr]
   | false =>
    rw [if_neg (by simp)]
    simp (disch := omega) only [↓RS, RZ, simprocAttr, eh', eO']
    refine cX w ?_
    cases hw : withinB (pts (hs.getD i [])) (pts O) with
    | false =>
     rw [if_pos rfl]
     simp (disch := omega) only [↓RS, RZ, simprocAttr]
    | true =>
     rw [if_neg (by simp)]
     simp (disch := omega) only [↓RS, RZ, simprocAttr, eh', eO']
     refine call_sc (containsF_sc ((hs.take i).map rpsV) _ (fun j => withinB (pts (hs.getD i [])) (pts (hs.getD j [])) || withinB (pts (hs.getD j [])) (pts (hs.getD i []))) rfl (by omega) (fun j H K hj hb hK => ?_) ?_)
     ·rw [hlen] at hj
      rw [take_getD hj (by omega), (ring j hj).2]
      exact hole2_sc _ _ rh (ring j hj).1 hb hK
     rw [hlen]
     cases hc : anyTo i (fun j => withinB (pts (hs.getD i [])) (pts (hs.getD j [])) || withinB (pts (hs.getD j [])) (pts (hs.getD i []))) with
     | true =>
      rw [if_pos rfl]
      simp (disch := omega) only [↓RS, RZ, simprocAttr]
     | false =>
      rw [if_neg (by simp)]
      by_cases hi0 : 0 < i
      ·obtain ⟨rb, eb⟩ := ring (i - 1) (by omega)
       have eb' : (((hs.take i).map rpsV).map fun v => [v]).getD (i - 1) [] = [.lst 6 ((pts (hs.getD (i - 1) [])).map pc)] := by
        rw [one_getD (by rw [hlen]; omega), take_getD (by omega) (by omega), eb]; rfl
       have l1 := rh.lo
       have l2 := rb.lo
       have p1 := pc_getD (l := pts (hs.getD i [])) (k := 0) (by omega)
       have p2 := pc_getD (l := pts (hs.getD (i - 1) [])) (k := 0) (by omega)
       have v := vcmp_pc ((pts (hs.getD (i - 1) [])).getD 0 default) ((pts (hs.getD i [])).getD 0 default) (Nat.le_trans (hl_get rb.ht (by omega)) (by omega)) (Nat.le_trans (hl_get rh.ht (by omega)) (by omega))
       by_cases hv : 0 ≤ cmpP ((pts (hs.getD (i - 1) [])).getD 0 default) ((pts (hs.getD i [])).getD 0 default)
       ·rw [if_pos ⟨hi0, hv⟩]
        simp (disch := omega) only [↓RS, RZ, simprocAttr, eh', one_length, hlen, eb', pc_length, p1, p2, pc]
        refine cX v ?_
        simp (disch := omega) only [↓RS, RZ, simprocAttr]
       ·rw [if_neg (fun h => hv h.2)]
        simp (disch := omega) only [↓RS, RZ, simprocAttr, eh', one_length, hlen, eb', pc_length, p1, p2, pc]
        refine cX v ?_
        simp (disch := omega) only [↓RS, RZ, simprocAttr]
      ·rw [if_neg (fun h => hi0 h.1)]
       simp (disch := omega) only [↓RS, RZ, simprocAttr]
 ·rw [if_pos h0]
  simp (disch := omega) only [↓RS, RZ, simprocAttr]
end Go.Av
namespace Go.Av
open Go.RowKit
open Go.Proofs.Tryz (prog)
def firstNz (n : Nat) (f : Nat → Int) : Int := match (List.range n).find? (fun i => decide (f i ≠ 0)) with
 | some i => f i
 | none => 0
theorem firstNz_found {n i : Nat} {f : Nat → Int} (hi : i < n) (h : f i ≠ 0) (hf : ∀ j, j < i → f j = 0) : firstNz n f = f i := by
 unfold firstNz
 have : (List.range n).find? (fun i => decide (f i ≠ 0)) = some i := by
  rw [List.find?_range_eq_some]
  exact ⟨by simpa using h, by simpa using hi, fun j hj => by simp [hf j hj]⟩
 rw [this]
theorem firstNz_none {n : Nat} {f : Nat → Int} (hf : ∀ j, j < n → f j = 0) : firstNz n f = 0 := by
 unfold firstNz
 have : (List.range n).find? (fun i => decide (f i ≠ 0)) = none := by
  rw [List.find?_eq_none]; intro j hj; simp [hf j (by simpa using hj)]
 rw [this]
theorem firstNz_zero {n : Nat} {f : Nat → Int} (h : firstNz n f = 0) : ∀ j, j < n → f j = 0 := by
 intro j hj
 unfold firstNz at h
 cases hf : (List.range n).find? (fun i => decide (f i ≠ 0)) with
 | none => rw [List.find?_eq_none] at hf; simpa using hf j (by simpa using hj)
 | some i =>
  rw [hf] at h
  have := List.find?_some hf
  simp at this
  exact absurd h this
theorem chkH_ring {O : List Rp} {hs : List (List Rp)} {i : Nat} (h : chkH O hs i = 0) : chkR (hs.getD i []) = 0 := by
 unfold chkH at h
 split at h
 ·exact h
 ·rename_i h2; simpa using h2
def chkP (O : List Rp) (hs : List (List Rp)) : Int := if chkR O ≠ 0 then chkR O else if 8 < hs.length then 4 else firstNz hs.length (chkH O hs)
theorem Pcheck_pc (O : List Rp) (hs : List (List Rp)) (hn : hs.length < 2 ^ 50) (nO : O.length < 2 ^ 50) (kO : ∀ p ∈ O, p.le (2 ^ 16)) (kh : ∀ l ∈ hs, l.length < 2 ^ 50 ∧ ∀ p ∈ l, p.le (2 ^ 16)) :
 PC prog 74 [pgV O hs] (.prim (.int .i64 (chkP O hs))) := by
 have c := Rcheck_pc O nO kO
 refine PCi ?_
 conv in trip _ _ => cbv
 simp only [runT, RN, simprocAttr]
 unfold chkP
 by_cases h0 : chkR O = 0
 ·rw [if_neg (fun h => h h0)]
  rw [h0] at c
  by_cases h8 : 8 < hs.length
  ·rw [if_pos h8]
   simp (disch := omega) only [↓RS, RZ, simprocAttr, pgV, hsV, rpsV, one_length, hs_length]
   refine cX c ?_
   simp (disch := omega) only [↓RS, RZ, simprocAttr, one_length, hs_length]
  ·rw [if_neg h8]
   simp (disch := omega) only [↓RS, RZ, simprocAttr, pgV, hsV, rpsV, one_length, hs_length]
   refine cX c ?_
   simp (disch := omega) only [↓RS, RZ, simprocAttr, one_length, hs_length]
   refine wp_lp (fun (i : Nat) J => ov [(0, pgV O hs), (1, .ptr 0 0 0), (18, .prim (.int .i64 ((hs.length : Nat) : Int))), (19, .prim (.int .i64 ((i : Nat) : Int)))] J 0 29) (fun i H => (i ≤ hs.length ∧ ∀ j, j < i → chkH O hs j = 0) ∧ H = [some (.row 2 true [[rpsV O, hsV hs]])]) (fun i => hs.length - i) 0 rfl ⟨⟨Nat.zero_le _, fun j hj => absurd hj (Nat.not_lt_zero j)⟩, rfl⟩ ?_
   rintro i J _ ⟨⟨hi, hp⟩, rfl⟩
   try conv in ov _ _ _ _ => simp only [ov, List.lookup, RO, simprocAttr]
   rcases Nat.lt_or_ge i hs.length with hlt | hge
   ·have hc := hole_pc O hs i hlt hn h0 kO kh (fun j hj => chkH_ring (hp j hj))
    simp (disch := omega) only [↓RS, RZ, simprocAttr, pgV, hsV, rpsV, one_length, hs_length]
    refine cX hc ?_
    by_cases hz : chkH O hs i = 0
    ·rw [hz]
     simp (disch := omega) only [↓RS, RZ, simprocAttr]
     exact lp_next (i + 1) rfl ⟨⟨hlt, fun j hj => by
      rcases Nat.lt_or_ge j i with h | h
      ·exact hp j h
      ·rw [show j = i by omega]; exact hz⟩, rfl⟩ (by omega)
    ·rw [firstNz_found hlt hz hp]
     simp (disch := omega) only [↓RS, RZ, simprocAttr]
   ·have hia : i = hs.length := by omega
    subst hia
    rw [firstNz_none hp]
    simp (disch := omega) only [↓RS, RZ, simprocAttr, pgV, hsV, rpsV, one_length, hs_length]
 ·rw [if_pos h0]
  simp (disch := omega) only [↓RS, RZ, simprocAttr, pgV, hsV, rpsV, one_length, hs_length]
  refine cX c ?_
  simp (disch := omega) only [↓RS, RZ, simprocAttr]
end Go.Av
namespace Go.Av
open Go.RowKit
open Go.Proofs.Tryz (prog)
def cgV (L : List Pt) (Hs : List (List Pt)) : V := .agg [psV L, .lst 1 ((Hs.map psV).map fun v => [v])]
theorem rings_sc (A : V) (es : List V) {H : Hp} {K : V → Hp → Prop} (hK : K (.clo 223 [] [.ptr H.length 0 0]) (H ++ [some (.row 2 true [[A, .lst 1 (es.map fun v => [v])]])])) :
 SC prog 155 [.agg [A, .lst 1 (es.map fun v => [v])]] H K := by
 refine SCi ?_
 conv in trip _ _ => cbv
 simp only [runT, RN, simprocAttr]
 simp (disch := omega) only [↓RS, RZ, simprocAttr]
 exact hK
theorem rings1_sc (A : V) (es : List V) (hn : es.length < 2 ^ 40) {yb b : Nat} {H : Hp} {K : V → Hp → Prop} (Inv : Nat → Hp → Prop) (Fin : Hp → Prop)
 (hbox : ∀ i H, Inv i H → get H b = some (.row 2 true [[A, .lst 1 (es.map fun v => [v])]]))
 (step : ∀ i H, i ≤ es.length → Inv i H → YC prog yb [.prim (.int .i64 ((i : Nat) : Int)), (A :: es).getD i undefV] H (yQ (Inv (i + 1)) Fin))
 (h0 : Inv 0 H) (hK : ∀ v H, Inv (es.length + 1) H → K v H) (hF : ∀ v H, Fin H → K v H) : SC prog 223 [.yld yb, .ptr b 0 0] H K := by
 refine SCi ?_
 conv in trip _ _ => cbv
 simp only [runT, RN, simprocAttr]
 have hb := hbox 0 H h0
 simp (disch := omega) only [↓RS, RZ, simprocAttr, hb]
 refine YC.mono ?_ (step 0 _ (Nat.zero_le _) h0)
 rintro v H1 (⟨rfl, h⟩ | ⟨rfl, h⟩)
 ·have hb := hbox _ H1 h
  simp (disch := omega) only [↓RS, RZ, simprocAttr, hb, one_length]
  refine wp_lp (fun (i : Nat) J => ov [(0, .yld yb), (1, .ptr b 0 0), (11, .lst 1 (es.map fun v => [v])), (12, .prim (.int .i64 ((es.length : Nat) : Int))), (13, .prim (.int .i64 ((i : Nat) : Int)))] J 0 25) (fun i H => i ≤ es.length ∧ Inv (i + 1) H) (fun i => es.length - i) 0 rfl ⟨Nat.zero_le _, h⟩ ?_
  rintro i J H ⟨hi, hv⟩
  try conv in ov _ _ _ _ => simp only [ov, List.lookup, RO, simprocAttr]
  rcases Nat.lt_or_ge i es.length with hlt | hge
  ·have g := one_getD hlt
   have st := step (i + 1) _ hlt hv
   simp (disch := omega) only [↓RS, RZ, simprocAttr, one_length, g]
   refine YC.mono ?_ st
   rintro v H' (⟨rfl, h⟩ | ⟨rfl, h⟩)
   ·simp (disch := omega) only [↓RS, RZ, simprocAttr]
    exact lp_next (i + 1) rfl ⟨hlt, h⟩ (by omega)
   ·simp (disch := omega) only [↓RS, RZ, simprocAttr]
    exact hF _ _ h
  ·have hia : i = es.length := by omega
   subst hia
   simp (disch := omega) only [↓RS, RZ, simprocAttr, one_length]
   exact hK _ _ hv
 ·simp (disch := omega) only [↓RS, RZ, simprocAttr]
  exact hF _ _ h
structure Rgs (L : List Pt) (Hs : List (List Pt)) : Prop where
 out : Ring L
 holes : ∀ h ∈ Hs, Ring h
 few : Hs.length ≤ 8
theorem Rgs.get {L : List Pt} {Hs : List (List Pt)} (h : Rgs L Hs) {i : Nat} (hi : i ≤ Hs.length) : Ring ((L :: Hs).getD i []) := by
 cases i with
 | zero => exact h.out
 | succ i =>
  rw [List.getD_cons_succ, List.getD_eq_getElem?_getD, List.getElem?_eq_getElem hi]
  exact h.holes _ (List.getElem_mem hi)
theorem ring_val {L : List Pt} {Hs : List (List Pt)} {i : Nat} (hi : i ≤ Hs.length) : (psV L :: Hs.map psV).getD i undefV = psV ((L :: Hs).getD i []) := by
 cases i with
 | zero => rfl
 | succ i =>
  rw [List.getD_cons_succ, List.getD_cons_succ, List.getD_eq_getElem?_getD, List.getD_eq_getElem?_getD, List.getElem?_map, List.getElem?_eq_getElem hi]; rfl
def cornersTo (Ls : List (List Pt)) : Nat → List Pt
 | 0 => []
 | i + 1 => cornersTo Ls i ++ Ls.getD i []
def edgesTo (Ls : List (List Pt)) : Nat → List Sg
 | 0 => []
 | i + 1 => edgesTo Ls i ++ edgesL (Ls.getD i [])
theorem cornersTo_le {L : List Pt} {Hs : List (List Pt)} (h : Rgs L Hs) : ∀ i, i ≤ Hs.length + 1 → (cornersTo (L :: Hs) i).length ≤ i * 64 ∧ (edgesTo (L :: Hs) i).length = (cornersTo (L :: Hs) i).length
 | 0, _ => by simp [cornersTo, edgesTo]
 | i + 1, hi => by
  obtain ⟨h1, h2⟩ := cornersTo_le h i (by omega)
  have := (h.get (i := i) (by omega)).hi
  simp only [cornersTo, edgesTo, List.length_append, edgesL_length]
  omega
theorem pc_prims (l : List Pt) : Prims (l.map pc) := by
 intro e he v hv
 obtain ⟨s, _, rfl⟩ := List.mem_map.1 he
 simp only [pc, List.mem_cons, List.not_mem_nil, or_false] at hv
 rcases hv with h | h | h | h | h | h <;> exact ⟨_, h⟩
theorem prims_cell {es : List (List V)} (h : Prims es) : ∀ y ∈ es, ∀ v ∈ y, cellV v = true := fun y hy v hv => by
 obtain ⟨x, rfl⟩ := h y hy v hv; rfl
theorem cornersTo_ne {L : List Pt} {Hs : List (List Pt)} (h : Rgs L Hs) : ∀ i, cornersTo (L :: Hs) (i + 1) ≠ []
 | 0 => by simp only [cornersTo, List.nil_append]; exact h.out.ne
 | i + 1 => by
  rw [cornersTo]
  intro e
  exact cornersTo_ne h i (List.append_eq_nil_iff.1 e).1
theorem corners_pc (L : List Pt) (Hs : List (List Pt)) (hg : Rgs L Hs) : PC prog 127 [cgV L Hs] (psV (cornersTo (L :: Hs) (Hs.length + 1))) := by
 have hf := hg.few
 refine PCi ?_
 conv in trip _ _ => cbv
 simp only [runT, RN, simprocAttr]
 simp (disch := omega) only [↓RS, RZ, simprocAttr, cgV]
 refine call_sc (rings_sc (psV L) (Hs.map psV) ?_)
 simp (disch := omega) only [↓RS, RZ, simprocAttr]
 refine wp_rf mixed (n := 3) (k := 2) rfl rfl rfl (by kernel_rfl) ?_
 conv in lcC _ => cbv
 conv in lcC _ => cbv
 intro R B D hR hyc
 simp only [List.nil_append, List.cons_append] at hyc ⊢
 refine rings1_sc (psV L) (Hs.map psV) (by rw [List.length_map]; omega) (fun i H => ∃ v, get H 1 = some (.row 1 true [[v]]) ∧ get H 2 = some (.row 2 true [[psV L, .lst 1 ((Hs.map psV).map fun v => [v])]]) ∧ get H 3 = some R ∧ Bufn 4 H v 6 ((cornersTo (L :: Hs) i).map pc)) (fun _ => False) ?_ ?_ ?_ ?_ ?_
 ·rintro i H ⟨v, h⟩; exact h.2.1
 ·rintro i H hlt ⟨v, h0, h1, h2, h3⟩
  rw [List.length_map] at hlt
  rw [ring_val hlt]
  have hr := hg.get hlt
  refine hyc _ _ _ rfl h2 ?_
  clear hyc
  simp (disch := omega) only [↓RS, RZ, simprocAttr, yieldT_cons, yieldT_nil, psV]
  rw [bgQ_normal]
  refine ⟨h2, ?_⟩
  have hN := h3.1
  have q0 : get (H.set 3 (some B)) 1 = some (.row 1 true [[v]]) := by rw [get_ne (by omega)]; exact h0
  have q1 : get (H.set 3 (some B)) 2 = some (.row 2 true [[psV L, .lst 1 ((Hs.map psV).map fun v => [v])]]) := by rw [get_ne (by omega)]; exact h1
  have q2 : get (H.set 3 (some B)) 3 = some B := get_eq (by omega)
  have q3 := h3.set (c := 3) (x := some B) (by omega)
  generalize H.set 3 (some B) = H1 at q0 q1 q2 q3 ⊢
  simp (disch := omega) only [↓RS, RZ, simprocAttr, q0]
  have hl1 := (cornersTo_le hg i (by omega)).1
  have hl2 := hr.hi
  refine Bufn.append q3 (prims_cell (pc_prims _)) (by simp only [List.length_map]; omega) (by simp only [List.length_map]; omega) ?_
  intro v' H2 hb hk
  have r0 := hk 1 _ (by omega) q0
  have r1 := hk 2 _ (by omega) q1
  have r2 := hk 3 _ (by omega) q2
  have c1 := hb.one
  have c2 := hb.cel
  simp (disch := omega) only [↓RS, RZ, simprocAttr, r0, c1, c2]
  rw [rdQ_normal]
  have hl3 := hb.1
  refine ⟨by rw [get_ne (by omega)]; exact r2, .inl ⟨rfl, v', ?_, ?_, ?_, ?_⟩⟩
  ·rw [get_ne (by omega), get_eq (by omega)]
  ·rw [get_ne (by omega), get_ne (by omega)]; exact r1
  ·rw [get_eq (by rw [List.length_set]; omega)]
  ·show Bufn 4 _ v' 6 ((cornersTo (L :: Hs) i ++ (L :: Hs).getD i []).map pc)
   rw [List.map_append]
   exact (hb.set (by omega)).set (by omega)
 ·exact ⟨_, rfl, rfl, rfl, .nil (by simp)⟩
 ·rintro v H ⟨u, h0, h1, h2, h3⟩
  rw [List.length_map] at h3
  refine .inl ⟨h2, ?_⟩
  have hne : cornersTo (L :: Hs) (Hs.length + 1) ≠ [] := cornersTo_ne hg _
  obtain ⟨b, hb, rfl, hg2⟩ := h3.cases (by simpa using hne)
  have e0 : get (H.set 3 none) 1 = some (.row 1 true [[.sref b 0 ((cornersTo (L :: Hs) (Hs.length + 1)).map pc).length ((cornersTo (L :: Hs) (Hs.length + 1)).map pc).length 6 false]]) := by rw [get_ne (by omega)]; exact h0
  have e1 : get (H.set 3 none) b = some (.row 6 true ((cornersTo (L :: Hs) (Hs.length + 1)).map pc)) := by rw [get_ne (by omega)]; exact hg2
  have hvl := @viewLL_prims (H.set 3 none) 7 _ (pc_prims (cornersTo (L :: Hs) (Hs.length + 1)))
  generalize cornersTo (L :: Hs) (Hs.length + 1) = C at *
  have hlen : (C.map pc).length = C.length := List.length_map ..
  have htk : (C.map pc).take C.length = C.map pc := by rw [List.take_of_length_le (by omega)]
  simp (disch := omega) only [↓RS, RZ, simprocAttr, e0, hlen]
  rw [e1]
  simp only [hlen, Nat.le_refl, if_true, htk]
  rw [hvl]
  rfl
 ·exact fun _ _ h => h.elim
theorem edges_pc (L : List Pt) (Hs : List (List Pt)) (hg : Rgs L Hs) : PC prog 130 [cgV L Hs] (ssV (edgesTo (L :: Hs) (Hs.length + 1))) := by
 have hf := hg.few
 refine PCi ?_
 conv in trip _ _ => cbv
 simp only [runT, RN, simprocAttr]
 simp (disch := omega) only [↓RS, RZ, simprocAttr, cgV]
 refine call_sc (rings_sc (psV L) (Hs.map psV) ?_)
 simp (disch := omega) only [↓RS, RZ, simprocAttr]
 refine wp_rf mixed (n := 3) (k := 2) rfl rfl rfl (by kernel_rfl) ?_
 conv in lcC _ => cbv
 conv in lcC _ => cbv
 intro R B D hR hyc
 simp only [List.nil_append, List.cons_append] at hyc ⊢
 refine rings1_sc (psV L) (Hs.map psV) (by rw [List.length_map]; omega) (fun i H => ∃ v, get H 1 = some (.row 1 true [[v]]) ∧ get H 2 = some (.row 2 true [[psV L, .lst 1 ((Hs.map psV).map fun v => [v])]]) ∧ get H 3 = some R ∧ Bufn 4 H v 12 ((edgesTo (L :: Hs) i).map sgc)) (fun _ => False) ?_ ?_ ?_ ?_ ?_
 ·rintro i H ⟨v, h⟩; exact h.2.1
 ·rintro i H hlt ⟨v, h0, h1, h2, h3⟩
  rw [List.length_map] at hlt
  rw [ring_val hlt]
  have hr := hg.get hlt
  refine hyc _ _ _ rfl h2 ?_
  clear hyc
  simp (disch := omega) only [↓RS, RZ, simprocAttr, yieldT_cons, yieldT_nil, psV]
  rw [bgQ_normal]
  refine ⟨h2, ?_⟩
  have hN := h3.1
  have q0 : get (H.set 3 (some B)) 1 = some (.row 1 true [[v]]) := by rw [get_ne (by omega)]; exact h0
  have q1 : get (H.set 3 (some B)) 2 = some (.row 2 true [[psV L, .lst 1 ((Hs.map psV).map fun v => [v])]]) := by rw [get_ne (by omega)]; exact h1
  have q2 : get (H.set 3 (some B)) 3 = some B := get_eq (by omega)
  have q3 := h3.set (c := 3) (x := some B) (by omega)
  generalize H.set 3 (some B) = H1 at q0 q1 q2 q3 ⊢
  have ee := Edges_pc ((L :: Hs).getD i []) (by have := hr.hi; omega) hr.ne
  simp (disch := omega) only [↓RS, RZ, simprocAttr, q0]
  refine cX ee ?_
  simp (disch := omega) only [↓RS, RZ, simprocAttr, ssV]
  obtain ⟨hl1, hl4⟩ := cornersTo_le hg i (by omega)
  have hl2 := hr.hi
  refine Bufn.append q3 (prims_cell (sgc_prims _)) (by simp only [List.length_map, edgesL_length]; omega) (by simp only [List.length_map, edgesL_length]; omega) ?_
  intro v' H2 hb hk
  have r0 := hk 1 _ (by omega) q0
  have r1 := hk 2 _ (by omega) q1
  have r2 := hk 3 _ (by omega) q2
  have c1 := hb.one
  have c2 := hb.cel
  simp (disch := omega) only [↓RS, RZ, simprocAttr, r0, c1, c2]
  rw [rdQ_normal]
  have hl3 := hb.1
  refine ⟨by rw [get_ne (by omega)]; exact r2, .inl ⟨rfl, v', ?_, ?_, ?_, ?_⟩⟩
  ·rw [get_ne (by omega), get_eq (by omega)]
  ·rw [get_ne (by omega), get_ne (by omega)]; exact r1
  ·rw [get_eq (by rw [List.length_set]; omega)]
  ·show Bufn 4 _ v' 12 ((edgesTo (L :: Hs) i ++ edgesL ((L :: Hs).getD i [])).map sgc)
   rw [List.map_append]
   exact (hb.set (by omega)).set (by omega)
 ·exact ⟨_, rfl, rfl, rfl, .nil (by simp)⟩
 ·rintro v H ⟨u, h0, h1, h2, h3⟩
  rw [List.length_map] at h3
  refine .inl ⟨h2, ?_⟩
  have hne : edgesTo (L :: Hs) (Hs.length + 1) ≠ [] := fun h => cornersTo_ne hg Hs.length (List.length_eq_zero_iff.1 (by rw [← (cornersTo_le hg (Hs.length + 1) (Nat.le_refl _)).2, h]; rfl))
  obtain ⟨b, hb, rfl, hg2⟩ := h3.cases (by simpa using hne)
  have e0 : get (H.set 3 none) 1 = some (.row 1 true [[.sref b 0 ((edgesTo (L :: Hs) (Hs.length + 1)).map sgc).length ((edgesTo (L :: Hs) (Hs.length + 1)).map sgc).length 12 false]]) := by rw [get_ne (by omega)]; exact h0
  have e1 : get (H.set 3 none) b = some (.row 12 true ((edgesTo (L :: Hs) (Hs.length + 1)).map sgc)) := by rw [get_ne (by omega)]; exact hg2
  have hvl := @viewLL_prims (H.set 3 none) 7 _ (sgc_prims (edgesTo (L :: Hs) (Hs.length + 1)))
  generalize edgesTo (L :: Hs) (Hs.length + 1) = C at *
  have hlen : (C.map sgc).length = C.length := List.length_map ..
  have htk : (C.map sgc).take C.length = C.map sgc := by rw [List.take_of_length_le (by omega)]
  simp (disch := omega) only [↓RS, RZ, simprocAttr, e0, hlen]
  rw [e1]
  simp only [hlen, Nat.le_refl, if_true, htk]
  rw [hvl]
  rfl
 ·exact fun _ _ h => h.elim
end Go.Av
namespace Go.Av
open Go.RowKit
open Go.Proofs.Tryz (prog)
def bigP (p : Rp) : Bool := decide (12 < p.x.num.length) || (decide (12 < p.x.den.length) || (decide (12 < p.y.num.length) || decide (12 < p.y.den.length)))
def greatL (l : List Rp) : Bool := anyTo l.length fun i => bigP (l.getD i default)
theorem anyTo_true {n i : Nat} {p : Nat → Bool} (hi : i < n) (h : p i = true) : anyTo n p = true := List.any_eq_true.2 ⟨i, by simpa using hi, h⟩
theorem anyTo_false {n : Nat} {p : Nat → Bool} (h : ∀ i, i < n → p i = false) : anyTo n p = false := by
 unfold anyTo; rw [List.any_eq_false]; intro i hi; rw [h i (by simpa using hi)]; simp
theorem anyTo_get {n i : Nat} {p : Nat → Bool} (h : anyTo n p = false) (hi : i < n) : p i = false := by
 cases hp : p i with
 | false => rfl
 | true => rw [anyTo_true hi hp] at h; cases h
theorem great_pc (l : List Rp) (hn : l.length < 2 ^ 63) (hf : ∀ p ∈ l, p.fit) : PC prog 56 [rpsV l] (.prim (.bool (greatL l))) := by
 refine PCi ?_
 conv in trip _ _ => cbv
 simp only [runT, RN, simprocAttr]
 simp (disch := omega) only [↓RS, RZ, simprocAttr]
 refine wp_lp (fun (i : Nat) J => ov [(0, rpsV l), (3, .prim (.int .i64 ((i : Nat) : Int)))] J 0 48) (fun i H => (i ≤ l.length ∧ ∀ j, j < i → bigP (l.getD j default) = false) ∧ H = []) (fun i => l.length - i) 0 rfl ⟨⟨Nat.zero_le _, fun j hj => absurd hj (Nat.not_lt_zero j)⟩, rfl⟩ ?_
 rintro i J _ ⟨⟨hi, hp⟩, rfl⟩
 try conv in ov _ _ _ _ => simp only [ov, List.lookup, RO, simprocAttr]
 rcases Nat.lt_or_ge i l.length with hlt | hge
 ·have g := rpc_getD hlt
  have hmem : l.getD i default ∈ l := by rw [List.getD_eq_getElem?_getD, List.getElem?_eq_getElem hlt]; exact List.getElem_mem hlt
  have hfit := hf _ hmem
  generalize hp' : l.getD i default = p at g hfit
  obtain ⟨⟨f1, f2⟩, f3, f4⟩ := hfit
  have hm : maxLen < 2 ^ 63 := by decide
  by_cases c1 : 12 < p.x.num.length
  ·rw [show greatL l = true from anyTo_true hlt (by rw [hp']; simp only [bigP, decide_eq_true_eq, Bool.or_eq_true]; omega)]
   simp (disch := omega) only [↓RS, RZ, simprocAttr, rpsV, rpc_length, g, rpc, bs_size]
  ·by_cases c2 : 12 < p.x.den.length
   ·rw [show greatL l = true from anyTo_true hlt (by rw [hp']; simp only [bigP, decide_eq_true_eq, Bool.or_eq_true]; omega)]
    simp (disch := omega) only [↓RS, RZ, simprocAttr, rpsV, rpc_length, g, rpc, bs_size]
   ·by_cases c3 : 12 < p.y.num.length
    ·rw [show greatL l = true from anyTo_true hlt (by rw [hp']; simp only [bigP, decide_eq_true_eq, Bool.or_eq_true]; omega)]
     simp (disch := omega) only [↓RS, RZ, simprocAttr, rpsV, rpc_length, g, rpc, bs_size]
    ·by_cases c4 : 12 < p.y.den.length
     ·rw [show greatL l = true from anyTo_true hlt (by rw [hp']; simp only [bigP, decide_eq_true_eq, Bool.or_eq_true]; omega)]
      simp (disch := omega) only [↓RS, RZ, simprocAttr, rpsV, rpc_length, g, rpc, bs_size]
     ·simp (disch := omega) only [↓RS, RZ, simprocAttr, rpsV, rpc_length, g, rpc, bs_size]
      exact lp_next (i + 1) rfl ⟨⟨hlt, fun j hj => by
       rcases Nat.lt_or_ge j i with h | h
       ·exact hp j h
       ·rw [show j = i by omega, hp']; simp only [bigP, decide_eq_false c1, decide_eq_false c2, decide_eq_false c3, decide_eq_false c4]; rfl⟩, rfl⟩ (by omega)
 ·have hia : i = l.length := by omega
  subst hia
  have : greatL l = false := anyTo_false hp
  rw [this]
  simp (disch := omega) only [↓RS, RZ, simprocAttr, rpsV, rpc_length]
def greatP (O : List Rp) (hs : List (List Rp)) : Bool :=
 decide (10 < O.length ∧ O.length ≤ 64) || (decide (67 < O.length) || (greatL O || (anyTo (min hs.length 11) (fun i => decide (6 < (hs.getD i []).length) || greatL (hs.getD i [])) || (decide (3 < hs.length ∧ hs.length ≤ 8) || decide (10 < hs.length)))))
theorem greatP_pc (O : List Rp) (hs : List (List Rp)) (hn : hs.length < 2 ^ 63) (nO : O.length < 2 ^ 63) (kO : ∀ p ∈ O, p.fit) (kh : ∀ l ∈ hs, l.length < 2 ^ 63 ∧ ∀ p ∈ l, p.fit) :
 PC prog 61 [pgV O hs] (.prim (.bool (greatP O hs))) := by
 have c := great_pc O nO kO
 have mem : ∀ j, j < hs.length → hs.getD j [] ∈ hs := fun j hj => by
  rw [List.getD_eq_getElem?_getD, List.getElem?_eq_getElem hj]; exact List.getElem_mem hj
 refine PCi ?_
 conv in trip _ _ => cbv
 simp only [runT, RN, simprocAttr]
 by_cases c1 : 10 < O.length ∧ O.length ≤ 64
 ·obtain ⟨c1, c1'⟩ := c1
  rw [show greatP O hs = true by unfold greatP; rw [decide_eq_true (show 10 < O.length ∧ O.length ≤ 64 from ⟨c1, c1'⟩)]; rfl]
  simp (disch := omega) only [↓RS, RZ, simprocAttr, pgV, hsV, rpsV, rpc_length, one_length, hs_length]
 have d1 : decide (10 < O.length ∧ O.length ≤ 64) = false := decide_eq_false c1
 by_cases c2 : 67 < O.length
 ·rw [show greatP O hs = true by unfold greatP; rw [decide_eq_true c2]; simp]
  simp (disch := omega) only [↓RS, RZ, simprocAttr, pgV, hsV, rpsV, rpc_length, one_length, hs_length]
 have d2 : decide (67 < O.length) = false := decide_eq_false c2
 cases c3 : greatL O with
 | true =>
  rw [show greatP O hs = true by unfold greatP; rw [c3]; simp]
  rw [c3] at c
  rcases Nat.lt_or_ge 10 O.length with hl1 | hl1
  ·have hl2 : 64 < O.length := by omega
   simp (disch := omega) only [↓RS, RZ, simprocAttr, pgV, hsV, rpsV, rpc_length, one_length, hs_length]
   refine cX c ?_
   simp (disch := omega) only [↓RS, RZ, simprocAttr]
  ·simp (disch := omega) only [↓RS, RZ, simprocAttr, pgV, hsV, rpsV, rpc_length, one_length, hs_length]
   refine cX c ?_
   simp (disch := omega) only [↓RS, RZ, simprocAttr]
 | false =>
  rw [c3] at c
  have fin : ∀ (b : Bool), (anyTo (min hs.length 11) (fun i => decide (6 < (hs.getD i []).length) || greatL (hs.getD i [])) || (decide (3 < hs.length ∧ hs.length ≤ 8) || decide (10 < hs.length))) = b → greatP O hs = b := by
   intro b hb; unfold greatP; rw [d1, d2, c3, hb]; rfl
  rcases Nat.lt_or_ge 10 O.length with hl1 | hl1
  ·have hl2 : 64 < O.length := by omega
   simp (disch := omega) only [↓RS, RZ, simprocAttr, pgV, hsV, rpsV, rpc_length, one_length, hs_length]
   refine cX c ?_
   simp (disch := omega) only [↓RS, RZ, simprocAttr]
   refine wp_lp (fun (i : Nat) J => ov [(1, .ptr 0 0 0), (4, .prim (.int .i64 ((i : Nat) : Int)))] J 0 65) (fun i H => (i ≤ min hs.length 11 ∧ ∀ j, j < i → (decide (6 < (hs.getD j []).length) || greatL (hs.getD j [])) = false) ∧ H = [some (.row 2 true [[rpsV O, hsV hs]])]) (fun i => 11 - i) 0 rfl ⟨⟨Nat.zero_le _, fun j hj => absurd hj (Nat.not_lt_zero j)⟩, rfl⟩ ?_
   rintro i J _ ⟨⟨hi, hp⟩, rfl⟩
   try conv in ov _ _ _ _ => simp only [ov, List.lookup, RO, simprocAttr]
   rcases Nat.lt_or_ge i (min hs.length 11) with hlt | hge
   ·have hi1 : i < hs.length := by omega
    have hi2 : i < 11 := by omega
    have g : ((hs.map rpsV).map fun v => [v]).getD i [] = [rpsV (hs.getD i [])] := by rw [one_getD (by rw [hs_length]; exact hi1), hs_getD hi1]
    have d := great_pc (hs.getD i []) (kh _ (mem i hi1)).1 (kh _ (mem i hi1)).2
    have hll := (kh _ (mem i hi1)).1
    by_cases h6 : 6 < (hs.getD i []).length
    ·rw [fin true (by rw [anyTo_true hlt (by rw [decide_eq_true h6]; rfl)]; rfl)]
     simp (disch := omega) only [↓RS, RZ, simprocAttr, pgV, hsV, rpsV, rpc_length, one_length, hs_length, g]
    ·cases hg : greatL (hs.getD i []) with
     | true =>
      rw [fin true (by rw [anyTo_true hlt (by rw [hg]; simp)]; rfl)]
      rw [hg] at d
      simp (disch := omega) only [↓RS, RZ, simprocAttr, pgV, hsV, rpsV, rpc_length, one_length, hs_length, g]
      refine cX d ?_
      simp (disch := omega) only [↓RS, RZ, simprocAttr]
     | false =>
      rw [hg] at d
      simp (disch := omega) only [↓RS, RZ, simprocAttr, pgV, hsV, rpsV, rpc_length, one_length, hs_length, g]
      refine cX d ?_
      simp (disch := omega) only [↓RS, RZ, simprocAttr]
      exact lp_next (i + 1) rfl ⟨⟨hlt, fun j hj => by
       rcases Nat.lt_or_ge j i with h | h
       ·exact hp j h
       ·rw [show j = i by omega, hg, decide_eq_false h6]; rfl⟩, rfl⟩ (by omega)
   ·have hany := anyTo_false (n := min hs.length 11) (fun j hj => hp j (by omega))
    rcases Nat.lt_or_ge 10 hs.length with hA | hA
    ·rw [fin true (by rw [hany, decide_eq_true hA]; simp)]
     have hA2 : 8 < hs.length := by omega
     rcases Nat.lt_or_ge i hs.length with hX | hX
     ·have hX2 : 11 ≤ i := by omega
      simp (disch := omega) only [↓RS, RZ, simprocAttr, pgV, hsV, rpsV, rpc_length, one_length, hs_length]
     ·simp (disch := omega) only [↓RS, RZ, simprocAttr, pgV, hsV, rpsV, rpc_length, one_length, hs_length]
    ·have hX : hs.length ≤ i := by omega
     by_cases hB : 3 < hs.length ∧ hs.length ≤ 8
     ·rw [fin true (by rw [hany, decide_eq_true hB]; rfl)]
      obtain ⟨hB1, hB2⟩ := hB
      simp (disch := omega) only [↓RS, RZ, simprocAttr, pgV, hsV, rpsV, rpc_length, one_length, hs_length]
     ·rw [fin false (by rw [hany, decide_eq_false hB, decide_eq_false (Nat.not_lt.2 hA)]; rfl)]
      rcases Nat.lt_or_ge 3 hs.length with hC | hC
      ·have hC2 : 8 < hs.length := by omega
       simp (disch := omega) only [↓RS, RZ, simprocAttr, pgV, hsV, rpsV, rpc_length, one_length, hs_length]
      ·simp (disch := omega) only [↓RS, RZ, simprocAttr, pgV, hsV, rpsV, rpc_length, one_length, hs_length]
  ·simp (disch := omega) only [↓RS, RZ, simprocAttr, pgV, hsV, rpsV, rpc_length, one_length, hs_length]
   refine cX c ?_
   simp (disch := omega) only [↓RS, RZ, simprocAttr]
   refine wp_lp (fun (i : Nat) J => ov [(1, .ptr 0 0 0), (4, .prim (.int .i64 ((i : Nat) : Int)))] J 0 65) (fun i H => (i ≤ min hs.length 11 ∧ ∀ j, j < i → (decide (6 < (hs.getD j []).length) || greatL (hs.getD j [])) = false) ∧ H = [some (.row 2 true [[rpsV O, hsV hs]])]) (fun i => 11 - i) 0 rfl ⟨⟨Nat.zero_le _, fun j hj => absurd hj (Nat.not_lt_zero j)⟩, rfl⟩ ?_
   rintro i J _ ⟨⟨hi, hp⟩, rfl⟩
   try conv in ov _ _ _ _ => simp only [ov, List.lookup, RO, simprocAttr]
   rcases Nat.lt_or_ge i (min hs.length 11) with hlt | hge
   ·have hi1 : i < hs.length := by omega
    have hi2 : i < 11 := by omega
    have g : ((hs.map rpsV).map fun v => [v]).getD i [] = [rpsV (hs.getD i [])] := by rw [one_getD (by rw [hs_length]; exact hi1), hs_getD hi1]
    have d := great_pc (hs.getD i []) (kh _ (mem i hi1)).1 (kh _ (mem i hi1)).2
    have hll := (kh _ (mem i hi1)).1
    by_cases h6 : 6 < (hs.getD i []).length
    ·rw [fin true (by rw [anyTo_true hlt (by rw [decide_eq_true h6]; rfl)]; rfl)]
     simp (disch := omega) only [↓RS, RZ, simprocAttr, pgV, hsV, rpsV, rpc_length, one_length, hs_length, g]
    ·cases hg : greatL (hs.getD i []) with
     | true =>
      rw [fin true (by rw [anyTo_true hlt (by rw [hg]; simp)]; rfl)]
      rw [hg] at d
      simp (disch := omega) only [↓RS, RZ, simprocAttr, pgV, hsV, rpsV, rpc_length, one_length, hs_length, g]
      refine cX d ?_
      simp (disch := omega) only [↓RS, RZ, simprocAttr]
     | false =>
      rw [hg] at d
      simp (disch := omega) only [↓RS, RZ, simprocAttr, pgV, hsV, rpsV, rpc_length, one_length, hs_length, g]
      refine cX d ?_
      simp (disch := omega) only [↓RS, RZ, simprocAttr]
      exact lp_next (i + 1) rfl ⟨⟨hlt, fun j hj => by
       rcases Nat.lt_or_ge j i with h | h
       ·exact hp j h
       ·rw [show j = i by omega, hg, decide_eq_false h6]; rfl⟩, rfl⟩ (by omega)
   ·have hany := anyTo_false (n := min hs.length 11) (fun j hj => hp j (by omega))
    rcases Nat.lt_or_ge 10 hs.length with hA | hA
    ·rw [fin true (by rw [hany, decide_eq_true hA]; simp)]
     have hA2 : 8 < hs.length := by omega
     rcases Nat.lt_or_ge i hs.length with hX | hX
     ·have hX2 : 11 ≤ i := by omega
      simp (disch := omega) only [↓RS, RZ, simprocAttr, pgV, hsV, rpsV, rpc_length, one_length, hs_length]
     ·simp (disch := omega) only [↓RS, RZ, simprocAttr, pgV, hsV, rpsV, rpc_length, one_length, hs_length]
    ·have hX : hs.length ≤ i := by omega
     by_cases hB : 3 < hs.length ∧ hs.length ≤ 8
     ·rw [fin true (by rw [hany, decide_eq_true hB]; rfl)]
      obtain ⟨hB1, hB2⟩ := hB
      simp (disch := omega) only [↓RS, RZ, simprocAttr, pgV, hsV, rpsV, rpc_length, one_length, hs_length]
     ·rw [fin false (by rw [hany, decide_eq_false hB, decide_eq_false (Nat.not_lt.2 hA)]; rfl)]
      rcases Nat.lt_or_ge 3 hs.length with hC | hC
      ·have hC2 : 8 < hs.length := by omega
       simp (disch := omega) only [↓RS, RZ, simprocAttr, pgV, hsV, rpsV, rpc_length, one_length, hs_length]
      ·simp (disch := omega) only [↓RS, RZ, simprocAttr, pgV, hsV, rpsV, rpc_length, one_length, hs_length]
end Go.Av
namespace Go.Av
open Go.RowKit
open Go.Proofs.Tryz (prog)
structure Fine (O : List Rp) (hs : List (List Rp)) : Prop where
 chk : chkP O hs = 0
 kO : ∀ p ∈ O, p.le (2 ^ 16)
 kh : ∀ l ∈ hs, l.length < 2 ^ 50 ∧ ∀ p ∈ l, p.le (2 ^ 16)
theorem Fine.o0 {O : List Rp} {hs : List (List Rp)} (h : Fine O hs) : chkR O = 0 := by
 have := h.chk
 unfold chkP at this
 split at this
 ·exact this
 ·rename_i h2; simpa using h2
theorem Fine.few {O : List Rp} {hs : List (List Rp)} (h : Fine O hs) : hs.length ≤ 8 := by
 have := h.chk
 unfold chkP at this
 rw [if_neg (fun h2 => h2 h.o0)] at this
 split at this
 ·cases this
 ·omega
theorem Fine.hz {O : List Rp} {hs : List (List Rp)} (h : Fine O hs) : ∀ j, j < hs.length → chkH O hs j = 0 := by
 have := h.chk
 unfold chkP at this
 rw [if_neg (fun h2 => h2 h.o0), if_neg (by have := h.few; omega)] at this
 exact firstNz_zero this
theorem Fine.hr {O : List Rp} {hs : List (List Rp)} (h : Fine O hs) : ∀ l ∈ hs, chkR l = 0 := by
 intro l hl
 obtain ⟨i, hi, rfl⟩ := List.mem_iff_getElem.1 hl
 have := chkH_ring (h.hz i hi)
 rwa [List.getD_eq_getElem?_getD, List.getElem?_eq_getElem hi] at this
theorem Fine.rgs {O : List Rp} {hs : List (List Rp)} (h : Fine O hs) : Rgs (pts O) (hs.map pts) := by
 refine ⟨(ring_of h.o0 h.kO).1, ?_, by rw [List.length_map]; exact h.few⟩
 intro l hl
 obtain ⟨k, hk, rfl⟩ := List.mem_map.1 hl
 exact (ring_of (h.hr k hk) (h.kh k hk).2).1
theorem Fine.val {O : List Rp} {hs : List (List Rp)} (h : Fine O hs) : pgV O hs = cgV (pts O) (hs.map pts) := by
 unfold pgV cgV hsV
 rw [(ring_of h.o0 h.kO).2]
 have : hs.map rpsV = (hs.map pts).map psV := by
  rw [List.map_map]
  exact List.map_congr_left fun l hl => (ring_of (h.hr l hl) (h.kh l hl).2).2
 rw [this]
theorem Fine.no {O : List Rp} {hs : List (List Rp)} (h : Fine O hs) : O.length ≤ 64 := by have := h.rgs.out.hi; rwa [pts_length] at this
theorem Fine.check_pc {O : List Rp} {hs : List (List Rp)} (h : Fine O hs) : PC prog 74 [cgV (pts O) (hs.map pts)] (.prim (.int .i64 (0))) := by
 have := Pcheck_pc O hs (by have := h.few; omega) (by have := h.no; omega) h.kO h.kh
 rw [h.chk, h.val] at this
 exact this
theorem pg_getD {Hs : List (List Pt)} {i : Nat} (h : i < Hs.length) : ((Hs.map psV).map fun v => [v]).getD i [] = [psV (Hs.getD i [])] := by
 rw [one_getD (by rw [List.length_map]; exact h), List.getD_eq_getElem?_getD, List.getD_eq_getElem?_getD, List.getElem?_map, List.getElem?_eq_getElem h]; rfl
theorem pgs_length (Hs : List (List Pt)) : (Hs.map psV).length = Hs.length := List.length_map ..
def areaPTo (L : List Pt) (Hs : List (List Pt)) : Nat → Rat
 | 0 => areaL L
 | i + 1 => areaPTo L Hs i - areaL (Hs.getD i [])
theorem ht_areaL {L : List Pt} (h : Ring L) : ht (areaL L) ≤ 2 ^ 25 := by
 have h1 := ht_areaTo h.ht L.length (Nat.le_refl _)
 have h2 := ht_div (areaTo L L.length) 2
 have h3 := ht_two
 have h4 : L.length * (4 * 2 ^ 16 + 2) ≤ 64 * (4 * 2 ^ 16 + 2) := Nat.mul_le_mul_right _ h.hi
 unfold areaL
 omega
theorem Rgs.hole {L : List Pt} {Hs : List (List Pt)} (h : Rgs L Hs) {i : Nat} (hi : i < Hs.length) : Ring (Hs.getD i []) := by
 rw [List.getD_eq_getElem?_getD, List.getElem?_eq_getElem hi]
 exact h.holes _ (List.getElem_mem hi)
theorem ht_areaPTo {L : List Pt} {Hs : List (List Pt)} (h : Rgs L Hs) : ∀ i, i ≤ Hs.length → ht (areaPTo L Hs i) ≤ (i + 1) * (2 ^ 25 + 1)
 | 0, _ => by have := ht_areaL h.out; simp only [areaPTo]; omega
 | i + 1, hi => by
  have h1 := ht_areaPTo h i (by omega)
  have h2 := ht_areaL (h.hole hi)
  have h3 := ht_sub (areaPTo L Hs i) (areaL (Hs.getD i []))
  simp only [areaPTo]
  omega
theorem AreaP_pc {O : List Rp} {hs : List (List Rp)} (h : Fine O hs) : PC prog 34 [cgV (pts O) (hs.map pts)] (.tup [qV (areaPTo (pts O) (hs.map pts) hs.length), .prim (.int .i64 (0))]) := by
 have c := h.check_pc
 have hr := h.rgs
 have hlen : (hs.map pts).length = hs.length := List.length_map ..
 generalize hs.map pts = Hs at *
 generalize pts O = L at *
 rw [← hlen]
 have hf := hr.few
 have hi := hr.out.hi
 have a := Area_pc L (by omega) hr.out.ht
 refine PCi ?_
 conv in trip _ _ => cbv
 simp only [runT, RN, simprocAttr]
 simp (disch := omega) only [↓RS, RZ, simprocAttr, cgV, psV]
 refine cX c ?_
 simp (disch := omega) only [↓RS, RZ, simprocAttr, psV]
 refine cX a ?_
 simp (disch := omega) only [↓RS, RZ, simprocAttr, qV, rV, one_length, pgs_length]
 have hz : qc 0 = [.prim (.bool false), .prim (.string (bs ([]))), .prim (.string (bs ([])))] := by simp only [qc, can_zero]
 refine wp_lp (fun (i : Nat) J => ov [(1, .ptr 0 0 0), (2, .ptr 1 0 0), (3, .prim (.int .i64 (0))), (4, .ptr 2 0 0), (15, .lst 1 ((Hs.map psV).map fun v => [v])), (16, .prim (.int .i64 ((Hs.length : Nat) : Int))), (17, .prim (.int .i64 ((i : Nat) : Int)))] J 0 27) (fun i H => i ≤ Hs.length ∧ ∃ x, H = [x, some (.row 3 true [qc 0]), some (.row 3 true [qc (areaPTo L Hs i)])]) (fun i => Hs.length - i) 0 rfl ⟨Nat.zero_le _, by rw [hz]; exact ⟨_, rfl⟩⟩ ?_
 rintro i J _ ⟨hi, x, rfl⟩
 try conv in ov _ _ _ _ => simp only [ov, List.lookup, RO, simprocAttr]
 rcases Nat.lt_or_ge i Hs.length with hlt | hge
 ·have g := pg_getD hlt
  have rh := hr.hole hlt
  have r2 := rh.hi
  have a := Area_pc (Hs.getD i []) (by omega) rh.ht
  have t1 := ht_areaPTo hr i (by omega)
  have t2 := ht_areaL rh
  have t3 : (i + 1) * (2 ^ 25 + 1) ≤ 9 * (2 ^ 25 + 1) := Nat.mul_le_mul_right _ (by omega)
  have s := subQ_pc (areaPTo L Hs i) (areaL (Hs.getD i [])) (by omega) (by omega)
  simp (disch := omega) only [↓RS, RZ, simprocAttr, one_length, pgs_length, g, qc, psV]
  refine cX a ?_
  simp (disch := omega) only [↓RS, RZ, simprocAttr, qV, rV]
  refine cX s ?_
  simp (disch := omega) only [↓RS, RZ, simprocAttr, qV, rV, qc]
  exact lp_next (i + 1) rfl ⟨hlt, x, rfl⟩ (by omega)
 ·have hia : i = Hs.length := by omega
  subst hia
  simp (disch := omega) only [↓RS, RZ, simprocAttr, one_length, pgs_length, qc]
def firstLe (n : Nat) (f : Nat → Int) : Int := match (List.range n).find? (fun i => decide (f i ≤ 0)) with
 | some i => f i
 | none => 1
theorem firstLe_found {n i : Nat} {f : Nat → Int} (hi : i < n) (h : f i ≤ 0) (hf : ∀ j, j < i → 0 < f j) : firstLe n f = f i := by
 unfold firstLe
 have : (List.range n).find? (fun i => decide (f i ≤ 0)) = some i := by
  rw [List.find?_range_eq_some]
  exact ⟨by simpa using h, by simpa using hi, fun j hj => by have := hf j hj; simp; omega⟩
 rw [this]
theorem firstLe_none {n : Nat} {f : Nat → Int} (hf : ∀ j, j < n → 0 < f j) : firstLe n f = 1 := by
 unfold firstLe
 have : (List.range n).find? (fun i => decide (f i ≤ 0)) = none := by
  rw [List.find?_eq_none]; intro j hj; have := hf j (by simpa using hj); simp; omega
 rw [this]
def ringSide (Ls : List (List Pt)) (q : Pt) (i : Nat) : Int := if 0 < i then -sideS (Ls.getD i []) q else sideS (Ls.getD i []) q
def whereS (L : List Pt) (Hs : List (List Pt)) (q : Pt) : Int := firstLe (Hs.length + 1) (ringSide (L :: Hs) q)
theorem sideS_abs (L : List Pt) (q : Pt) : -1 ≤ sideS L q ∧ sideS L q ≤ 1 := by unfold sideS; split <;> (try split) <;> omega
theorem where_pc (L : List Pt) (Hs : List (List Pt)) (q : Pt) (hg : Rgs L Hs) (hq : hp q ≤ 2 ^ 20) : PC prog 112 [cgV L Hs, pV q] (.prim (.int .i64 (whereS L Hs q))) := by
 have hf := hg.few
 refine PCi ?_
 conv in trip _ _ => cbv
 simp only [runT, RN, simprocAttr]
 simp (disch := omega) only [↓RS, RZ, simprocAttr, cgV, pV, ptV]
 refine call_sc (rings_sc (psV L) (Hs.map psV) ?_)
 simp (disch := omega) only [↓RS, RZ, simprocAttr]
 refine wp_rf mixed (n := 4) (k := 2) rfl rfl rfl (by kernel_rfl) ?_
 conv in lcC _ => cbv
 conv in lcC _ => cbv
 intro R B D hR hyc
 simp only [List.nil_append, List.cons_append] at hyc ⊢
 refine rings1_sc (psV L) (Hs.map psV) (by rw [List.length_map]; omega) (fun i H => get H 1 = some (.row 6 true [pc q]) ∧ (∃ z, get H 2 = some (.row 1 true [[z]])) ∧ get H 3 = some (.row 2 true [[psV L, .lst 1 ((Hs.map psV).map fun v => [v])]]) ∧ get H 4 = some R ∧ ∀ j, j < i → 0 < ringSide (L :: Hs) q j)
  (fun H => get H 2 = some (.row 1 true [[.prim (.int .i64 (whereS L Hs q))]]) ∧ get H 4 = some (D .ret)) ?_ ?_ ?_ ?_ ?_
 ·rintro i H h; exact h.2.2.1
 ·rintro i H hlt ⟨h0, ⟨z, h1⟩, h2, h3, h4⟩
  rw [List.length_map] at hlt
  rw [ring_val hlt]
  have hr := hg.get hlt
  refine hyc _ _ _ rfl h3 ?_
  clear hyc
  simp (disch := omega) only [↓RS, RZ, simprocAttr, yieldT_cons, yieldT_nil, psV]
  rw [bgQ_normal]
  refine ⟨h3, ?_⟩
  have hN := get_lt_len h3
  have q0 : get (H.set 4 (some B)) 1 = some (.row 6 true [pc q]) := by rw [get_ne (by omega)]; exact h0
  have q1 : get (H.set 4 (some B)) 2 = some (.row 1 true [[z]]) := by rw [get_ne (by omega)]; exact h1
  have q2 : get (H.set 4 (some B)) 3 = some (.row 2 true [[psV L, .lst 1 ((Hs.map psV).map fun v => [v])]]) := by rw [get_ne (by omega)]; exact h2
  have q3 : get (H.set 4 (some B)) 4 = some B := get_eq hN
  have hl : 4 < (H.set 4 (some B)).length := by rw [List.length_set]; exact hN
  generalize H.set 4 (some B) = H1 at q0 q1 q2 q3 hl ⊢
  have ci := Inside_pc ((L :: Hs).getD i []) q hr hq
  have hb := sideS_abs ((L :: Hs).getD i []) q
  have hrs : ringSide (L :: Hs) q i = if 0 < i then -sideS ((L :: Hs).getD i []) q else sideS ((L :: Hs).getD i []) q := rfl
  simp (disch := omega) only [↓RS, RZ, simprocAttr, q0, pc]
  refine cX ci ?_
  generalize sideS ((L :: Hs).getD i []) q = n at hb hrs ⊢
  have yes : ∀ (T : List V) (x : Int), ringSide (L :: Hs) q i = x → x ≤ 0 → rdQ 4 R B D (yQ (fun H => get H 1 = some (.row 6 true [pc q]) ∧ (∃ z, get H 2 = some (.row 1 true [[z]])) ∧ get H 3 = some (.row 2 true [[psV L, .lst 1 ((Hs.map psV).map fun v => [v])]]) ∧ get H 4 = some R ∧ ∀ j, j < i + 1 → 0 < ringSide (L :: Hs) q j) (fun H => get H 2 = some (.row 1 true [[.prim (.int .i64 (whereS L Hs q))]]) ∧ get H 4 = some (D .ret))) .ret T (H1.set 2 (some (.row 1 true [[.prim (.int .i64 (x))]]))) := by
   rintro T x hx hx0
   rw [rdQ_ret]
   refine ⟨by rw [get_ne (by omega)]; exact q3, .inr ⟨rfl, ?_, get_eq (by rw [List.length_set]; exact hl)⟩⟩
   rw [get_ne (by omega), get_eq (by omega)]
   rw [show whereS L Hs q = x by unfold whereS; rw [firstLe_found (i := i) (by omega) (by rw [hx]; exact hx0) h4, hx]]
  have no : ∀ (T : List V), 0 < ringSide (L :: Hs) q i → rdQ 4 R B D (yQ (fun H => get H 1 = some (.row 6 true [pc q]) ∧ (∃ z, get H 2 = some (.row 1 true [[z]])) ∧ get H 3 = some (.row 2 true [[psV L, .lst 1 ((Hs.map psV).map fun v => [v])]]) ∧ get H 4 = some R ∧ ∀ j, j < i + 1 → 0 < ringSide (L :: Hs) q j) (fun H => get H 2 = some (.row 1 true [[.prim (.int .i64 (whereS L Hs q))]]) ∧ get H 4 = some (D .ret))) .normal T H1 := by
   rintro T hx
   rw [rdQ_normal]
   refine ⟨q3, .inl ⟨rfl, by rw [get_ne (by omega)]; exact q0, ⟨z, by rw [get_ne (by omega)]; exact q1⟩, by rw [get_ne (by omega)]; exact q2, get_eq hl, fun j hj => ?_⟩⟩
   rcases Nat.lt_or_ge j i with h | h
   ·exact h4 j h
   ·rw [show j = i by omega]; exact hx
  rcases Nat.eq_zero_or_pos i with h0 | hpos
  ·subst h0
   rw [if_neg (by omega)] at hrs
   rcases Int.lt_or_le 0 n with hn | hn
   ·simp (disch := omega) only [↓RS, RZ, simprocAttr]
    exact no _ (by rw [hrs]; exact hn)
   ·simp (disch := omega) only [↓RS, RZ, simprocAttr, q1]
    exact yes _ _ hrs hn
  ·rw [if_pos hpos] at hrs
   rcases Int.lt_or_le n 0 with hn | hn
   ·simp (disch := omega) only [↓RS, RZ, simprocAttr, Int.zero_sub]
    exact no _ (by rw [hrs]; omega)
   ·simp (disch := omega) only [↓RS, RZ, simprocAttr, q1, Int.zero_sub]
    exact yes _ _ hrs (by omega)
 ·exact ⟨rfl, ⟨_, rfl⟩, rfl, rfl, fun j hj => absurd hj (Nat.not_lt_zero j)⟩
 ·rintro v H ⟨h0, ⟨z, h1⟩, h2, h3, h4⟩
  rw [List.length_map] at h4
  have hN := get_lt_len h3
  refine .inl ⟨h3, ?_⟩
  have e1 : get (H.set 4 none) 2 = some (.row 1 true [[z]]) := by rw [get_ne (by omega)]; exact h1
  have s1 : ∀ x, get ((H.set 4 none).set 2 x) 2 = x := fun x => get_eq (by rw [List.length_set]; omega)
  rw [show whereS L Hs q = 1 from firstLe_none h4]
  simp (disch := omega) only [↓RS, RZ, simprocAttr, e1, s1]
 ·rintro v H ⟨h1, h3⟩
  refine .inr ⟨.ret, h3, ?_⟩
  have e1 : get (H.set 4 none) 2 = some (.row 1 true [[.prim (.int .i64 (whereS L Hs q))]]) := by rw [get_ne (by omega)]; exact h1
  simp (disch := omega) only [↓RS, RZ, simprocAttr, e1]
theorem vcheckP_pc (p : Pt) (h : hp p ≤ 2 ^ 20) : PC prog 57 [pV p] (.prim (.int .i64 (0))) := by
 have c := vcheck_pc (can p.x) (can p.y) (can_le (Nat.le_trans (hp_x p) (by omega))) (can_le (Nat.le_trans (hp_y p) (by omega)))
 rw [if_pos (by simp only [can_val]; trivial)] at c
 exact c
theorem InsideP_pc {O : List Rp} {hs : List (List Rp)} (h : Fine O hs) (q : Pt) (hq : hp q ≤ 2 ^ 20) : PC prog 44 [cgV (pts O) (hs.map pts), pV q] (.tup [.prim (.int .i64 (whereS (pts O) (hs.map pts) q)), .prim (.int .i64 (0))]) := by
 have c := h.check_pc
 have d := vcheckP_pc q hq
 have w := where_pc _ _ q h.rgs hq
 generalize hs.map pts = Hs at *
 generalize pts O = L at *
 refine PCi ?_
 conv in trip _ _ => cbv
 simp only [runT, RN, simprocAttr]
 simp (disch := omega) only [↓RS, RZ, simprocAttr, cgV, psV, pV, ptV]
 refine cX c ?_
 simp (disch := omega) only [↓RS, RZ, simprocAttr, psV, pV, ptV]
 refine cX d ?_
 simp (disch := omega) only [↓RS, RZ, simprocAttr, psV, pV, ptV]
 refine cX w ?_
 simp (disch := omega) only [↓RS, RZ, simprocAttr]
end Go.Av
