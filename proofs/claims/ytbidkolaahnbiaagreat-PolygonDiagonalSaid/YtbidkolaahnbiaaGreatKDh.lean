/- Helping texts: Dh, Di, Dj, Dk. -/
import Derived.Test.YtbidkolaahnbiaaGreatKDb
import Derived.Test.YtbidkolaahnbiaaGreatKMa
set_option linter.unusedSimpArgs false
set_option linter.unusedVariables false
set_option maxRecDepth 100000
set_option maxHeartbeats 16000000
namespace Go.Av
open Go.RowKit
open Go.Proofs.Tryz (prog)
def qc (q : Rat) : List V := [.prim (.bool (can q).neg), .prim (.string (bs ((can q).num))), .prim (.string (bs ((can q).den)))]
def areaTo (L : List Pt) : Nat → Rat
 | 0 => 0
 | i + 1 => areaTo L i + cross (L.getD i default) (nx L i)
def areaL (L : List Pt) : Rat := areaTo L L.length / 2
theorem ht_areaTo {L : List Pt} {k : Nat} (h : hl L k) : ∀ i, i ≤ L.length → ht (areaTo L i) ≤ i * (4 * k + 2) + 1
 | 0, _ => by simpa [areaTo] using ht_zero
 | i + 1, hi => by
  have h1 := ht_areaTo h i (by omega)
  have h2 := ht_add (areaTo L i) (cross (L.getD i default) (nx L i))
  have h3 := ht_cross (L.getD i default) (nx L i)
  have h4 := hl_get h (show i < L.length by omega)
  have h5 := hp_nx h (show i < L.length by omega)
  unfold areaTo
  rw [Nat.add_mul]
  omega
theorem ht_two : ht 2 ≤ 1 := @ht_int 2 (by omega)
theorem Area_pc (L : List Pt) (hn : L.length ≤ 2 ^ 10) (hL : hl L (2 ^ 16)) : PC prog 53 [psV L] (qV (areaL L)) := by
 have ha : ∀ i, i ≤ L.length → ht (areaTo L i) ≤ 2 ^ 29 := fun i hi => by
  have := ht_areaTo hL i hi
  have h2 : i * (4 * 2 ^ 16 + 2) ≤ 2 ^ 10 * (4 * 2 ^ 16 + 2) := Nat.mul_le_mul_right _ (by omega)
  omega
 refine PCi ?_
 conv in trip _ _ => cbv
 simp only [runT, RN, simprocAttr]
 simp (disch := omega) only [↓RS, RZ, simprocAttr, psV]
 refine call_sc (edges_sc L ?_)
 simp (disch := omega) only [↓RS, RZ, simprocAttr, psV]
 refine wp_rf mixed (n := 3) (k := 2) rfl rfl rfl (by kernel_rfl) ?_
 conv in lcC _ => cbv
 conv in lcC _ => cbv
 intro R B D hR hyc
 simp only [List.nil_append, List.cons_append] at hyc ⊢
 refine edges1_sc L (by omega) (fun i H => get H 0 = some (.row 3 true [qc 0]) ∧ get H 1 = some (.row 3 true [qc (areaTo L i)]) ∧ get H 2 = some (.row 1 true [[psV L]]) ∧ get H 3 = some R) (fun _ => False) ?_ ?_ ?_ ?_ ?_ ?_
 ·rintro i H ⟨_, _, h, _⟩; exact h
 ·rintro i H k ⟨h0, h1, h2, h3⟩; exact ⟨get_app h0, get_app h1, get_app h2, get_app h3⟩
 ·rintro i H hlt ⟨h0, h1, h2, h3⟩
  have hN := get_lt_len h3
  refine hyc _ _ _ rfl h3 ?_
  simp (disch := omega) only [↓RS, RZ, simprocAttr, pV, ptV, yieldT_cons, yieldT_nil, set_app_len, set_app_len2]
  rw [bgQ_normal]
  refine ⟨by rw [get_app2 hN]; exact h3, ?_⟩
  obtain ⟨H1, e, f, k2, k3, k4, k5⟩ := two_more (H := H) (b := 3) (x := some (.row 6 true [pc (L.getD i default)])) (y := some (.row 6 true [pc (nx L i)])) (z := some B) hN
  have q0 : get H1 0 = some (.row 3 true [qc 0]) := by rw [f 0 (by omega) (by omega)]; exact h0
  have q1 : get H1 1 = some (.row 3 true [qc (areaTo L i)]) := by rw [f 1 (by omega) (by omega)]; exact h1
  have q2 : get H1 2 = some (.row 1 true [[psV L]]) := by rw [f 2 (by omega) (by omega)]; exact h2
  simp only [pc] at e k3 k4
  rw [e]
  have b1 := hl_get hL hlt
  have b2 := hp_nx hL hlt
  have b3 := ha i (by omega)
  have b4 := ht_cross (L.getD i default) (nx L i)
  have c := vcross_pc (L.getD i default) (nx L i) (by omega) (by omega)
  have a := addQ_pc (areaTo L i) (cross (L.getD i default) (nx L i)) (by omega) (by omega)
  simp (disch := omega) only [↓RS, RZ, simprocAttr, q1, k3, k4, qc]
  refine cX c ?_
  simp (disch := omega) only [↓RS, RZ, simprocAttr, qV, rV]
  refine cX a ?_
  simp (disch := omega) only [↓RS, RZ, simprocAttr, qV, rV, q1, qc]
  rw [rdQ_normal]
  refine ⟨by rw [get_ne (by omega)]; exact k2, .inl ⟨rfl, ?_, ?_, ?_, ?_⟩⟩
  ·rw [get_ne (by omega), get_ne (by omega)]; exact q0
  ·rw [get_ne (by omega), get_eq (by omega)]; rfl
  ·rw [get_ne (by omega), get_ne (by omega)]; exact q2
  ·rw [get_eq (by rw [List.length_set]; omega)]
 ·have hz : qc 0 = [.prim (.bool false), .prim (.string (bs ([]))), .prim (.string (bs ([])))] := by simp only [qc, can_zero]
  have hz2 : qc (areaTo L 0) = [.prim (.bool false), .prim (.string (bs ([]))), .prim (.string (bs ([])))] := hz
  rw [hz, hz2]
  exact ⟨rfl, rfl, rfl, rfl⟩
 ·rintro v H ⟨h0, h1, h2, h3⟩
  have hN := get_lt_len h3
  refine .inl ⟨h3, ?_⟩
  have e0 : get (H.set 3 none) 0 = some (.row 3 true [qc 0]) := by rw [get_ne (by omega)]; exact h0
  have e1 : get (H.set 3 none) 1 = some (.row 3 true [qc (areaTo L L.length)]) := by rw [get_ne (by omega)]; exact h1
  have hH : 2 < (H.set 3 none).length := by rw [List.length_set]; omega
  generalize H.set 3 none = H1 at e0 e1 hH ⊢
  have o := ofQ_pc 2 (by omega) (by omega)
  have q := quoQ_pc (areaTo L L.length) 2 (by have := ha _ (Nat.le_refl L.length); omega) (by have := ht_two; omega) (by decide +kernel)
  simp (disch := omega) only [↓RS, RZ, simprocAttr, e1, qc]
  refine cX o ?_
  simp (disch := omega) only [↓RS, RZ, simprocAttr, qV, rV, e1, qc]
  refine cX q ?_
  have hne : (H1.length == 1) = false := by rw [beq_eq_false_iff_ne]; omega
  have g0 : ∀ x, get (H1 ++ [x]) 0 = some (.row 3 true [qc 0]) := fun x => get_app e0
  have g1 : ∀ x y, get ((H1 ++ [x]).set 0 y) 0 = y := fun x y => get_eq (by rw [List.length_append]; omega)
  simp (disch := omega) only [↓RS, RZ, simprocAttr, qV, rV, hne, set_app_len, g0, g1, qc]
  rfl
 ·exact fun _ _ h => h.elim
end Go.Av
namespace Go.Av
open Go.RowKit
open Go.Proofs.Tryz (prog)
def aboveB (p q : Pt) : Bool := decide (0 < cmpQ q.y p.y)
theorem above_sc (p q : Pt) (h1 : hp p ≤ 2 ^ 26) (h2 : hp q ≤ 2 ^ 26) {b : Nat} {H : Hp} {K : V → Hp → Prop} (hb : get H b = some (.row 6 true [pc p])) (hK : ∀ H', Ext H H' → K (.prim (.bool (aboveB p q))) H') :
 SC prog 211 [pV q, .ptr b 0 0] H K := by
 have hb1 : ∀ k, get (H ++ [k]) b = some (.row 6 true [pc p]) := fun k => get_app hb
 have a1 := hp_y p; have a2 := hp_y q
 have c := cmpQ_pc q.y p.y (by omega) (by omega)
 refine SCi ?_
 conv in trip _ _ => cbv
 simp only [runT, RN, simprocAttr]
 have hlt : aboveB p q = decide (0 < cmpQ q.y p.y) := rfl
 simp (disch := omega) only [↓RS, RZ, simprocAttr, pV, ptV, hb1, pc]
 refine cX c ?_
 cases h : aboveB p q with
 | true =>
  rw [hlt, decide_eq_true_eq] at h
  have := hK _ (Ext.app [some (.row 6 true [pc q])])
  simp (disch := omega) only [↓RS, RZ, simprocAttr]
  rw [hlt, decide_eq_true h] at this
  exact this
 | false =>
  rw [hlt, decide_eq_false_iff_not] at h
  have := hK _ (Ext.app [some (.row 6 true [pc q])])
  simp (disch := omega) only [↓RS, RZ, simprocAttr]
  rw [hlt, decide_eq_false h] at this
  exact this
def oddStep (p a b : Pt) (out : Bool) : Bool :=
 if aboveB p a then (if !aboveB p b && decide (0 < orient b a p) then !out else out) else if aboveB p b && decide (0 < orient a b p) then !out else out
def oddTo (L : List Pt) (p : Pt) : Nat → Bool
 | 0 => false
 | i + 1 => oddStep p (L.getD i default) (nx L i) (oddTo L p i)
def oddInv (L : List Pt) (p : Pt) (R : Blk) (i : Nat) (H : Hp) : Prop :=
 get H 0 = some (.row 6 true [pc p]) ∧ get H 1 = some (.row 1 true [[.clo 211 [] [.ptr 0 0 0]]]) ∧ get H 2 = some (.row 1 true [[.prim (.bool (oddTo L p i))]]) ∧ get H 3 = some (.row 1 true [[psV L]]) ∧ get H 4 = some R
theorem odd_pc (L : List Pt) (p : Pt) (hn : L.length ≤ 2 ^ 30) (hL : hl L (2 ^ 20)) (hp0 : hp p ≤ 2 ^ 20) : PC prog 135 [psV L, pV p] (.prim (.bool (oddTo L p L.length))) := by
 refine PCi ?_
 conv in trip _ _ => cbv
 simp only [runT, RN, simprocAttr]
 simp (disch := omega) only [↓RS, RZ, simprocAttr, psV, pV, ptV]
 refine call_sc (edges_sc L ?_)
 simp (disch := omega) only [↓RS, RZ, simprocAttr, psV]
 refine wp_rf mixed (n := 4) (k := 2) rfl rfl rfl (by kernel_rfl) ?_
 conv in lcC _ => cbv
 conv in lcC _ => cbv
 intro R B D hR hyc
 simp only [List.nil_append, List.cons_append] at hyc ⊢
 refine edges1_sc L (by omega) (oddInv L p R) (fun _ => False) ?_ ?_ ?_ ?_ ?_ ?_
 ·rintro i H h; exact h.2.2.2.1
 ·rintro i H k ⟨h0, h1, h2, h3, h4⟩; exact ⟨get_app h0, get_app h1, get_app h2, get_app h3, get_app h4⟩
 ·rintro i H hlt ⟨h0, h1, h2, h3, h4⟩
  have hN := get_lt_len h4
  refine hyc _ _ _ rfl h4 ?_
  clear hyc
  simp (disch := omega) only [↓RS, RZ, simprocAttr, pV, ptV, yieldT_cons, yieldT_nil, set_app_len, set_app_len2]
  rw [bgQ_normal]
  refine ⟨by rw [get_app2 hN]; exact h4, ?_⟩
  obtain ⟨H1, e, f, g4, gn1, gn2, k5⟩ := two_more (H := H) (b := 4) (x := some (.row 6 true [pc (L.getD i default)])) (y := some (.row 6 true [pc (nx L i)])) (z := some B) hN
  have g0 : get H1 0 = some (.row 6 true [pc p]) := by rw [f 0 (by omega) (by omega)]; exact h0
  have g1 : get H1 1 = some (.row 1 true [[.clo 211 [] [.ptr 0 0 0]]]) := by rw [f 1 (by omega) (by omega)]; exact h1
  have g2 : get H1 2 = some (.row 1 true [[.prim (.bool (oddTo L p i))]]) := by rw [f 2 (by omega) (by omega)]; exact h2
  have g3 : get H1 3 = some (.row 1 true [[psV L]]) := by rw [f 3 (by omega) (by omega)]; exact h3
  have hn2 : (H ++ [some (Blk.row 6 true [pc (L.getD i default)])]).length = H.length + 1 := by rw [List.length_append]; rfl
  have hn1 : 5 ≤ H.length := hN
  simp only [pc] at e gn2 hn2
  rw [e]
  clear e f h0 h1 h2 h3 h4 hN
  generalize (H ++ [some (Blk.row 6 true [_])]).length = n2 at gn2 hn2 ⊢
  generalize H.length = n1 at gn1 hn1 hn2 k5 ⊢
  have gn2 : get H1 n2 = some (.row 6 true [pc (nx L i)]) := gn2
  have b1 := hl_get hL hlt
  have b2 := hp_nx hL hlt
  have o1 := orient_pc (L.getD i default) (nx L i) p (by omega) (by omega) (by omega)
  have o2 := orient_pc (nx L i) (L.getD i default) p (by omega) (by omega) (by omega)
  have fin : ∀ (T : List V) (H' : Hp) (o : Bool), get H' 0 = some (.row 6 true [pc p]) → get H' 1 = some (.row 1 true [[.clo 211 [] [.ptr 0 0 0]]]) → get H' 2 = some (.row 1 true [[.prim (.bool o)]]) → get H' 3 = some (.row 1 true [[psV L]]) → get H' 4 = some B →
   oddTo L p (i + 1) = o → rdQ 4 R B D (yQ (oddInv L p R (i + 1)) (fun _ => False)) .normal T H' := by
   rintro T H' o x0 x1 x2 x3 x4 rfl
   rw [rdQ_normal]
   exact ⟨x4, .inl ⟨rfl, by rw [get_ne (by omega)]; exact x0, by rw [get_ne (by omega)]; exact x1, by rw [get_ne (by omega)]; exact x2, by rw [get_ne (by omega)]; exact x3, get_eq (get_lt_len x4)⟩⟩
  simp (disch := omega) only [↓RS, RZ, simprocAttr, g1, gn1, pc]
  refine call_sc (above_sc p (L.getD i default) (by omega) (by omega) g0 ?_)
  intro H2 hE
  have q0 := hE.get g0
  have q1 := hE.get g1
  have q2 := hE.get g2
  have q3 := hE.get g3
  have q4 := hE.get g4
  have qn1 := hE.get gn1
  have qn2 := hE.get gn2
  clear g0 g1 g2 g3 g4 gn1 gn2 k5
  cases ha : aboveB p (L.getD i default) with
  | true =>
   have l1 := get_lt_len qn1
   have l2 := get_lt_len qn2
   have s1 : ∀ x y, get ((H2.set n1 x).set n2 y) n1 = x := fun x y => by rw [get_ne (by omega), get_eq l1]
   have s2 : ∀ x y, get ((H2.set n1 x).set n2 y) n2 = y := fun x y => get_eq (by rw [List.length_set]; exact l2)
   simp (disch := omega) only [↓RS, RZ, simprocAttr, q1, qn1, qn2, pc, get_ne, s1, s2]
   generalize hH3 : (H2.set n1 _).set n2 _ = H3
   have t0 : get H3 0 = some (.row 6 true [pc p]) := by rw [← hH3, get_ne (by omega), get_ne (by omega)]; exact q0
   have t1 : get H3 1 = some (.row 1 true [[.clo 211 [] [.ptr 0 0 0]]]) := by rw [← hH3, get_ne (by omega), get_ne (by omega)]; exact q1
   have t2 : get H3 2 = some (.row 1 true [[.prim (.bool (oddTo L p i))]]) := by rw [← hH3, get_ne (by omega), get_ne (by omega)]; exact q2
   have t3 : get H3 3 = some (.row 1 true [[psV L]]) := by rw [← hH3, get_ne (by omega), get_ne (by omega)]; exact q3
   have t4 : get H3 4 = some B := by rw [← hH3, get_ne (by omega), get_ne (by omega)]; exact q4
   have tn1 : get H3 n1 = some (.row 6 true [pc (nx L i)]) := by rw [← hH3]; exact s1 _ _
   have tn2 : get H3 n2 = some (.row 6 true [pc (L.getD i default)]) := by rw [← hH3]; exact s2 _ _
   clear hH3 s1 s2 q0 q1 q2 q3 q4 qn1 qn2 l1 l2 hE
   refine call_sc (above_sc p (nx L i) (by omega) (by omega) t0 ?_)
   intro H4 hE2
   have u0 := hE2.get t0
   have u1 := hE2.get t1
   have u2 := hE2.get t2
   have u3 := hE2.get t3
   have u4 := hE2.get t4
   have un1 := hE2.get tn1
   have un2 := hE2.get tn2
   clear t0 t1 t2 t3 t4 tn1 tn2 hE2
   cases hb : aboveB p (nx L i) with
   | true =>
    simp (disch := omega) only [↓RS, RZ, simprocAttr]
    exact fin _ _ _ u0 u1 u2 u3 u4 (by simp only [oddTo, oddStep, ha, hb, Bool.not_true, Bool.not_false, Bool.false_and, Bool.true_and, decide_true, decide_false, Bool.false_eq_true, if_true, if_false, Bool.and_false])
   | false =>
    simp (disch := omega) only [↓RS, RZ, simprocAttr, u1, un2, pc]
    refine call_sc (above_sc p (L.getD i default) (by omega) (by omega) u0 ?_)
    intro H5 hE3
    have w0 := hE3.get u0
    have w1 := hE3.get u1
    have w2 := hE3.get u2
    have w3 := hE3.get u3
    have w4 := hE3.get u4
    have wn1 := hE3.get un1
    have wn2 := hE3.get un2
    rw [ha]
    simp (disch := omega) only [↓RS, RZ, simprocAttr, w0, wn1, wn2, pc]
    refine cX o2 ?_
    by_cases ho : 0 < orient (nx L i) (L.getD i default) p
    ·simp (disch := omega) only [↓RS, RZ, simprocAttr, w2]
     refine fin _ _ _ (by rw [get_ne (by omega)]; exact w0) (by rw [get_ne (by omega)]; exact w1) (get_eq (get_lt_len w2)) (by rw [get_ne (by omega)]; exact w3) (by rw [get_ne (by omega)]; exact w4) (by simp only [oddTo, oddStep, ha, hb, ho, Bool.not_true, Bool.not_false, Bool.false_and, Bool.true_and, decide_true, decide_false, Bool.false_eq_true, if_true, if_false, Bool.and_false])
    ·simp (disch := omega) only [↓RS, RZ, simprocAttr]
     exact fin _ _ _ w0 w1 w2 w3 w4 (by simp only [oddTo, oddStep, ha, hb, ho, Bool.not_true, Bool.not_false, Bool.false_and, Bool.true_and, decide_true, decide_false, Bool.false_eq_true, if_true, if_false, Bool.and_false])
  | false =>
   simp (disch := omega) only [↓RS, RZ, simprocAttr, q1, qn1, pc]
   refine call_sc (above_sc p (L.getD i default) (by omega) (by omega) q0 ?_)
   intro H4 hE2
   have u0 := hE2.get q0
   have u1 := hE2.get q1
   have u2 := hE2.get q2
   have u3 := hE2.get q3
   have u4 := hE2.get q4
   have un1 := hE2.get qn1
   have un2 := hE2.get qn2
   rw [ha]
   simp (disch := omega) only [↓RS, RZ, simprocAttr, u1, un2, pc]
   refine call_sc (above_sc p (nx L i) (by omega) (by omega) u0 ?_)
   intro H5 hE3
   have w0 := hE3.get u0
   have w1 := hE3.get u1
   have w2 := hE3.get u2
   have w3 := hE3.get u3
   have w4 := hE3.get u4
   have wn1 := hE3.get un1
   have wn2 := hE3.get un2
   cases hb : aboveB p (nx L i) with
   | true =>
    simp (disch := omega) only [↓RS, RZ, simprocAttr, w0, wn1, wn2, pc]
    refine cX o1 ?_
    by_cases ho : 0 < orient (L.getD i default) (nx L i) p
    ·simp (disch := omega) only [↓RS, RZ, simprocAttr, w2]
     refine fin _ _ _ (by rw [get_ne (by omega)]; exact w0) (by rw [get_ne (by omega)]; exact w1) (get_eq (get_lt_len w2)) (by rw [get_ne (by omega)]; exact w3) (by rw [get_ne (by omega)]; exact w4) (by simp only [oddTo, oddStep, ha, hb, ho, Bool.not_true, Bool.not_false, Bool.false_and, Bool.true_and, decide_true, decide_false, Bool.false_eq_true, if_true, if_false, Bool.and_false])
    ·simp (disch := omega) only [↓RS, RZ, simprocAttr]
     exact fin _ _ _ w0 w1 w2 w3 w4 (by simp only [oddTo, oddStep, ha, hb, ho, Bool.not_true, Bool.not_false, Bool.false_and, Bool.true_and, decide_true, decide_false, Bool.false_eq_true, if_true, if_false, Bool.and_false])
   | false =>
    simp (disch := omega) only [↓RS, RZ, simprocAttr]
    exact fin _ _ _ w0 w1 w2 w3 w4 (by simp only [oddTo, oddStep, ha, hb, Bool.not_true, Bool.not_false, Bool.false_and, Bool.true_and, decide_true, decide_false, Bool.false_eq_true, if_true, if_false, Bool.and_false])
 ·exact ⟨rfl, rfl, rfl, rfl, rfl⟩
 ·rintro v H ⟨h0, h1, h2, h3, h4⟩
  refine .inl ⟨h4, ?_⟩
  have e : get (H.set 4 none) 2 = some (.row 1 true [[.prim (.bool (oddTo L p L.length))]]) := by rw [get_ne (by omega)]; exact h2
  simp (disch := omega) only [↓RS, RZ, simprocAttr, e]
 ·exact fun _ _ h => h.elim
end Go.Av
namespace Go.Av
open Go.RowKit
open Go.Proofs.Tryz (prog)
def Rp.pt (p : Rp) : Pt := ⟨p.x.val, p.y.val⟩
def pts (l : List Rp) : List Pt := l.map Rp.pt
theorem pts_length (l : List Rp) : (pts l).length = l.length := List.length_map ..
theorem allOk_mem {l : List Rp} (h : allOk l = true) : ∀ p ∈ l, p.ok = true := by
 intro p hp
 obtain ⟨i, hi, rfl⟩ := List.mem_iff_getElem.1 hp
 unfold allOk at h
 rw [List.all_eq_true] at h
 have := h i (by simpa using hi)
 rwa [List.getD_eq_getElem?_getD, List.getElem?_eq_getElem hi] at this
theorem ok_eq {p : Rp} (h : p.ok = true) : p.x = can p.x.val ∧ p.y = can p.y.val := by
 unfold Rp.ok at h; exact of_decide_eq_true h
theorem rpc_pt {p : Rp} (h : p.ok = true) : rpc p = pc p.pt := by
 obtain ⟨h1, h2⟩ := ok_eq h
 unfold rpc pc Rp.pt
 simp only [← h1, ← h2]
theorem raw_can {l : List Rp} (h : allOk l = true) : rpsV l = psV (pts l) := by
 unfold rpsV psV pts
 rw [List.map_map]
 congr 1
 exact List.map_congr_left fun p hp => rpc_pt (allOk_mem h p hp)
theorem ht_of_le {q : Rat} {k : Nat} (h : (can q).le k) (hk : 1 ≤ k) : ht q ≤ k := by
 obtain ⟨h1, h2⟩ := h
 unfold can at h1 h2
 unfold ht dl
 simp only at h1 h2
 refine Nat.max_le.2 ⟨h1, ?_⟩
 split at h2
 ·rename_i e; rw [e]
  have : (digitsOf 1).length = 1 := by rw [digitsOf_pos (by omega)]; simp [digitsOf_zero]
  omega
 ·exact h2
theorem hl_pts {l : List Rp} {k : Nat} (ho : allOk l = true) (h : ∀ p ∈ l, p.le k) (hk : 1 ≤ k) : hl (pts l) k := by
 intro q hq
 obtain ⟨p, hp, rfl⟩ := List.mem_map.1 hq
 obtain ⟨h1, h2⟩ := ok_eq (allOk_mem ho p hp)
 obtain ⟨k1, k2⟩ := h p hp
 rw [h1] at k1; rw [h2] at k2
 exact hp_mk (ht_of_le k1 hk) (ht_of_le k2 hk)
def chkC (L : List Pt) : Int := if 0 ≤ idxP L.length (flatAt L) then 12 else if crossB L = true then 13 else if cmpQ (areaL L) 0 ≤ 0 ∨ leastTo L L.length ≠ 0 then 8 else 0
def chkR (l : List Rp) : Int := if l.length < 3 ∨ 64 < l.length then 4 else if allOk l = true then chkC (pts l) else 1
theorem Rcheck_pc (l : List Rp) (hn : l.length < 2 ^ 50) (hl0 : ∀ p ∈ l, p.le (2 ^ 16)) : PC prog 132 [rpsV l] (.prim (.int .i64 (chkR l))) := by
 refine PCi ?_
 conv in trip _ _ => cbv
 simp only [runT, RN, simprocAttr]
 unfold chkR
 by_cases h1 : l.length < 3
 ·rw [if_pos (.inl h1)]
  simp (disch := omega) only [↓RS, RZ, simprocAttr, rpsV, rpc_length]
 by_cases h2 : 64 < l.length
 ·rw [if_pos (.inr h2)]
  simp (disch := omega) only [↓RS, RZ, simprocAttr, rpsV, rpc_length]
 rw [if_neg (by omega)]
 have c := canonical_pc l (by omega) (fun p hp => ⟨⟨Nat.le_trans (hl0 p hp).1.1 (by omega), Nat.le_trans (hl0 p hp).1.2 (by omega)⟩, ⟨Nat.le_trans (hl0 p hp).2.1 (by omega), Nat.le_trans (hl0 p hp).2.2 (by omega)⟩⟩)
 cases ho : allOk l with
 | false =>
  rw [ho] at c
  rw [if_neg (by simp)]
  simp (disch := omega) only [↓RS, RZ, simprocAttr, rpsV, rpc_length]
  refine cX c ?_
  simp (disch := omega) only [↓RS, RZ, simprocAttr]
 | true =>
  rw [ho] at c
  rw [if_pos rfl]
  have hL := hl_pts ho hl0 (by omega)
  have hlen := pts_length l
  rw [raw_can ho] at c ⊢
  generalize pts l = L at *
  have hn : L.length ≤ 64 := by omega
  have hne : L ≠ [] := by intro h; rw [h] at hlen; simp at hlen; omega
  have f := flat_pc L (by omega) (fun p hp => Nat.le_trans (hL p hp) (by omega))
  have x := crossing_pc L (by omega) hne (fun p hp => Nat.le_trans (hL p hp) (by omega))
  have a := Area_pc L (by omega) hL
  have hta : ht (areaL L) ≤ 2 ^ 30 := by
   have h1 := ht_areaTo hL L.length (Nat.le_refl _)
   have h2 := ht_div (areaTo L L.length) 2
   have h3 := ht_two
   have h4 : L.length * (4 * 2 ^ 16 + 2) ≤ 64 * (4 * 2 ^ 16 + 2) := Nat.mul_le_mul_right _ hn
   unfold areaL
   omega
  have s := signQ_pc (areaL L) (by omega)
  have i := first_pc L (by omega) (fun p hp => Nat.le_trans (hL p hp) (by omega))
  unfold chkC
  simp (disch := omega) only [↓RS, RZ, simprocAttr, psV, pc_length]
  refine cX c ?_
  simp (disch := omega) only [↓RS, RZ, simprocAttr, psV, pc_length]
  refine cX f ?_
  by_cases h3 : 0 ≤ idxP L.length (flatAt L)
  ·rw [if_pos h3]
   simp (disch := omega) only [↓RS, RZ, simprocAttr]
  ·rw [if_neg h3]
   simp (disch := omega) only [↓RS, RZ, simprocAttr, psV, pc_length]
   refine cX x ?_
   cases h4 : crossB L with
   | true =>
    rw [if_pos rfl]
    simp (disch := omega) only [↓RS, RZ, simprocAttr]
   | false =>
    rw [if_neg (by simp)]
    simp (disch := omega) only [↓RS, RZ, simprocAttr, psV, pc_length]
    refine cX a ?_
    simp (disch := omega) only [↓RS, RZ, simprocAttr, qV, rV]
    refine cX s ?_
    by_cases h5 : cmpQ (areaL L) 0 ≤ 0
    ·rw [if_pos (.inl h5)]
     simp (disch := omega) only [↓RS, RZ, simprocAttr]
    ·by_cases h6 : leastTo L L.length = 0
     ·rw [if_neg (fun h => h.elim h5 (fun h => h h6))]
      simp (disch := omega) only [↓RS, RZ, simprocAttr, psV, pc_length]
      refine cX i ?_
      simp (disch := omega) only [↓RS, RZ, simprocAttr]
     ·rw [if_pos (.inr h6)]
      simp (disch := omega) only [↓RS, RZ, simprocAttr, psV, pc_length]
      refine cX i ?_
      simp (disch := omega) only [↓RS, RZ, simprocAttr]
end Go.Av
namespace Go.Av
open Go.RowKit
open Go.Proofs.Tryz (prog)
theorem rp_ok (p : Pt) : p.rp.ok = true := by unfold Rp.ok Pt.rp; simp only [can_val]; simp
theorem rp_pt (p : Pt) : p.rp.pt = p := by unfold Rp.pt Pt.rp; simp only [can_val]
theorem allOk_rp (L : List Pt) : allOk (L.map Pt.rp) = true := by
 unfold allOk
 rw [List.all_eq_true]
 intro i hi
 have hi : i < (L.map Pt.rp).length := by simpa using hi
 rw [List.getD_eq_getElem?_getD, List.getElem?_eq_getElem hi, Option.getD_some, List.getElem_map]
 exact rp_ok _
theorem pts_rp (L : List Pt) : pts (L.map Pt.rp) = L := by
 unfold pts
 rw [List.map_map]
 have : (Rp.pt ∘ Pt.rp) = id := funext rp_pt
 rw [this, List.map_id]
theorem rp_le {L : List Pt} {k : Nat} (h : hl L k) : ∀ p ∈ L.map Pt.rp, p.le k := by
 intro p hp
 obtain ⟨q, hq, rfl⟩ := List.mem_map.1 hp
 have := h q hq
 exact ⟨can_le (Nat.le_trans (hp_x q) this), can_le (Nat.le_trans (hp_y q) this)⟩
structure Ring (L : List Pt) : Prop where
 lo : 3 ≤ L.length
 hi : L.length ≤ 64
 ok : chkC L = 0
 ht : hl L (2 ^ 16)
theorem Ring.ne {L : List Pt} (h : Ring L) : L ≠ [] := by intro e; have := h.lo; rw [e] at this; simp at this
theorem Ring.le {L : List Pt} (h : Ring L) {k : Nat} (hk : 2 ^ 16 ≤ k) : hl L k := fun p hp => Nat.le_trans (h.ht p hp) hk
theorem chkR_rp {L : List Pt} (h1 : 3 ≤ L.length) (h2 : L.length ≤ 64) : chkR (L.map Pt.rp) = chkC L := by
 unfold chkR
 rw [if_neg (by rw [List.length_map]; omega), allOk_rp, if_pos rfl, pts_rp]
theorem Ring.check_pc {L : List Pt} (h : Ring L) : PC prog 132 [psV L] (.prim (.int .i64 (0))) := by
 have := Rcheck_pc (L.map Pt.rp) (by rw [List.length_map]; have := h.hi; omega) (rp_le h.ht)
 rw [chkR_rp h.lo h.hi, h.ok, ← psV_rps] at this
 exact this
theorem can1_pc (p : Pt) (h : hp p ≤ 2 ^ 20) : PC prog 133 [psV [p]] (.prim (.bool true)) := by
 have := canonical_pc ([p].map Pt.rp) (by simp) (fun q hq => by
  obtain ⟨h1, h2⟩ := rp_le (L := [p]) (k := 2 ^ 20) (fun q hq => by simp at hq; rw [hq]; exact h) q hq
  exact ⟨⟨Nat.le_trans h1.1 (by omega), Nat.le_trans h1.2 (by omega)⟩, ⟨Nat.le_trans h2.1 (by omega), Nat.le_trans h2.2 (by omega)⟩⟩)
 rw [allOk_rp, ← psV_rps] at this
 exact this
def onB (L : List Pt) (p : Pt) : Bool := (List.range L.length).any fun i => between (L.getD i default) (nx L i) p
theorem onB_true {L : List Pt} {p : Pt} {i : Nat} (hi : i < L.length) (h : between (L.getD i default) (nx L i) p = true) : onB L p = true := List.any_eq_true.2 ⟨i, by simpa using hi, h⟩
theorem onB_false {L : List Pt} {p : Pt} (h : ∀ i, i < L.length → between (L.getD i default) (nx L i) p = false) : onB L p = false := by
 unfold onB; rw [List.any_eq_false]; intro i hi; rw [h i (by simpa using hi)]; simp
def sideS (L : List Pt) (p : Pt) : Int := if onB L p = true then 0 else if oddTo L p L.length = true then 1 else -1
theorem Inside_pc (L : List Pt) (p : Pt) (hR : Ring L) (hp0 : hp p ≤ 2 ^ 20) : PC prog 58 [psV L, pV p] (.tup [.prim (.int .i64 (sideS L p)), .prim (.int .i64 (0))]) := by
 have h64 := hR.hi
 have hL : hl L (2 ^ 20) := hR.le (by omega)
 have c := hR.check_pc
 have d := can1_pc p hp0
 have o := odd_pc L p (by omega) hL hp0
 refine PCi ?_
 conv in trip _ _ => cbv
 simp only [runT, RN, simprocAttr]
 simp (disch := omega) only [↓RS, RZ, simprocAttr, pV, ptV, psV]
 refine cX c ?_
 simp (disch := omega) only [↓RS, RZ, simprocAttr, pV, ptV, psV, pc, List.map_cons, List.map_nil]
 refine cX d ?_
 simp (disch := omega) only [↓RS, RZ, simprocAttr, psV]
 refine call_sc (edges_sc L ?_)
 simp (disch := omega) only [↓RS, RZ, simprocAttr, psV]
 refine wp_rf mixed (n := 5) (k := 2) rfl rfl rfl (by kernel_rfl) ?_
 conv in lcC _ => cbv
 conv in lcC _ => cbv
 intro R B D hR hyc
 simp only [List.nil_append, List.cons_append] at hyc ⊢
 refine edges1_sc L (by omega) (fun i H => get H 0 = some (.row 6 true [pc p]) ∧ (∃ z, get H 1 = some (.row 1 true [[z]])) ∧ (∃ z, get H 2 = some (.row 1 true [[z]])) ∧ get H 4 = some (.row 1 true [[psV L]]) ∧ get H 5 = some R ∧ ∀ j, j < i → between (L.getD j default) (nx L j) p = false)
  (fun H => onB L p = true ∧ get H 1 = some (.row 1 true [[.prim (.int .i64 (0))]]) ∧ get H 2 = some (.row 1 true [[.prim (.int .i64 (0))]]) ∧ get H 5 = some (D .ret)) ?_ ?_ ?_ ?_ ?_ ?_
 ·rintro i H h; exact h.2.2.2.1
 ·rintro i H k ⟨h0, ⟨z1, h1⟩, ⟨z2, h2⟩, h3, h4, h5⟩; exact ⟨get_app h0, ⟨z1, get_app h1⟩, ⟨z2, get_app h2⟩, get_app h3, get_app h4, h5⟩
 ·rintro i H hlt ⟨h0, ⟨z1, h1⟩, ⟨z2, h2⟩, h3, h4, h5⟩
  have hN := get_lt_len h4
  refine hyc _ _ _ rfl h4 ?_
  clear hyc
  simp (disch := omega) only [↓RS, RZ, simprocAttr, pV, ptV, yieldT_cons, yieldT_nil, set_app_len, set_app_len2]
  rw [bgQ_normal]
  refine ⟨by rw [get_app2 hN]; exact h4, ?_⟩
  obtain ⟨H1, e, f, k4, kn1, kn2, k5⟩ := two_more (H := H) (b := 5) (x := some (.row 6 true [pc (L.getD i default)])) (y := some (.row 6 true [pc (nx L i)])) (z := some B) hN
  have q0 : get H1 0 = some (.row 6 true [pc p]) := by rw [f 0 (by omega) (by omega)]; exact h0
  have q1 : get H1 1 = some (.row 1 true [[z1]]) := by rw [f 1 (by omega) (by omega)]; exact h1
  have q2 : get H1 2 = some (.row 1 true [[z2]]) := by rw [f 2 (by omega) (by omega)]; exact h2
  have q3 : get H1 4 = some (.row 1 true [[psV L]]) := by rw [f 4 (by omega) (by omega)]; exact h3
  simp only [pc] at e kn1 kn2
  rw [e]
  have b1 := hl_get hL hlt
  have b2 := hp_nx hL hlt
  have bt := between_pc (L.getD i default) (nx L i) p (by omega) (by omega) (by omega)
  simp (disch := omega) only [↓RS, RZ, simprocAttr, kn1, kn2, q0, pc]
  refine cX bt ?_
  cases hb : between (L.getD i default) (nx L i) p with
  | true =>
   have s2 : ∀ x, get (H1.set 1 x) 2 = some (.row 1 true [[z2]]) := fun x => by rw [get_ne (by omega)]; exact q2
   simp (disch := omega) only [↓RS, RZ, simprocAttr, q1, s2]
   rw [rdQ_ret]
   refine ⟨by rw [get_ne (by omega), get_ne (by omega)]; exact k4, .inr ⟨rfl, onB_true hlt hb, ?_, ?_, ?_⟩⟩
   ·rw [get_ne (by omega), get_ne (by omega), get_eq (by omega)]
   ·rw [get_ne (by omega), get_eq (by rw [List.length_set]; omega)]
   ·rw [get_eq (by rw [List.length_set, List.length_set]; omega)]
  | false =>
   simp (disch := omega) only [↓RS, RZ, simprocAttr]
   rw [rdQ_normal]
   refine ⟨k4, .inl ⟨rfl, by rw [get_ne (by omega)]; exact q0, ⟨z1, by rw [get_ne (by omega)]; exact q1⟩, ⟨z2, by rw [get_ne (by omega)]; exact q2⟩, by rw [get_ne (by omega)]; exact q3, get_eq (by omega), fun j hj => ?_⟩⟩
   rcases Nat.lt_or_ge j i with h | h
   ·exact h5 j h
   ·rw [show j = i by omega]; exact hb
 ·exact ⟨rfl, ⟨_, rfl⟩, ⟨_, rfl⟩, rfl, rfl, fun j hj => absurd hj (Nat.not_lt_zero j)⟩
 ·rintro v H ⟨h0, ⟨z1, h1⟩, ⟨z2, h2⟩, h3, h4, h5⟩
  have hN := get_lt_len h4
  refine .inl ⟨h4, ?_⟩
  have e0 : get (H.set 5 none) 0 = some (.row 6 true [pc p]) := by rw [get_ne (by omega)]; exact h0
  have e1 : get (H.set 5 none) 1 = some (.row 1 true [[z1]]) := by rw [get_ne (by omega)]; exact h1
  have e2 : get (H.set 5 none) 2 = some (.row 1 true [[z2]]) := by rw [get_ne (by omega)]; exact h2
  have hl5 : 5 < (H.set 5 none).length := by rw [List.length_set]; omega
  generalize H.set 5 none = H1 at e0 e1 e2 hl5 ⊢
  have s2 : ∀ x, get (H1.set 1 x) 2 = some (.row 1 true [[z2]]) := fun x => by rw [get_ne (by omega)]; exact e2
  have s3 : ∀ x y, get ((H1.set 1 x).set 2 y) 1 = x := fun x y => by rw [get_ne (by omega), get_eq (by omega)]
  have s4 : ∀ x y, get ((H1.set 1 x).set 2 y) 2 = y := fun x y => get_eq (by rw [List.length_set]; omega)
  have hon : onB L p = false := onB_false h5
  unfold sideS
  rw [hon, if_neg (by simp)]
  simp (disch := omega) only [↓RS, RZ, simprocAttr, e0, pc, psV]
  refine cX o ?_
  cases ho : oddTo L p L.length with
  | true =>
   simp (disch := omega) only [↓RS, RZ, simprocAttr, e1, s2, s3, s4]
  | false =>
   simp (disch := omega) only [↓RS, RZ, simprocAttr, e1, s2, s3, s4]
 ·rintro v H ⟨hon, h1, h2, h5⟩
  have hN := get_lt_len h5
  refine .inr ⟨.ret, h5, ?_⟩
  have e1 : get (H.set 5 none) 1 = some (.row 1 true [[.prim (.int .i64 (0))]]) := by rw [get_ne (by omega)]; exact h1
  have e2 : get (H.set 5 none) 2 = some (.row 1 true [[.prim (.int .i64 (0))]]) := by rw [get_ne (by omega)]; exact h2
  unfold sideS
  rw [hon, if_pos rfl]
  simp (disch := omega) only [↓RS, RZ, simprocAttr, e1, e2]
end Go.Av
