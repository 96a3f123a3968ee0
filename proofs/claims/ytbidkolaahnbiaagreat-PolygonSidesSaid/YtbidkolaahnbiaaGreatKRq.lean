/- Helping texts: Rq, Rs. -/
import Derived.Test.YtbidkolaahnbiaaGreatKMh
import Derived.Test.YtbidkolaahnbiaaGreatKRn
import Derived.Test.YtbidkolaahnbiaaGreatKGa
set_option linter.unusedSimpArgs false
set_option linter.unusedVariables false
set_option maxRecDepth 100000
set_option maxHeartbeats 16000000
namespace Go.Av
open Go.RowKit
open Go.Proofs.Tryz (prog)
theorem cmpQ_le0 {q : Rat} : cmpQ q 0 ≤ 0 ↔ q ≤ 0 := by
  unfold cmpQ
  by_cases h1 : q < 0
  · rw [if_pos h1]
    exact ⟨fun _ => Rat.le_of_lt h1, fun _ => by decide⟩
  · rw [if_neg h1]
    by_cases h2 : 0 < q
    · rw [if_pos h2]
      exact ⟨fun h => absurd h (by decide), fun h => absurd h2 (Rat.not_lt.2 h)⟩
    · rw [if_neg h2]
      exact ⟨fun _ => Rat.not_lt.1 h2, fun _ => by decide⟩
theorem rbetween_iff {a b p : Pt} : rbetween a b p = true ↔ ar a b p = 0 ∧ dotP (a.sub p) (b.sub p) ≤ 0 := by
  unfold rbetween
  rw [Bool.and_eq_true, decide_eq_true_eq, decide_eq_true_eq, orient_ar, cmpQ_le0]
/-- The parameter of a point on a line. -/
theorem on_line {a b p : Pt} (hne : a ≠ b) (h : ar a b p = 0) : ∃ m, p = pt a b m := by
  by_cases hx : b.x - a.x = 0
  · have hy : b.y - a.y ≠ 0 := fun hy => hne (Pt.ext (by grind) (by grind))
    refine ⟨(p.y - a.y) / (b.y - a.y), Pt.ext ?_ ?_⟩
    · unfold pt ar at *; simp only; grind
    · unfold pt; simp only
      rw [Rat.div_mul_cancel hy]; grind
  · refine ⟨(p.x - a.x) / (b.x - a.x), Pt.ext ?_ ?_⟩
    · unfold pt; simp only
      rw [Rat.div_mul_cancel hx]; grind
    · unfold pt ar at *; simp only
      have : (p.x - a.x) / (b.x - a.x) * (b.y - a.y) = p.y - a.y := by
        rw [Rat.div_def]
        have : (b.x - a.x) * (b.x - a.x)⁻¹ = 1 := Rat.mul_inv_cancel _ hx
        grind
      grind
theorem sq_nn (x : Rat) : 0 ≤ x * x := by
  by_cases h : 0 ≤ x
  · exact Rat.mul_nonneg h h
  · have := Rat.mul_nonneg (show 0 ≤ -x by grind) (show 0 ≤ -x by grind)
    grind
theorem sq_pos {x : Rat} (h : x ≠ 0) : 0 < x * x := by
  by_cases h0 : 0 < x
  · exact Rat.mul_pos h0 h0
  · have := Rat.mul_pos (show 0 < -x by grind) (show 0 < -x by grind)
    grind
theorem len_pos {a b : Pt} (hne : a ≠ b) : 0 < (b.x - a.x) * (b.x - a.x) + (b.y - a.y) * (b.y - a.y) := by
  have h1 := sq_nn (b.x - a.x)
  have h2 := sq_nn (b.y - a.y)
  by_cases hx : b.x - a.x = 0
  · have hy : b.y - a.y ≠ 0 := fun hy => hne (Pt.ext (by grind) (by grind))
    have := sq_pos hy
    grind
  · have := sq_pos hx
    grind
theorem rbetween_onSeg {a b p : Pt} (hne : a ≠ b) : rbetween a b p = true ↔ onSeg a b p := by
  rw [rbetween_iff]
  have hl := len_pos hne
  have dot_pt : ∀ m, dotP (a.sub (pt a b m)) (b.sub (pt a b m)) = -(m * (1 - m) * ((b.x - a.x) * (b.x - a.x) + (b.y - a.y) * (b.y - a.y))) := by
    intro m; unfold dotP Pt.sub pt; simp only; grind
  constructor
  · rintro ⟨h1, h2⟩
    obtain ⟨m, rfl⟩ := on_line hne h1
    rw [dot_pt] at h2
    have h3 : 0 ≤ m * (1 - m) := by
      by_cases h : 0 ≤ m * (1 - m)
      · exact h
      · have := Rat.mul_pos (show 0 < -(m * (1 - m)) by grind) hl
        grind
    refine ⟨m, ?_, ?_, rfl⟩
    · by_cases h : 0 ≤ m
      · exact h
      · have := Rat.mul_pos (show 0 < -m by grind) (show 0 < 1 - m by grind)
        grind
    · by_cases h : m ≤ 1
      · exact h
      · have := Rat.mul_pos (show 0 < m by grind) (show 0 < m - 1 by grind)
        grind
  · rintro ⟨m, m0, m1, rfl⟩
    refine ⟨by rw [ar_pt, ar_l, ar_r]; grind, ?_⟩
    rw [dot_pt]
    have h3 := Rat.mul_nonneg (Rat.mul_nonneg m0 (show 0 ≤ 1 - m by grind)) (Rat.le_of_lt hl)
    grind

/-- A point on an edge of a ring that meets no edge of another one. -/
theorem off_gen {a b : List Pt} (nm : NoMeet a b) {v : Bool} (hv : ∀ p ∈ a, oddTo b p b.length = v) {q : Pt} (hq : onE a q) : ¬ onE b q ∧ oddTo b q b.length = v := by
  obtain ⟨s, hs, k⟩ := hq
  refine ⟨fun ⟨r, hr, k2⟩ => nm s hs r hr ⟨q, k, k2⟩, ?_⟩
  obtain ⟨i, hi, rfl⟩ := mem_edgesL hs
  have hm : a.getD i default ∈ a := by rw [List.getD_eq_getElem?_getD, List.getElem?_eq_getElem hi]; exact List.getElem_mem hi
  rw [← hv _ hm]
  refine (odd_same fun j hj => ?_).symm
  rintro ⟨p, ⟨m, m0, m1, rfl⟩, k2⟩
  obtain ⟨n, n0, n1, rfl⟩ := k
  refine nm _ (seg_mem hi) _ (seg_mem hj) ⟨_, ⟨m * n, Rat.mul_nonneg m0 n0, ?_, ?_⟩, k2⟩
  · have := Rat.mul_nonneg (show 0 ≤ 1 - m by grind) n0
    grind
  · have e := pt_pt (a.getD i default) (nx a i) 0 n m
    have e0 : pt (a.getD i default) (nx a i) 0 = a.getD i default := Pt.ext (by unfold pt; simp only; grind) (by unfold pt; simp only; grind)
    rw [e0] at e
    show pt (a.getD i default) (pt (a.getD i default) (nx a i) n) m = _
    rw [e, show (0 : Rat) + m * (n - 0) = m * n by grind]; rfl
theorem side_zero {l : List Pt} (h : Ring l) {q : Pt} : sideS l q = 0 ↔ onE l q := by
  rw [← onB_onE h]
  unfold sideS
  by_cases k : onB l q = true
  · rw [if_pos k]; exact ⟨fun _ => k, fun _ => rfl⟩
  · rw [if_neg k]
    refine ⟨fun e => ?_, fun e => absurd e k⟩
    split at e <;> cases e
/-- A point lies on the boundary exactly if it lies on an edge. -/
theorem where_zero {L : List Pt} {Hs : List (List Pt)} (h : Valid L Hs) (q : Pt) : whereS L Hs q = 0 ↔ ∃ l ∈ L :: Hs, onE l q := by
  obtain ⟨w1, w2⟩ := where_eq h q
  constructor
  · intro e
    rcases sideS_one (l := L) (q := q) with k | k | k
    · exact ⟨L, List.mem_cons_self .., (side_zero h.out).1 k⟩
    · obtain ⟨a, b, c⟩ := w2 k
      by_cases hx : ∃ x ∈ Hs, sideS x q = 0
      · obtain ⟨x, hx, k2⟩ := hx
        exact ⟨x, List.mem_cons_of_mem _ hx, (side_zero (h.holes x hx)).1 k2⟩
      · exfalso
        by_cases hy : ∃ x ∈ Hs, sideS x q = 1
        · rw [b hx hy] at e; cases e
        · rw [c fun x hm => ?_] at e
          · cases e
          · rcases sideS_one (l := x) (q := q) with u | u | u
            · exact absurd ⟨x, hm, u⟩ hx
            · exact absurd ⟨x, hm, u⟩ hy
            · exact u
    · rw [w1 (by omega), k] at e; cases e
  · rintro ⟨l, hl, k⟩
    rcases List.mem_cons.1 hl with rfl | hl
    · have := (side_zero h.out).2 k
      rw [w1 (by omega), this]
    · obtain ⟨o1, o2⟩ := off_gen (h.mo l hl) (v := true) (fun p hp => h.wo l hl p hp) k
      have hs : sideS L q = 1 := by
        unfold sideS
        rw [if_neg (fun hh => o1 ((onB_onE h.out q).1 hh)), if_pos o2]
      exact (w2 hs).1 ⟨l, hl, (side_zero (h.holes l hl)).2 k⟩
/-- A point lies in the interior exactly if it lies within Outer and outside of all holes. -/
theorem where_one {L : List Pt} {Hs : List (List Pt)} (h : Valid L Hs) (q : Pt) : whereS L Hs q = 1 ↔ sideS L q = 1 ∧ ∀ x ∈ Hs, sideS x q = -1 := by
  obtain ⟨w1, w2⟩ := where_eq h q
  constructor
  · intro e
    rcases sideS_one (l := L) (q := q) with k | k | k
    · rw [w1 (by omega), k] at e; cases e
    · refine ⟨k, fun x hm => ?_⟩
      obtain ⟨a, b, c⟩ := w2 k
      rcases sideS_one (l := x) (q := q) with u | u | u
      · rw [a ⟨x, hm, u⟩] at e; cases e
      · by_cases hx : ∃ x ∈ Hs, sideS x q = 0
        · rw [a hx] at e; cases e
        · rw [b hx ⟨x, hm, u⟩] at e; cases e
      · exact u
    · rw [w1 (by omega), k] at e; cases e
  · rintro ⟨k, ha⟩
    exact (w2 k).2.2 ha
theorem mem_edgesTo {Ls : List (List Pt)} {s : Sg} : ∀ {n}, n ≤ Ls.length → s ∈ edgesTo Ls n → ∃ l ∈ Ls, s ∈ edgesL l
  | 0, _, h => by simp [edgesTo] at h
  | n + 1, hn, h => by
    rw [edgesTo, List.mem_append] at h
    rcases h with h | h
    · exact mem_edgesTo (by omega) h
    · refine ⟨_, ?_, h⟩
      rw [List.getD_eq_getElem?_getD, List.getElem?_eq_getElem (by omega)]; exact List.getElem_mem _
theorem vring_of {L : List Pt} {Hs : List (List Pt)} (h : Valid L Hs) {l : List Pt} (hl : l ∈ L :: Hs) : Ring l := by
  rcases List.mem_cons.1 hl with rfl | hl
  · exact h.out
  · exact h.holes l hl
end Go.Av
set_option maxRecDepth 100000
set_option maxHeartbeats 16000000
open Nat (reduceAdd reduceLT reduceLeDiff reducePow reduceDiv reduceMod reduceEqDiff)
namespace Go.Av
open Go.RowKit
open Go.Proofs.Tryz (prog)
/-- Some edge of the first holds the point. -/
def onTo (E : List Sg) (q : Pt) (k : Nat) : Bool := (E.take k).any fun s => rbetween s.a s.b q
/-- Within the outer ring, outside of the first holes. -/
def inTo (L : List Pt) (Hs : List (List Pt)) (q : Pt) (i : Nat) : Bool := (sideS L q == 1) && (Hs.take i).all fun x => sideS x q == -1
theorem onTo_succ {E : List Sg} {q : Pt} {k : Nat} (h : k < E.length) : onTo E q (k + 1) = (onTo E q k || rbetween (E.getD k sg0).a (E.getD k sg0).b q) := by
  unfold onTo
  rw [List.take_add_one, List.getElem?_eq_getElem h, List.any_append, List.getD_eq_getElem?_getD, List.getElem?_eq_getElem h]
  simp
theorem inTo_succ {L : List Pt} {Hs : List (List Pt)} {q : Pt} {i : Nat} (h : i < Hs.length) : inTo L Hs q (i + 1) = (inTo L Hs q i && (sideS (Hs.getD i []) q == -1)) := by
  unfold inTo
  rw [List.take_add_one, List.getElem?_eq_getElem h, List.all_append, List.getD_eq_getElem?_getD, List.getElem?_eq_getElem h]
  simp [Bool.and_assoc]
theorem in_all {L : List Pt} {Hs : List (List Pt)} (h : Valid L Hs) (q : Pt) : inTo L Hs q Hs.length = decide (whereS L Hs q = 1) := by
  rw [Bool.eq_iff_iff, decide_eq_true_eq, where_one h]
  unfold inTo
  rw [List.take_length]
  simp
theorem on_all {L : List Pt} {Hs : List (List Pt)} (h : Valid L Hs) (q : Pt) : onTo (edgesTo (L :: Hs) (Hs.length + 1)) q (edgesTo (L :: Hs) (Hs.length + 1)).length = decide (whereS L Hs q = 0) := by
  rw [Bool.eq_iff_iff, decide_eq_true_eq, where_zero h]
  unfold onTo
  rw [List.take_length, List.any_eq_true]
  constructor
  · rintro ⟨s, hs, k⟩
    obtain ⟨l, hl, hs⟩ := mem_edgesTo (by simp) hs
    refine ⟨l, hl, s, hs, ?_⟩
    obtain ⟨j, hj, rfl⟩ := mem_edgesL hs
    exact (rbetween_onSeg ((vring_of h hl).next_ne hj)).1 k
  · rintro ⟨l, hl, s, hs, k⟩
    obtain ⟨j, hj, rfl⟩ := mem_edgesL hs
    obtain ⟨i, hi, e⟩ := List.mem_iff_getElem.1 hl
    have eg : (L :: Hs).getD i [] = l := by rw [List.getD_eq_getElem?_getD, List.getElem?_eq_getElem hi]; exact e
    refine ⟨segOf l j, ?_, (rbetween_onSeg ((vring_of h hl).next_ne hj)).2 k⟩
    rw [← eg]
    exact mem_edges (by rw [eg]; exact hj) (by simpa using hi)

theorem polygonSides_pc (O : List Rp) (hs : List (List Rp)) (q : Rp) (hr : Read O hs) (hq : q.fit) : PC prog 11 [pgV O hs, ptV q.x q.y] (.prim (.bool true)) := by
  obtain ⟨b, f, hb⟩ := fine_pc O hs hr
  have aw := awake_pc
  have g := great_pc [q] (by simp) (by intro p hp; simp at hp; subst hp; exact hq)
  cases b with
  | false =>
    refine PC_intro mixed (FnD.of (by kernel_rfl)) ?_
    simp only [lcOf, Go.Proofs.Tryz.func11, Go.Proofs.Tryz.f11, liteF]
    conv in (occs := *) opsL _ _ _ => all_goals cbv
    conv in ntOf _ _ => cbv
    conv in rsOf _ _ => cbv
    simp only [RN, Nat.reduceAdd, Nat.reduceSub]
    simp (maxSteps := 2000000) (disch := omega) only [↓RS, RZ, reduceCtorEq, reduceAdd, reduceLT, reduceLeDiff, List.reduceReplicate, reducePow, reduceDiv, reduceMod, reduceEqDiff, Nat.reduceBEq, pgV, hsV, rpsV, ptV]
    first | refine cP (f) ?_ | refine cD (f) ?_
    simp (maxSteps := 2000000) (disch := omega) only [↓RS, RZ, reduceCtorEq, reduceAdd, reduceLT, reduceLeDiff, List.reduceReplicate, reducePow, reduceDiv, reduceMod, reduceEqDiff, Nat.reduceBEq]
    first | refine cP (aw) ?_ | refine cD (aw) ?_
    simp (maxSteps := 2000000) (disch := omega) only [↓RS, RZ, reduceCtorEq, reduceAdd, reduceLT, reduceLeDiff, List.reduceReplicate, reducePow, reduceDiv, reduceMod, reduceEqDiff, Nat.reduceBEq]
  | true =>
  cases hg : greatL [q] with
  | true =>
    rw [hg] at g
    refine PC_intro mixed (FnD.of (by kernel_rfl)) ?_
    simp only [lcOf, Go.Proofs.Tryz.func11, Go.Proofs.Tryz.f11, liteF]
    conv in (occs := *) opsL _ _ _ => all_goals cbv
    conv in ntOf _ _ => cbv
    conv in rsOf _ _ => cbv
    simp only [RN, Nat.reduceAdd, Nat.reduceSub]
    simp (maxSteps := 2000000) (disch := omega) only [↓RS, RZ, reduceCtorEq, reduceAdd, reduceLT, reduceLeDiff, List.reduceReplicate, reducePow, reduceDiv, reduceMod, reduceEqDiff, Nat.reduceBEq, pgV, hsV, rpsV, ptV]
    first | refine cP (f) ?_ | refine cD (f) ?_
    simp (maxSteps := 2000000) (disch := omega) only [↓RS, RZ, reduceCtorEq, reduceAdd, reduceLT, reduceLeDiff, List.reduceReplicate, reducePow, reduceDiv, reduceMod, reduceEqDiff, Nat.reduceBEq]
    first | refine cP (g) ?_ | refine cD (g) ?_
    simp (maxSteps := 2000000) (disch := omega) only [↓RS, RZ, reduceCtorEq, reduceAdd, reduceLT, reduceLeDiff, List.reduceReplicate, reducePow, reduceDiv, reduceMod, reduceEqDiff, Nat.reduceBEq]
    first | refine cP (aw) ?_ | refine cD (aw) ?_
    simp (maxSteps := 2000000) (disch := omega) only [↓RS, RZ, reduceCtorEq, reduceAdd, reduceLT, reduceLeDiff, List.reduceReplicate, reducePow, reduceDiv, reduceMod, reduceEqDiff, Nat.reduceBEq]
  | false =>
  rw [hg] at g
  have hle := greatL_le hg q (by simp)
  have vc := vcheck_pc q.x q.y ⟨by have := hle.1.1; omega, by have := hle.1.2; omega⟩ ⟨by have := hle.2.1; omega, by have := hle.2.2; omega⟩
  by_cases hc : q.x = can q.x.val ∧ q.y = can q.y.val
  · rw [if_pos hc] at vc
    have hf := hb rfl
    have hv := hf.valid
    have hx : ht q.x.val ≤ 2 ^ 16 := by have := hle.1; rw [hc.1] at this; exact ht_of_le this (by omega)
    have hy : ht q.y.val ≤ 2 ^ 16 := by have := hle.2; rw [hc.2] at this; exact ht_of_le this (by omega)
    have hQ : hp ⟨q.x.val, q.y.val⟩ ≤ 2 ^ 16 := hp_mk hx hy
    have ce := EdgesP_pc hf
    have hfew := hf.few
    have hlen : (hs.map pts).length = hs.length := List.length_map ..
    have g : PC prog 56 [.lst 6 [rpc q]] (.prim (.bool false)) := g
    have eq : rpc q = pc ⟨q.x.val, q.y.val⟩ := by
      have := ptV_pV hc
      simpa [ptV, pV, rpc, pc] using this
    rw [eq] at g
    rw [hf.val, ptV_pV hc] at *
    rw [← hlen] at ce hfew
    clear hb hf hc hx hy hle hg eq hr hq
    generalize hs.map pts = Hs at *
    generalize pts O = L at *
    generalize (⟨q.x.val, q.y.val⟩ : Pt) = Q at *
    have i1 := hv.inside_pc Q hQ
    have i2 := Inside_pc L Q hv.out (by omega)
    have lE := cornersTo_le hv.rgs (Hs.length + 1) (Nat.le_refl _)
    have mE : ∀ s ∈ edgesTo (L :: Hs) (Hs.length + 1), ∃ l ∈ L :: Hs, s ∈ edgesL l := fun s => mem_edgesTo (by simp)
    have hI := in_all hv Q
    have hO := on_all hv Q
    generalize hE : edgesTo (L :: Hs) (Hs.length + 1) = E at *
    generalize hz : whereS L Hs Q = z at *
    have hl1 : E.length ≤ 64 * 9 := by omega
    refine PC_intro mixed (FnD.of (by kernel_rfl)) ?_
    simp only [lcOf, Go.Proofs.Tryz.func11, Go.Proofs.Tryz.f11, liteF]
    conv in (occs := *) opsL _ _ _ => all_goals cbv
    conv in ntOf _ _ => cbv
    conv in rsOf _ _ => cbv
    simp only [RN, Nat.reduceAdd, Nat.reduceSub]
    simp (maxSteps := 2000000) (disch := omega) only [↓RS, RZ, reduceCtorEq, reduceAdd, reduceLT, reduceLeDiff, List.reduceReplicate, reducePow, reduceDiv, reduceMod, reduceEqDiff, Nat.reduceBEq, cgV, psV, pV, ptV]
    first | refine cP (f) ?_ | refine cD (f) ?_
    simp (maxSteps := 2000000) (disch := omega) only [↓RS, RZ, reduceCtorEq, reduceAdd, reduceLT, reduceLeDiff, List.reduceReplicate, reducePow, reduceDiv, reduceMod, reduceEqDiff, Nat.reduceBEq, cgV, psV, pV, ptV]
    first | refine cP (g) ?_ | refine cD (g) ?_
    simp (maxSteps := 2000000) (disch := omega) only [↓RS, RZ, reduceCtorEq, reduceAdd, reduceLT, reduceLeDiff, List.reduceReplicate, reducePow, reduceDiv, reduceMod, reduceEqDiff, Nat.reduceBEq, cgV, psV, pV, ptV]
    first | refine cP (vc) ?_ | refine cD (vc) ?_
    simp (maxSteps := 2000000) (disch := omega) only [↓RS, RZ, reduceCtorEq, reduceAdd, reduceLT, reduceLeDiff, List.reduceReplicate, reducePow, reduceDiv, reduceMod, reduceEqDiff, Nat.reduceBEq, cgV, psV, pV, ptV]
    first | refine cP (i1) ?_ | refine cD (i1) ?_
    simp (maxSteps := 2000000) (disch := omega) only [↓RS, RZ, reduceCtorEq, reduceAdd, reduceLT, reduceLeDiff, List.reduceReplicate, reducePow, reduceDiv, reduceMod, reduceEqDiff, Nat.reduceBEq, cgV, psV, pV, ptV]
    first | refine cP (i2) ?_ | refine cD (i2) ?_
    simp (maxSteps := 2000000) (disch := omega) only [↓RS, RZ, reduceCtorEq, reduceAdd, reduceLT, reduceLeDiff, List.reduceReplicate, reducePow, reduceDiv, reduceMod, reduceEqDiff, Nat.reduceBEq, cgV, psV, pV, ptV]
    first | refine cP (ce) ?_ | refine cD (ce) ?_
    have hin0 : inTo L Hs Q 0 = (sideS L Q == 1) := by
      unfold inTo; simp
    simp (maxSteps := 2000000) (disch := omega) only [↓RS, RZ, reduceCtorEq, reduceAdd, reduceLT, reduceLeDiff, List.reduceReplicate, reducePow, reduceDiv, reduceMod, reduceEqDiff, Nat.reduceBEq, cgV, psV, pV, ptV, one_length, pgs_length]
    refine wp_lp (fun (i : Nat) J => ov [(2, .ptr 0 0 0), (3, .ptr 1 0 0), (5, .prim (.int .i64 (z))), (9, ssV E), (11, .prim (.bool (inTo L Hs Q i))), (12, .prim (.bool false)), (64, .lst 1 ((Hs.map psV).map fun v => [v])), (65, .prim (.int .i64 ((Hs.length : Nat) : Int))), (66, .prim (.int .i64 ((i : Nat) : Int)))] J 0 113)
      (fun i H => i ≤ Hs.length ∧ get H 1 = some (.row 6 true [pc Q])) (fun i => Hs.length - i) 0 (by rw [hin0]; rfl) ⟨Nat.zero_le _, rfl⟩ ?_
    rintro i J H ⟨hi, hH⟩
    try conv in ov _ _ _ _ => simp only [ov, List.lookup, Option.getD_some, Option.getD_none, Nat.reduceAdd, Nat.reduceBEq]
    rcases Nat.lt_or_ge i Hs.length with hlt | hge
    · have g1 := pg_getD hlt
      have hmem : Hs.getD i [] ∈ Hs := by rw [List.getD_eq_getElem?_getD, List.getElem?_eq_getElem hlt]; exact List.getElem_mem hlt
      have i3 := Inside_pc (Hs.getD i []) Q (hv.holes _ hmem) (by omega)
      have hs1 := inTo_succ (L := L) (q := Q) hlt
      generalize Hs.getD i [] = x at *
      generalize sideS x Q = sx at *
      cases hin : inTo L Hs Q i with
      | true =>
        rw [hin, Bool.true_and] at hs1
        simp (maxSteps := 2000000) (disch := omega) only [↓RS, RZ, reduceCtorEq, reduceAdd, reduceLT, reduceLeDiff, List.reduceReplicate, reducePow, reduceDiv, reduceMod, reduceEqDiff, Nat.reduceBEq, one_length, pgs_length, g1, psV, hH, pc, pV, ptV]
        first | refine cP (i3) ?_ | refine cD (i3) ?_
        simp (maxSteps := 2000000) (disch := omega) only [↓RS, RZ, reduceCtorEq, reduceAdd, reduceLT, reduceLeDiff, List.reduceReplicate, reducePow, reduceDiv, reduceMod, reduceEqDiff, Nat.reduceBEq]
        exact lp_next (i + 1) (by rw [hs1]; rfl) ⟨hlt, hH⟩ (by omega)
      | false =>
        rw [hin, Bool.false_and] at hs1
        simp (maxSteps := 2000000) (disch := omega) only [↓RS, RZ, reduceCtorEq, reduceAdd, reduceLT, reduceLeDiff, List.reduceReplicate, reducePow, reduceDiv, reduceMod, reduceEqDiff, Nat.reduceBEq, one_length, pgs_length, g1, psV, hH, pc, pV, ptV]
        first | refine cP (i3) ?_ | refine cD (i3) ?_
        simp (maxSteps := 2000000) (disch := omega) only [↓RS, RZ, reduceCtorEq, reduceAdd, reduceLT, reduceLeDiff, List.reduceReplicate, reducePow, reduceDiv, reduceMod, reduceEqDiff, Nat.reduceBEq]
        exact lp_next (i + 1) (by rw [hs1]; rfl) ⟨hlt, hH⟩ (by omega)
    · have hin : i = Hs.length := by omega
      subst hin
      rw [hI]
      have hss : ∀ k, k < E.length → hp (E.getD k sg0).a ≤ 2 ^ 26 ∧ hp (E.getD k sg0).b ≤ 2 ^ 26 := by
        intro k hk
        have hm : E.getD k sg0 ∈ E := by rw [List.getD_eq_getElem?_getD, List.getElem?_eq_getElem hk]; exact List.getElem_mem hk
        obtain ⟨l, hl, hs⟩ := mE _ hm
        obtain ⟨j, hj, e⟩ := mem_edgesL hs
        rw [e]
        have hll := (vring_of hv hl).le (k := 2 ^ 26) (by omega)
        have lo := (vring_of hv hl).lo
        exact ⟨hl_get hll hj, hl_get hll (Nat.mod_lt _ (by omega))⟩
      simp (maxSteps := 2000000) (disch := omega) only [↓RS, RZ, reduceCtorEq, reduceAdd, reduceLT, reduceLeDiff, List.reduceReplicate, reducePow, reduceDiv, reduceMod, reduceEqDiff, Nat.reduceBEq, ssV, sgc_length, one_length, pgs_length]
      refine wp_lp (fun (k : Nat) J => ov [(2, .ptr 0 0 0), (3, .ptr 1 0 0), (5, .prim (.int .i64 (z))), (9, ssV E), (11, .prim (.bool (decide (z = 1)))), (12, .prim (.bool (onTo E Q k))), (84, ssV E), (85, .prim (.int .i64 ((E.length : Nat) : Int))), (86, .prim (.int .i64 ((k : Nat) : Int)))] J 0 113)
        (fun k H => k ≤ E.length ∧ get H 1 = some (.row 6 true [pc Q])) (fun k => E.length - k) 0 rfl ⟨Nat.zero_le _, hH⟩ ?_
      rintro k J' H' ⟨hk, hH'⟩
      try conv in ov _ _ _ _ => simp only [ov, List.lookup, Option.getD_some, Option.getD_none, Nat.reduceAdd, Nat.reduceBEq]
      rcases Nat.lt_or_ge k E.length with hlt | hge
      · have g2 := sgc_getD hlt
        have hn := onTo_succ (q := Q) hlt
        obtain ⟨h1, h2⟩ := hss k hlt
        have bt := rbetween_pc (E.getD k sg0).a (E.getD k sg0).b Q h1 h2 (by omega)
        generalize rbetween (E.getD k sg0).a (E.getD k sg0).b Q = r at *
        have w8 : ∀ x, get (H' ++ [x]) 1 = some (.row 6 true [pc Q]) := fun x => get_app hH'
        cases ho : onTo E Q k with
        | true =>
          rw [ho, Bool.true_or] at hn
          simp (maxSteps := 2000000) (disch := omega) only [↓RS, RZ, reduceCtorEq, reduceAdd, reduceLT, reduceLeDiff, List.reduceReplicate, reducePow, reduceDiv, reduceMod, reduceEqDiff, Nat.reduceBEq, ssV, sgc_length, g2, sgc, set_app_len, get_app_len, w8, pc]
          exact lp_next (k + 1) (by rw [hn]; rfl) ⟨hlt, get_app hH'⟩ (by omega)
        | false =>
          rw [ho, Bool.false_or] at hn
          simp (maxSteps := 2000000) (disch := omega) only [↓RS, RZ, reduceCtorEq, reduceAdd, reduceLT, reduceLeDiff, List.reduceReplicate, reducePow, reduceDiv, reduceMod, reduceEqDiff, Nat.reduceBEq, ssV, sgc_length, g2, sgc, set_app_len, get_app_len, w8, pc, pV, ptV]
          first | refine cP (bt) ?_ | refine cD (bt) ?_
          simp (maxSteps := 2000000) (disch := omega) only [↓RS, RZ, reduceCtorEq, reduceAdd, reduceLT, reduceLeDiff, List.reduceReplicate, reducePow, reduceDiv, reduceMod, reduceEqDiff, Nat.reduceBEq]
          exact lp_next (k + 1) (by rw [hn]; rfl) ⟨hlt, get_app hH'⟩ (by omega)
      · have hk2 : k = E.length := by omega
        subst hk2
        rw [hO]
        have e1 : (z == 1) = decide (z = 1) := rfl
        have e0 : (z == 0) = decide (z = 0) := rfl
        have t1 : (decide (z = 1) == decide (z = 1)) = true := by simp
        have t0 : (decide (z = 0) == decide (z = 0)) = true := by simp
        simp (maxSteps := 2000000) (disch := omega) only [↓RS, RZ, reduceCtorEq, reduceAdd, reduceLT, reduceLeDiff, List.reduceReplicate, reducePow, reduceDiv, reduceMod, reduceEqDiff, Nat.reduceBEq, ssV, sgc_length, e1, e0, eqA_bool9, t1, t0]
        first | refine cP (aw) ?_ | refine cD (aw) ?_
        simp (maxSteps := 2000000) (disch := omega) only [↓RS, RZ, reduceCtorEq, reduceAdd, reduceLT, reduceLeDiff, List.reduceReplicate, reducePow, reduceDiv, reduceMod, reduceEqDiff, Nat.reduceBEq]
  · rw [if_neg hc] at vc
    refine PC_intro mixed (FnD.of (by kernel_rfl)) ?_
    simp only [lcOf, Go.Proofs.Tryz.func11, Go.Proofs.Tryz.f11, liteF]
    conv in (occs := *) opsL _ _ _ => all_goals cbv
    conv in ntOf _ _ => cbv
    conv in rsOf _ _ => cbv
    simp only [RN, Nat.reduceAdd, Nat.reduceSub]
    simp (maxSteps := 2000000) (disch := omega) only [↓RS, RZ, reduceCtorEq, reduceAdd, reduceLT, reduceLeDiff, List.reduceReplicate, reducePow, reduceDiv, reduceMod, reduceEqDiff, Nat.reduceBEq, pgV, hsV, rpsV, ptV]
    first | refine cP (f) ?_ | refine cD (f) ?_
    simp (maxSteps := 2000000) (disch := omega) only [↓RS, RZ, reduceCtorEq, reduceAdd, reduceLT, reduceLeDiff, List.reduceReplicate, reducePow, reduceDiv, reduceMod, reduceEqDiff, Nat.reduceBEq]
    first | refine cP (g) ?_ | refine cD (g) ?_
    simp (maxSteps := 2000000) (disch := omega) only [↓RS, RZ, reduceCtorEq, reduceAdd, reduceLT, reduceLeDiff, List.reduceReplicate, reducePow, reduceDiv, reduceMod, reduceEqDiff, Nat.reduceBEq]
    first | refine cP (vc) ?_ | refine cD (vc) ?_
    simp (maxSteps := 2000000) (disch := omega) only [↓RS, RZ, reduceCtorEq, reduceAdd, reduceLT, reduceLeDiff, List.reduceReplicate, reducePow, reduceDiv, reduceMod, reduceEqDiff, Nat.reduceBEq]
    first | refine cP (aw) ?_ | refine cD (aw) ?_
    simp (maxSteps := 2000000) (disch := omega) only [↓RS, RZ, reduceCtorEq, reduceAdd, reduceLT, reduceLeDiff, List.reduceReplicate, reducePow, reduceDiv, reduceMod, reduceEqDiff, Nat.reduceBEq]
end Go.Av
