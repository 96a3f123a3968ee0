/- Helping texts: Fb, Fc. -/
import Derived.Test.YtbidkolaahnbiaaGreatK42
import Derived.Test.YtbidkolaahnbiaaGreatK36
import Derived.Test.YtbidkolaahnbiaaGreatK44
set_option linter.unusedSimpArgs false
set_option linter.unusedVariables false
namespace Go.Av
open Go.RowKit
open Go.Proofs.Tryz (prog)
theorem pcr_get {l : List Pt} {i : Nat} (h : i < l.length) : (l.map pc)[i]? = some (pc (l.getD i default)) := by
  rw [List.getElem?_map, List.getD_eq_getElem?_getD, List.getElem?_eq_getElem h]; rfl
theorem eqA_pc (p q : Pt) : eqA (tyOf prog) 9 31 (.agg [.prim (.bool (can p.x).neg), .prim (.string (bs ((can p.x).num))), .prim (.string (bs ((can p.x).den))), .prim (.bool (can p.y).neg), .prim (.string (bs ((can p.y).num))), .prim (.string (bs ((can p.y).den)))]) (.agg [.prim (.bool (can q.x).neg), .prim (.string (bs ((can q.x).num))), .prim (.string (bs ((can q.x).den))), .prim (.bool (can q.y).neg), .prim (.string (bs ((can q.y).num))), .prim (.string (bs ((can q.y).den)))]) = some (decide (p = q)) := by
  rw [eqA_pt, can_eq]
theorem keep_pc (a b c : Pt) (h1 : hp a ≤ 2 ^ 26) (h2 : hp b ≤ 2 ^ 26) (h3 : hp c ≤ 2 ^ 26) (hbc : b ≠ c) (ho : orient a b c ≠ 0) : PC prog 225 [pV a, pV b, pV c] (.prim (.bool false)) := by
  have o := orient_pc a b c h1 h2 h3
  have e := eqA_pc b c
  rw [decide_eq_false hbc] at e
  refine PC_intro mixed (FnD.of (by kernel_rfl)) ?_
  conv in lcOf _ _ => cbv
  conv in ntOf _ _ => cbv
  conv in rsOf _ _ => cbv
  simp only [RN, Nat.reduceAdd, Nat.reduceSub]
  simp (maxSteps := 2000000) (disch := omega) only [↓RS, RW, RB, RX, RE, RK, RT, evN, evA, evL, binV, unV, intOfV, lenV, TK.isAgg, sliceV, reduceCtorEq, Nat.reduceAdd, Nat.reduceLT, Nat.reduceLeDiff, List.reduceReplicate, elemsOf, added, view, view.viewL, view.viewLL, Nat.reducePow, Nat.reduceDiv, Nat.reduceMod, Nat.reduceEqDiff, Nat.reduceBEq, pV, ptV, e]
  first | refine cP (o) ?_ | refine cD (o) ?_
  simp (maxSteps := 2000000) (disch := omega) only [↓RS, RW, RB, RX, RE, RK, RT, evN, evA, evL, binV, unV, intOfV, lenV, TK.isAgg, sliceV, reduceCtorEq, Nat.reduceAdd, Nat.reduceLT, Nat.reduceLeDiff, List.reduceReplicate, elemsOf, added, view, view.viewL, view.viewLL, Nat.reducePow, Nat.reduceDiv, Nat.reduceMod, Nat.reduceEqDiff, Nat.reduceBEq]

set_option maxRecDepth 100000 in
set_option maxHeartbeats 8000000 in
theorem simplify_sc (l : List Pt) (h3 : 3 ≤ l.length) (hn : l.length ≤ 64) (hl0 : hl l (2 ^ 20)) (hk : keepAll l) {H : Hp} {K : V → Hp → Prop} (hK : NewL H l K) :
    SC prog 224 [psV l, .clo 225 [] []] H K := by
  have hne : l ≠ [] := by intro e; rw [e] at h3; simp at h3
  refine SC_introS mixed (FnS.of (by kernel_rfl)) ?_
  conv in lcS _ _ => cbv
  conv in ntOf _ _ => cbv
  conv in rsOf _ _ => cbv
  simp only [RN, Nat.reduceAdd, Nat.reduceSub]
  simp (maxSteps := 2000000) (disch := omega) only [↓RS, RW, RB, RX, RE, RK, RT, evN, evA, evL, binV, unV, intOfV, lenV, TK.isAgg, sliceV, reduceCtorEq, Nat.reduceAdd, Nat.reduceLT, Nat.reduceLeDiff, List.reduceReplicate, elemsOf, added, view, view.viewL, view.viewLL, Nat.reducePow, Nat.reduceDiv, Nat.reduceMod, Nat.reduceEqDiff, Nat.reduceBEq, psV]
  refine call_sc (clone_sc l hne (by omega) ?_)
  intro b H' hE hb hg
  have fin := hK b H' hE hb hg
  clear hK
  simp (maxSteps := 2000000) (disch := omega) only [↓RS, RW, RB, RX, RE, RK, RT, evN, evA, evL, binV, unV, intOfV, lenV, TK.isAgg, sliceV, reduceCtorEq, Nat.reduceAdd, Nat.reduceLT, Nat.reduceLeDiff, List.reduceReplicate, elemsOf, added, view, view.viewL, view.viewLL, Nat.reducePow, Nat.reduceDiv, Nat.reduceMod, Nat.reduceEqDiff, Nat.reduceBEq]
  refine wp_lp (fun (i : Nat) J => .sref b 0 l.length l.length 6 false :: .clo 225 [] [] :: J 2 :: J 3 :: .prim (.slice none 0 0) :: .prim (.int .i64 ((l.length : Nat) : Int)) :: .prim (.int .i64 ((i : Nat) : Int)) :: J 7 :: J 8 :: J 9 :: J 10 :: J 11 :: J 12 :: J 13 :: J 14 :: J 15 :: J 16 :: J 17 :: J 18 :: J 19 :: J 20 :: J 21 :: J 22 :: J 23 :: J 24 :: J 25 :: J 26 :: J 27 :: J 28 :: J 29 :: J 30 :: J 31 :: J 32 :: J 33 :: J 34 :: J 35 :: J 36 :: J 37 :: J 38 :: J 39 :: J 40 :: J 41 :: J 42 :: J 43 :: J 44 :: J 45 :: J 46 :: J 47 :: []) (fun i H2 => i ≤ l.length ∧ H2 = H') (fun i => l.length - i) 0 rfl ⟨Nat.zero_le _, rfl⟩ ?_
  rintro i J _ ⟨hi, rfl⟩
  rcases Nat.lt_or_ge i l.length with hlt | hge
  · have m1 := Nat.mod_lt (i + l.length - 1) (show 0 < l.length by omega)
    have m2 := Nat.mod_lt (i + 1) (show 0 < l.length by omega)
    have g1 := pcr_get hlt
    have g2 := pcr_get m1
    have g3 := pcr_get m2
    obtain ⟨k1, k2⟩ := hk i hlt
    have o := keep_pc _ _ _ (Nat.le_trans (hl_get hl0 m1) (by omega)) (Nat.le_trans (hl_get hl0 hlt) (by omega)) (Nat.le_trans (hl_get hl0 m2) (by omega)) k1 (of_decide_eq_false k2)
    simp (maxSteps := 2000000) (disch := omega) only [↓RS, RW, RB, RX, RE, RK, RT, evN, evA, evL, binV, unV, intOfV, lenV, TK.isAgg, sliceV, reduceCtorEq, Nat.reduceAdd, Nat.reduceLT, Nat.reduceLeDiff, List.reduceReplicate, elemsOf, added, view, view.viewL, view.viewLL, Nat.reducePow, Nat.reduceDiv, Nat.reduceMod, Nat.reduceEqDiff, Nat.reduceBEq, g1, g2, g3, pc, tmodN, set_app_len, hg]
    first | refine cP (o) ?_ | refine cD (o) ?_
    simp (maxSteps := 2000000) (disch := omega) only [↓RS, RW, RB, RX, RE, RK, RT, evN, evA, evL, binV, unV, intOfV, lenV, TK.isAgg, sliceV, reduceCtorEq, Nat.reduceAdd, Nat.reduceLT, Nat.reduceLeDiff, List.reduceReplicate, elemsOf, added, view, view.viewL, view.viewLL, Nat.reducePow, Nat.reduceDiv, Nat.reduceMod, Nat.reduceEqDiff, Nat.reduceBEq]
    exact lp_next (i + 1) rfl ⟨hlt, rfl⟩ (by omega)
  · have hia : i = l.length := by omega
    subst hia
    simp (maxSteps := 2000000) (disch := omega) only [↓RS, RW, RB, RX, RE, RK, RT, evN, evA, evL, binV, unV, intOfV, lenV, TK.isAgg, sliceV, reduceCtorEq, Nat.reduceAdd, Nat.reduceLT, Nat.reduceLeDiff, List.reduceReplicate, elemsOf, added, view, view.viewL, view.viewLL, Nat.reducePow, Nat.reduceDiv, Nat.reduceMod, Nat.reduceEqDiff, Nat.reduceBEq]
    exact fin

theorem getD_setP {l : List Pt} {i j : Nat} {x : Pt} (hj : j < l.length) : (l.set j x).getD i default = if i = j then x else l.getD i default := by
  rw [List.getD_eq_getElem?_getD, List.getElem?_set, List.getD_eq_getElem?_getD]
  by_cases h : j = i
  · subst h; simp [hj]
  · rw [if_neg h, if_neg (fun e => h e.symm)]
def swapE (l : List Pt) (k : Nat) : List Pt := (List.range l.length).map fun i => if i < k ∨ l.length - k ≤ i then l.getD (l.length - 1 - i) default else l.getD i default
theorem swapE_length (l : List Pt) (k : Nat) : (swapE l k).length = l.length := by simp [swapE]
theorem swapE_get {l : List Pt} {k i : Nat} (h : i < l.length) : (swapE l k).getD i default = if i < k ∨ l.length - k ≤ i then l.getD (l.length - 1 - i) default else l.getD i default := by
  unfold swapE
  rw [List.getD_eq_getElem?_getD, List.getElem?_map, List.getElem?_range h]; rfl
theorem swapE_zero (l : List Pt) : swapE l 0 = l := by
  refine ext_getD (swapE_length l 0) fun i hi => ?_
  rw [swapE_length] at hi
  rw [swapE_get hi, if_neg (by omega)]
theorem swapE_end {l : List Pt} {k : Nat} (h : l.length - 1 - k ≤ k) : swapE l k = l.reverse := by
  refine ext_getD (by rw [swapE_length, List.length_reverse]) fun i hi => ?_
  rw [swapE_length] at hi
  rw [swapE_get hi, rev_getD hi]
  split
  · rfl
  · rw [show l.length - 1 - i = i by omega]
theorem swapE_step {l : List Pt} {k : Nat} (h : k < l.length - 1 - k) : ((swapE l k).set k (l.getD (l.length - 1 - k) default)).set (l.length - 1 - k) (l.getD k default) = swapE l (k + 1) := by
  refine ext_getD (by simp [swapE_length]) fun i hi => ?_
  simp only [List.length_set, swapE_length] at hi
  rw [getD_setP (by simp only [List.length_set, swapE_length]; omega), getD_setP (by rw [swapE_length]; omega), swapE_get hi, swapE_get hi]
  by_cases h1 : i = l.length - 1 - k
  · rw [if_pos h1, if_pos (by omega), h1, show l.length - 1 - (l.length - 1 - k) = k by omega]
  · rw [if_neg h1]
    by_cases h2 : i = k
    · rw [if_pos h2, if_pos (by omega), h2]
    · rw [if_neg h2]
      by_cases h3 : i < k ∨ l.length - k ≤ i
      · rw [if_pos h3, if_pos (by omega)]
      · rw [if_neg h3, if_neg (by omega)]

set_option maxRecDepth 100000 in
set_option maxHeartbeats 8000000 in
theorem reverse_sc (l : List Pt) (hne : l ≠ []) (hn : l.length ≤ 2 ^ 30) {b : Nat} {fx : Bool} {H : Hp} {K : V → Hp → Prop} (hb : get H b = some (.row 6 true (l.map pc))) (hK : K (.tup []) (H.set b (some (.row 6 true (l.reverse.map pc))))) :
    SC prog 167 [.sref b 0 l.length l.length 6 fx] H K := by
  have hpos : 0 < l.length := List.length_pos_iff.2 hne
  have hbl := get_lt_len hb
  have s1 : ∀ x, get (H.set b x) b = x := fun x => get_eq hbl
  have s2 : ∀ x y, (H.set b x).set b y = H.set b y := fun x y => List.set_set ..
  refine SC_intro mixed (FnD.of (by kernel_rfl)) ?_
  conv in lcOf _ _ => cbv
  conv in ntOf _ _ => cbv
  conv in rsOf _ _ => cbv
  simp only [RN, Nat.reduceAdd, Nat.reduceSub]
  simp (maxSteps := 2000000) (disch := omega) only [↓RS, RW, RB, RX, RE, RK, RT, evN, evA, evL, binV, unV, intOfV, lenV, TK.isAgg, sliceV, reduceCtorEq, Nat.reduceAdd, Nat.reduceLT, Nat.reduceLeDiff, List.reduceReplicate, elemsOf, added, view, view.viewL, view.viewLL, Nat.reducePow, Nat.reduceDiv, Nat.reduceMod, Nat.reduceEqDiff, Nat.reduceBEq]
  refine wp_lp (fun (k : Nat) J => .sref b 0 l.length l.length 6 fx :: J 1 :: .prim (.int .i64 ((k : Nat) : Int)) :: .prim (.int .i64 ((l.length - 1 - k : Nat) : Int)) :: J 4 :: J 5 :: J 6 :: J 7 :: J 8 :: J 9 :: J 10 :: J 11 :: J 12 :: J 13 :: J 14 :: J 15 :: J 16 :: J 17 :: J 18 :: J 19 :: J 20 :: J 21 :: J 22 :: J 23 :: J 24 :: J 25 :: J 26 :: J 27 :: []) (fun k H' => k ≤ l.length - 1 - k + 1 ∧ k ≤ l.length - 1 ∧ H' = H.set b (some (.row 6 true ((swapE l k).map pc)))) (fun k => l.length - 1 - k) 0 rfl ⟨by omega, by omega, by rw [swapE_zero, set_self hb]⟩ ?_
  rintro k J _ ⟨hk, hk2, rfl⟩
  rcases Nat.lt_or_ge k (l.length - 1 - k) with hlt | hge
  · have g1 : ((swapE l k).map pc)[k]? = some (pc (l.getD k default)) := by rw [pcr_get (by rw [swapE_length]; omega), swapE_get (by omega), if_neg (by omega)]
    have g2 : ((swapE l k).map pc)[l.length - 1 - k]? = some (pc (l.getD (l.length - 1 - k) default)) := by rw [pcr_get (by rw [swapE_length]; omega), swapE_get (by omega), if_neg (by omega)]
    have g3 : ∀ x, (((swapE l k).map pc).set k x)[l.length - 1 - k]? = some (pc (l.getD (l.length - 1 - k) default)) := fun x => by rw [List.getElem?_set_ne (by omega)]; exact g2
    have hs : ((((swapE l k).map pc).set k (pc (l.getD (l.length - 1 - k) default))).set (l.length - 1 - k) (pc (l.getD k default))) = (swapE l (k + 1)).map pc := by rw [← swapE_step hlt, List.map_set, List.map_set]
    have hj : l.length - 1 - (k + 1) = l.length - 1 - k - 1 := by omega
    simp only [pc] at hs
    simp (maxSteps := 2000000) (disch := omega) only [↓RS, RW, RB, RX, RE, RK, RT, evN, evA, evL, binV, unV, intOfV, lenV, TK.isAgg, sliceV, reduceCtorEq, Nat.reduceAdd, Nat.reduceLT, Nat.reduceLeDiff, List.reduceReplicate, elemsOf, added, view, view.viewL, view.viewLL, Nat.reducePow, Nat.reduceDiv, Nat.reduceMod, Nat.reduceEqDiff, Nat.reduceBEq, s1, s2, g1, g2, g3, pc, hs]
    refine lp_next (k + 1) (by rw [hj]; rfl) ⟨by omega, by omega, rfl⟩ (by omega)
  · rw [← swapE_end hge] at hK
    simp (maxSteps := 2000000) (disch := omega) only [↓RS, RW, RB, RX, RE, RK, RT, evN, evA, evL, binV, unV, intOfV, lenV, TK.isAgg, sliceV, reduceCtorEq, Nat.reduceAdd, Nat.reduceLT, Nat.reduceLeDiff, List.reduceReplicate, elemsOf, added, view, view.viewL, view.viewLL, Nat.reducePow, Nat.reduceDiv, Nat.reduceMod, Nat.reduceEqDiff, Nat.reduceBEq]
    exact hK
end Go.Av
namespace Go.Av
open Go.RowKit
open Go.Proofs.Tryz (prog)
theorem pc_zero : pc pt0 = [.prim (.bool false), .prim (.string (bs ([]))), .prim (.string (bs ([]))), .prim (.bool false), .prim (.string (bs ([]))), .prim (.string (bs ([])))] := by simp only [pc, pt0, can_zero]
theorem rep_cell (n : Nat) : ∀ y ∈ List.replicate n (pc pt0), ∀ v ∈ y, cellV v = true := by
  intro y hy v hv
  rw [(List.mem_replicate.1 hy).2, pc_zero] at hv
  simp only [List.mem_cons, List.not_mem_nil, or_false] at hv
  rcases hv with rfl | rfl | rfl | rfl | rfl | rfl <;> rfl
set_option maxHeartbeats 4000000 in
theorem grow_sc (n : Nat) (h0 : 0 < n) (hn : n ≤ 2 ^ 30) {H : Hp} {K : V → Hp → Prop} (hK : ∀ b H', Ext H H' → H.length ≤ b → get H' b = some (.row 6 true (List.replicate n (pc pt0))) → K (.sref b 0 0 n 6 false) H') :
    SC prog 239 [.prim (.slice none 0 0), .prim (.int .i64 ((n : Nat) : Int))] H K := by
  have fin := hK H.length (H ++ [some (.row 6 true (List.replicate n (pc pt0)))]) (Ext.app _) (Nat.le_refl _) get_app_len
  have hr := rep_cell n
  rw [pc_zero] at fin hr
  refine SC_intro mixed (FnD.of (by kernel_rfl)) ?_
  conv in lcOf _ _ => cbv
  conv in ntOf _ _ => cbv
  conv in rsOf _ _ => cbv
  simp only [RN, Nat.reduceAdd, Nat.reduceSub]
  simp (maxSteps := 2000000) (disch := omega) only [↓RS, RW, RB, RX, RE, RK, RT, evN, evA, evL, binV, unV, intOfV, lenV, TK.isAgg, sliceV, reduceCtorEq, Nat.reduceAdd, Nat.reduceLT, Nat.reduceLeDiff, List.reduceReplicate, elemsOf, added, view, view.viewL, view.viewLL, Nat.reducePow, Nat.reduceDiv, Nat.reduceMod, Nat.reduceEqDiff, Nat.reduceBEq, Nat.sub_zero]
  refine ⟨hr, ⟨fun h => absurd (congrArg List.length h) (by rw [List.length_replicate]; simp; omega), fun _ => ?_⟩⟩
  rw [List.length_replicate]
  refine ⟨by show n * 80 ≤ _; omega, by omega, ?_⟩
  simp (maxSteps := 2000000) (disch := omega) only [↓RS, RW, RB, RX, RE, RK, RT, evN, evA, evL, binV, unV, intOfV, lenV, TK.isAgg, sliceV, reduceCtorEq, Nat.reduceAdd, Nat.reduceLT, Nat.reduceLeDiff, List.reduceReplicate, elemsOf, added, view, view.viewL, view.viewLL, Nat.reducePow, Nat.reduceDiv, Nat.reduceMod, Nat.reduceEqDiff, Nat.reduceBEq]
  exact fin

theorem elemsOf_keep {H H' : Hp} {sz : Nat} {v : V} {es : List (List V)} (e : elemsOf H sz v = some es) (hk : ∀ c k, get H c = some k → get H' c = some k) : elemsOf H' sz v = some es := by
  cases v with
  | sref b o n c s f =>
    simp only [elemsOf] at e ⊢
    cases hg : get H b with
    | none => rw [hg] at e; cases e
    | some k => rw [hg] at e; rw [hk _ _ hg]; exact e
  | prim x => unfold elemsOf at e ⊢; split at e <;> simp_all
  | _ => exact e
theorem splice_two {es xs ys : List (List V)} (h : es.length = xs.length + ys.length) : splice (splice es 0 xs) xs.length ys = xs ++ ys := by
  unfold splice
  simp only [List.take_zero, List.nil_append, Nat.zero_add]
  rw [List.take_left' rfl, List.drop_eq_nil_of_le (by simp; omega), List.append_nil]
theorem app_room {P : Program} {H : Hp} {ei : TyI} {b n c : Nat} {es ys : List (List V)} {K : V → Hp → Prop} (hg : get H b = some (.row ei.sz true es)) (hy : ∀ y ∈ ys, ∀ v ∈ y, cellV v = true) (h1 : n + ys.length ≤ c) (h2 : c ≤ es.length)
    (hK : K (.sref b 0 (n + ys.length) c ei.sz false) (H.set b (some (.row ei.sz true (splice es n ys))))) : wpAppend P H ei (.sref b 0 n c ei.sz false) ys K := by
  refine ⟨hy, ?_⟩
  simp only [hg]
  exact ⟨trivial, by omega, .inl ⟨h1, by omega, trivial, by rw [Nat.zero_add]; exact hK⟩⟩

set_option maxRecDepth 100000 in
set_option maxHeartbeats 8000000 in
theorem concat_sc (A B : List Pt) (h0 : 0 < A.length + B.length) (hn : A.length + B.length ≤ 2 ^ 30) {c : Nat} {fx : Bool} {v1 v2 : V} {H : Hp} {K : V → Hp → Prop} (hc : get H c = some (.row 1 true [[v1], [v2]]))
    (e1 : elemsOf H 6 v1 = some (A.map pc)) (l1 : lenV v1 = some A.length) (e2 : elemsOf H 6 v2 = some (B.map pc)) (l2 : lenV v2 = some B.length) (hK : NewL H (A ++ B) K) :
    SC prog 166 [.sref c 0 2 2 1 fx] H K := by
  have hcl := get_lt_len hc
  have e1' : ∀ {H'}, Ext H H' → elemsOf H' 6 v1 = some (A.map pc) := fun hE => elemsOf_keep e1 (fun c k h => hE.get h)
  have e2' : ∀ {H'}, Ext H H' → elemsOf H' 6 v2 = some (B.map pc) := fun hE => elemsOf_keep e2 (fun c k h => hE.get h)
  unfold lenV at l1 l2
  refine SC_intro mixed (FnD.of (by kernel_rfl)) ?_
  conv in lcOf _ _ => cbv
  conv in ntOf _ _ => cbv
  conv in rsOf _ _ => cbv
  simp only [RN, Nat.reduceAdd, Nat.reduceSub]
  simp (maxSteps := 2000000) (disch := omega) only [↓RS, RW, RB, RX, RE, RK, RT, evN, evA, evL, binV, unV, intOfV, lenV, TK.isAgg, sliceV, reduceCtorEq, Nat.reduceAdd, Nat.reduceLT, Nat.reduceLeDiff, List.reduceReplicate, elemsOf, added, view, view.viewL, view.viewLL, Nat.reducePow, Nat.reduceDiv, Nat.reduceMod, Nat.reduceEqDiff, Nat.reduceBEq]
  refine wp_iter 3 ?_
  simp (maxSteps := 2000000) (disch := omega) only [↓RS, RW, RB, RX, RE, RK, RT, evN, evA, evL, binV, unV, intOfV, lenV, TK.isAgg, sliceV, reduceCtorEq, Nat.reduceAdd, Nat.reduceLT, Nat.reduceLeDiff, List.reduceReplicate, elemsOf, added, view, view.viewL, view.viewLL, Nat.reducePow, Nat.reduceDiv, Nat.reduceMod, Nat.reduceEqDiff, Nat.reduceBEq, iterL_s, itQ_normal, itQ_exit, itQ_ret, Int.reduceAdd, Int.zero_add, hc, l1, l2]
  refine call_sc (grow_sc (A.length + B.length) h0 hn ?_)
  intro b H' hE hb hg
  have hc' := hE.get hc
  have e1' := e1' hE
  have e2' : ∀ x, elemsOf (H'.set b x) 6 v2 = some (B.map pc) := fun x => elemsOf_keep e2 (fun c k h => by
    have := get_lt_len h
    rw [get_ne (by omega)]; exact hE.get h)
  have hc2 : ∀ x, get (H'.set b x) c = some (.row 1 true [[v1], [v2]]) := fun x => by rw [get_ne (by omega)]; exact hc'
  have hb2 : ∀ x, get (H'.set b x) b = x := fun x => get_eq (get_lt_len hg)
  simp (maxSteps := 2000000) (disch := omega) only [↓RS, RW, RB, RX, RE, RK, RT, evN, evA, evL, binV, unV, intOfV, lenV, TK.isAgg, sliceV, reduceCtorEq, Nat.reduceAdd, Nat.reduceLT, Nat.reduceLeDiff, List.reduceReplicate, elemsOf, added, view, view.viewL, view.viewLL, Nat.reducePow, Nat.reduceDiv, Nat.reduceMod, Nat.reduceEqDiff, Nat.reduceBEq] at e1' e2'
  simp (maxSteps := 2000000) (disch := omega) only [↓RS, RW, RB, RX, RE, RK, RT, evN, evA, evL, binV, unV, intOfV, lenV, TK.isAgg, sliceV, reduceCtorEq, Nat.reduceAdd, Nat.reduceLT, Nat.reduceLeDiff, List.reduceReplicate, elemsOf, added, view, view.viewL, view.viewLL, Nat.reducePow, Nat.reduceDiv, Nat.reduceMod, Nat.reduceEqDiff, Nat.reduceBEq]
  refine wp_iter 3 ?_
  simp (maxSteps := 2000000) (disch := omega) only [↓RS, RW, RB, RX, RE, RK, RT, evN, evA, evL, binV, unV, intOfV, lenV, TK.isAgg, sliceV, reduceCtorEq, Nat.reduceAdd, Nat.reduceLT, Nat.reduceLeDiff, List.reduceReplicate, elemsOf, added, view, view.viewL, view.viewLL, Nat.reducePow, Nat.reduceDiv, Nat.reduceMod, Nat.reduceEqDiff, Nat.reduceBEq, iterL_s, itQ_normal, itQ_exit, itQ_ret, Int.reduceAdd, Int.zero_add, hc', e1']
  refine app_room hg (prims_cell (pc_prims A)) ?_ ?_ ?_
  · simp only [List.length_map]; omega
  · simp only [List.length_replicate]; omega
  have hla : (A.map pc).length = A.length := List.length_map ..
  have hlb : (B.map pc).length = B.length := List.length_map ..
  rw [hla, Nat.zero_add]
  simp (maxSteps := 2000000) (disch := omega) only [↓RS, RW, RB, RX, RE, RK, RT, evN, evA, evL, binV, unV, intOfV, lenV, TK.isAgg, sliceV, reduceCtorEq, Nat.reduceAdd, Nat.reduceLT, Nat.reduceLeDiff, List.reduceReplicate, elemsOf, added, view, view.viewL, view.viewLL, Nat.reducePow, Nat.reduceDiv, Nat.reduceMod, Nat.reduceEqDiff, Nat.reduceBEq, iterL_s, itQ_normal, itQ_exit, itQ_ret, Int.reduceAdd, Int.zero_add, hc2, e2']
  refine app_room (hb2 _) (prims_cell (pc_prims B)) ?_ ?_ ?_
  · rw [hlb]; exact Nat.le_refl _
  · unfold splice; simp only [List.length_append, List.length_take, List.length_drop, List.length_replicate, hla]; omega
  have hsp : splice (splice (List.replicate (A.length + B.length) (pc pt0)) 0 (A.map pc)) A.length (B.map pc) = (A ++ B).map pc := by
    have := splice_two (es := List.replicate (A.length + B.length) (pc pt0)) (xs := A.map pc) (ys := B.map pc) (by rw [List.length_replicate, hla, hlb])
    rw [hla] at this
    rw [this, List.map_append]
  have hset : ∀ x y, (H'.set b x).set b y = H'.set b y := fun x y => List.set_set ..
  rw [hlb, hset, hsp]
  have hcb := get_lt_len hg
  have hE2 : Ext H (H'.set b (some (.row 6 true ((A ++ B).map pc)))) := ⟨by rw [List.length_set]; exact hE.len, fun {c k} h => by
    have := get_lt_len h
    rw [get_ne (by omega)]; exact hE.get h⟩
  have fin := hK b _ hE2 hb (get_eq hcb)
  have hc3 := hc2 (some (.row 6 true ((A ++ B).map pc)))
  rw [List.length_append] at fin
  generalize H'.set b (some (Blk.row 6 true ((A ++ B).map pc))) = H3 at *
  simp (maxSteps := 2000000) (disch := omega) only [↓RS, RW, RB, RX, RE, RK, RT, evN, evA, evL, binV, unV, intOfV, lenV, TK.isAgg, sliceV, reduceCtorEq, Nat.reduceAdd, Nat.reduceLT, Nat.reduceLeDiff, List.reduceReplicate, elemsOf, added, view, view.viewL, view.viewLL, Nat.reducePow, Nat.reduceDiv, Nat.reduceMod, Nat.reduceEqDiff, Nat.reduceBEq, iterL_s, itQ_normal, itQ_exit, itQ_ret, Int.reduceAdd, Int.zero_add, hc3]
  exact fin

end Go.Av
