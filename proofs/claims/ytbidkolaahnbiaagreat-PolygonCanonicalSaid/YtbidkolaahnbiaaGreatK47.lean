/- Helping texts: Fg. -/
import Derived.Test.YtbidkolaahnbiaaGreatK46
import Derived.Test.YtbidkolaahnbiaaGreatK35
set_option linter.unusedSimpArgs false
set_option linter.unusedVariables false
namespace Go.Av
open Go.RowKit
open Go.Proofs.Tryz (prog)
theorem VR_nil {φ : Nat → Option Loc} {I : Nat → Prop} {w : World} {x : Value} (h : VR φ I w (.prim (.slice none 0 0)) x) : VR φ I w (.lst 1 []) x := by cases h; exact .lnil
theorem VR_anil {φ : Nat → Option Loc} {I : Nat → Prop} {w : World} {a : V} {x : Value} (h : VR φ I w (.agg [a, .prim (.slice none 0 0)]) x) : VR φ I w (.agg [a, .lst 1 []]) x := by
  cases h with
  | agg h1 hx =>
    refine .agg h1 fun k v x hv hxk => ?_
    match k, hv with
    | 0, hv => exact hx 0 v x hv hxk
    | 1, hv => cases hv; exact VR_nil (hx 1 _ x rfl hxk)
    | k + 2, hv => simp at hv
theorem PC_arg {P : Program} {f : FuncId} {v v' : V} {vs : List V} {r : V} (hv : ∀ I w x, VR (fun _ => none) I w v x → VR (fun _ => none) I w v' x) (h : PC P f (v' :: vs) r) : PC P f (v :: vs) r := fun I w xs hI hxs =>
  h I w xs hI ⟨hxs.len, fun k u x hu hx => by
    match k, hu with
    | 0, hu => cases hu; exact hv I w x (hxs.at_ 0 v x rfl hx)
    | k + 1, hu => exact hxs.at_ (k + 1) u x hu hx⟩
theorem PC_nilA {P : Program} {f : FuncId} {a : V} {vs : List V} {r : V} (h : PC P f (.agg [a, .lst 1 []] :: vs) r) : PC P f (.agg [a, .prim (.slice none 0 0)] :: vs) r := PC_arg (fun _ _ _ h => VR_anil h) h
theorem PC_nilR {P : Program} {f : FuncId} {us : List V} {a e : V} (h : PC P f us (.tup [.agg [a, .prim (.slice none 0 0)], e])) : PC P f us (.tup [.agg [a, .lst 1 []], e]) := by
  intro I w xs hI hxs
  obtain ⟨h1, h2⟩ := h I w xs hI hxs
  refine ⟨h1, h2.mono ?_⟩
  rintro e w' ⟨x, h3, h4, h5⟩
  refine ⟨x, h3, ?_, h5⟩
  cases h4 with
  | tup h1 hx =>
    refine .tup h1 fun k v x hv hxk => ?_
    match k, hv with
    | 0, hv => cases hv; exact VR_anil (hx 0 _ x rfl hxk)
    | 1, hv => exact hx 1 v x hv hxk
    | k + 2, hv => simp at hv

theorem viewLL_hcel (H : Hp) (n : Nat) : ∀ S : List (List Pt), view.viewLL H (n + 1) (S.map hcel) = some (S.map hcel)
  | [] => by simp [view.viewLL]
  | a :: S => by
    have ih := viewLL_hcel H n S
    have e : view.viewL H (n + 1) (hcel a) = some (hcel a) := by simp [view.viewL, view, hcel, psV]
    simp only [List.map_cons]
    unfold view.viewLL
    rw [ih, e]
/-- A list of which a ring is made, with nothing removed. -/
structure Can (l : List Pt) : Prop where
  lo : 3 ≤ l.length
  hi : l.length ≤ 64
  ht : hl l (2 ^ 16)
  kp : keepAll l
  cx : crossB l = false
theorem startL_length {m : List Pt} (h : 0 < m.length) : (startL m).length = m.length := rotL_length (Nat.le_of_lt (leastTo_in h))
theorem canonL_length {l : List Pt} (h : 0 < l.length) : (canonL l).length = l.length := by
  unfold canonL
  split
  · rw [startL_length (by rw [List.length_reverse]; exact h), List.length_reverse]
  · exact startL_length h
theorem startL_mem {m : List Pt} {p : Pt} (h : p ∈ startL m) : p ∈ m := by
  rcases List.mem_append.1 h with h | h
  · exact List.mem_of_mem_drop h
  · exact List.mem_of_mem_take h
theorem canonL_mem {l : List Pt} {p : Pt} (h : p ∈ canonL l) : p ∈ l := by
  unfold canonL at h
  split at h
  · exact List.mem_reverse.1 (startL_mem h)
  · exact startL_mem h
theorem Can.okH {Hs : List (List Pt)} (h : ∀ l ∈ Hs, Can l) : okH (Hs.map canonL) := by
  intro i hi
  rw [List.length_map] at hi
  have e : (Hs.map canonL).getD i [] = canonL (Hs.getD i []) := by
    rw [List.getD_eq_getElem?_getD, List.getElem?_map, List.getD_eq_getElem?_getD, List.getElem?_eq_getElem hi]; rfl
  have hc : Can (Hs.getD i []) := by
    rw [List.getD_eq_getElem?_getD, List.getElem?_eq_getElem hi]; exact h _ (List.getElem_mem hi)
  have hl0 := hc.lo
  have hn := canonL_length (l := Hs.getD i []) (by omega)
  have hh := hc.hi
  rw [e]
  refine ⟨fun h0 => by rw [h0] at hn; simp only [List.length_nil] at hn; omega, by omega, fun p hp => Nat.le_trans (hc.ht p (canonL_mem hp)) (by omega)⟩

def NilTo (i : Nat) (v : V) : Prop := i ≤ 1 → v = .prim (.slice none 0 0)
/-- The first cells. -/
def outV (L : List Pt) : Nat → V
  | 0 => .prim (.slice none 0 0)
  | _ + 1 => psV (canonL L)
theorem Can.get {L : List Pt} {Hs : List (List Pt)} (h : ∀ l ∈ L :: Hs, Can l) {i : Nat} (hi : i ≤ Hs.length) : Can ((L :: Hs).getD i []) := by
  rw [List.getD_eq_getElem?_getD, List.getElem?_eq_getElem (by simp only [List.length_cons]; omega)]
  exact h _ (List.getElem_mem _)

set_option maxRecDepth 100000 in
set_option maxHeartbeats 8000000 in
theorem PCanonQ_pc (L : List Pt) (Hs : List (List Pt)) (few : Hs.length ≤ 8) (hC : ∀ l ∈ L :: Hs, Can l) (S : List (List Pt)) (hS : isortH (Hs.map canonL) (Hs.length - 1) = S)
    (hck : PC prog 74 [cgV (canonL L) S] (.prim (.int .i64 (0)))) (u : V) (hu : u = if Hs = [] then .prim (.slice none 0 0) else .lst 1 (S.map hcel)) :
    PC prog 72 [cgV L Hs] (.tup [.agg [psV (canonL L), u], .prim (.int .i64 (0))]) := by
  refine PC_intro mixed (FnD.of (by kernel_rfl)) ?_
  conv in lcOf _ _ => cbv
  conv in ntOf _ _ => cbv
  conv in rsOf _ _ => cbv
  simp only [RN, Nat.reduceAdd, Nat.reduceSub]
  simp (maxSteps := 2000000) (disch := omega) only [↓RS, RW, RB, RX, RE, RK, RT, evN, evA, evL, binV, unV, intOfV, lenV, TK.isAgg, sliceV, reduceCtorEq, Nat.reduceAdd, Nat.reduceLT, Nat.reduceLeDiff, List.reduceReplicate, elemsOf, added, view, view.viewL, view.viewLL, Nat.reducePow, Nat.reduceDiv, Nat.reduceMod, Nat.reduceEqDiff, Nat.reduceBEq, cgV]
  refine call_sc (rings_sc (psV L) (Hs.map psV) ?_)
  simp (maxSteps := 2000000) (disch := omega) only [↓RS, RW, RB, RX, RE, RK, RT, evN, evA, evL, binV, unV, intOfV, lenV, TK.isAgg, sliceV, reduceCtorEq, Nat.reduceAdd, Nat.reduceLT, Nat.reduceLeDiff, List.reduceReplicate, elemsOf, added, view, view.viewL, view.viewLL, Nat.reducePow, Nat.reduceDiv, Nat.reduceMod, Nat.reduceEqDiff, Nat.reduceBEq]
  refine wp_rf mixed (n := 5) (k := 2) rfl rfl rfl (by kernel_rfl) ?_
  conv in lcC _ => cbv
  conv in lcC _ => cbv
  intro R B D hR hyc
  simp only [List.nil_append, List.cons_append] at hyc ⊢
  refine rings1_sc (psV L) (Hs.map psV) (by rw [List.length_map]; omega) (fun i H => ∃ v, NilTo i v ∧ get H 1 = some (.row 2 true [[.prim (.slice none 0 0), .prim (.slice none 0 0)]]) ∧ get H 2 = some (.row 1 true [[.prim (.int .i64 (0))]]) ∧ get H 3 = some (.row 2 true [[outV L i, v]]) ∧ get H 4 = some (.row 2 true [[psV L, .lst 1 ((Hs.map psV).map fun v => [v])]]) ∧ get H 5 = some R ∧ Bufn 6 H v 1 (((Hs.take (i - 1)).map canonL).map hcel)) (fun _ => False) ?_ ?_ ?_ ?_ ?_
  · rintro i H ⟨v, h⟩; exact h.2.2.2.2.1
  · rintro i H hlt ⟨v, hv, h1, h2, h3, h4, h5, h6⟩
    rw [List.length_map] at hlt
    rw [ring_val hlt]
    have hr := Can.get hC hlt
    refine hyc _ _ _ rfl h5 ?_
    clear hyc
    simp (maxSteps := 2000000) (disch := omega) only [↓RS, RW, RB, RX, RE, RK, RT, evN, evA, evL, binV, unV, intOfV, lenV, TK.isAgg, sliceV, reduceCtorEq, Nat.reduceAdd, Nat.reduceLT, Nat.reduceLeDiff, List.reduceReplicate, elemsOf, added, view, view.viewL, view.viewLL, Nat.reducePow, Nat.reduceDiv, Nat.reduceMod, Nat.reduceEqDiff, Nat.reduceBEq, yieldT_cons, yieldT_nil, psV]
    rw [bgQ_normal]
    refine ⟨h5, ?_⟩
    have hN := h6.1
    have q1 : get (H.set 5 (some B)) 1 = some (.row 2 true [[.prim (.slice none 0 0), .prim (.slice none 0 0)]]) := by rw [get_ne (by omega)]; exact h1
    have q2 : get (H.set 5 (some B)) 2 = some (.row 1 true [[.prim (.int .i64 (0))]]) := by rw [get_ne (by omega)]; exact h2
    have q3 : get (H.set 5 (some B)) 3 = some (.row 2 true [[outV L i, v]]) := by rw [get_ne (by omega)]; exact h3
    have q4 : get (H.set 5 (some B)) 4 = some (.row 2 true [[psV L, .lst 1 ((Hs.map psV).map fun v => [v])]]) := by rw [get_ne (by omega)]; exact h4
    have q5 : get (H.set 5 (some B)) 5 = some B := get_eq (by omega)
    have q6 := h6.set (c := 5) (x := some B) (by omega)
    have hN1 : 6 ≤ (H.set 5 (some B)).length := by rw [List.length_set]; exact hN
    generalize H.set 5 (some B) = H1 at q1 q2 q3 q4 q5 q6 hN1 ⊢
    have cc := Rcanon_pc ((L :: Hs).getD i []) hr.lo hr.hi hr.ht hr.kp hr.cx
    simp (maxSteps := 2000000) (disch := omega) only [↓RS, RW, RB, RX, RE, RK, RT, evN, evA, evL, binV, unV, intOfV, lenV, TK.isAgg, sliceV, reduceCtorEq, Nat.reduceAdd, Nat.reduceLT, Nat.reduceLeDiff, List.reduceReplicate, elemsOf, added, view, view.viewL, view.viewLL, Nat.reducePow, Nat.reduceDiv, Nat.reduceMod, Nat.reduceEqDiff, Nat.reduceBEq]
    first | refine cP (cc) ?_ | refine cD (cc) ?_
    have c1 := q6.one
    have c2 := q6.cel
    rcases i with _ | i
    · simp only [outV, List.getD_cons_zero] at *
      simp (maxSteps := 2000000) (disch := omega) only [↓RS, RW, RB, RX, RE, RK, RT, evN, evA, evL, binV, unV, intOfV, lenV, TK.isAgg, sliceV, reduceCtorEq, Nat.reduceAdd, Nat.reduceLT, Nat.reduceLeDiff, List.reduceReplicate, elemsOf, added, view, view.viewL, view.viewLL, Nat.reducePow, Nat.reduceDiv, Nat.reduceMod, Nat.reduceEqDiff, Nat.reduceBEq, q3, psV, c1, c2]
      rw [rdQ_normal]
      refine ⟨by rw [get_ne (by omega)]; exact q5, .inl ⟨rfl, v, fun _ => hv (Nat.zero_le _), ?_, ?_, ?_, ?_, ?_, ?_⟩⟩
      · rw [get_ne (by omega), get_ne (by omega)]; exact q1
      · rw [get_ne (by omega), get_ne (by omega)]; exact q2
      · rw [get_ne (by omega), get_eq (by omega)]
      · rw [get_ne (by omega), get_ne (by omega)]; exact q4
      · rw [get_eq (by rw [List.length_set]; omega)]
      · exact (q6.set (by omega)).set (by omega)
    · have q3 : get H1 3 = some (.row 2 true [[.lst 6 ((canonL L).map pc), v]]) := q3
      simp only [List.getD_cons_succ]
      have hi' : i < Hs.length := hlt
      simp (maxSteps := 2000000) (disch := omega) only [↓RS, RW, RB, RX, RE, RK, RT, evN, evA, evL, binV, unV, intOfV, lenV, TK.isAgg, sliceV, reduceCtorEq, Nat.reduceAdd, Nat.reduceLT, Nat.reduceLeDiff, List.reduceReplicate, elemsOf, added, view, view.viewL, view.viewLL, Nat.reducePow, Nat.reduceDiv, Nat.reduceMod, Nat.reduceEqDiff, Nat.reduceBEq, q3, psV, c1, c2]
      refine Bufn.append (q6.app _) (by simp [cellV]) (by simp only [List.length_cons, List.length_nil, List.length_map, List.length_take]; omega) (by simp only [List.length_cons, List.length_nil, List.length_map, List.length_take]; omega) ?_
      intro v' H2 hb hk
      have r1 := hk 1 _ (by omega) (get_app q1)
      have r2 := hk 2 _ (by omega) (get_app q2)
      have r3 := hk 3 _ (by omega) (get_app q3)
      have r4 := hk 4 _ (by omega) (get_app q4)
      have r5 := hk 5 _ (by omega) (get_app q5)
      have c1 := hb.one
      have c2 := hb.cel
      simp (maxSteps := 2000000) (disch := omega) only [↓RS, RW, RB, RX, RE, RK, RT, evN, evA, evL, binV, unV, intOfV, lenV, TK.isAgg, sliceV, reduceCtorEq, Nat.reduceAdd, Nat.reduceLT, Nat.reduceLeDiff, List.reduceReplicate, elemsOf, added, view, view.viewL, view.viewLL, Nat.reducePow, Nat.reduceDiv, Nat.reduceMod, Nat.reduceEqDiff, Nat.reduceBEq, r3, c1, c2]
      rw [rdQ_normal]
      have hl3 := hb.1
      refine ⟨by rw [get_ne (by omega)]; exact r5, .inl ⟨rfl, v', fun h => absurd h (by omega), ?_, ?_, ?_, ?_, ?_, ?_⟩⟩
      · rw [get_ne (by omega), get_ne (by omega)]; exact r1
      · rw [get_ne (by omega), get_ne (by omega)]; exact r2
      · rw [get_ne (by omega), get_eq (by omega)]; rfl
      · rw [get_ne (by omega), get_ne (by omega)]; exact r4
      · rw [get_eq (by rw [List.length_set]; omega)]
      · have e : ((Hs.take (i + 1 + 1 - 1)).map canonL).map hcel = ((Hs.take (i + 1 - 1)).map canonL).map hcel ++ [[.lst 6 ((canonL (Hs.getD i [])).map pc)]] := by
          rw [show i + 1 + 1 - 1 = i + 1 by omega, show i + 1 - 1 = i by omega, List.take_add_one, List.getElem?_eq_getElem hi', List.map_append, List.map_append, List.getD_eq_getElem?_getD, List.getElem?_eq_getElem hi']; rfl
        rw [e]
        exact (hb.set (by omega)).set (by omega)
  · exact ⟨_, fun _ => rfl, rfl, rfl, rfl, rfl, rfl, .nil (by simp)⟩
  · rintro w H ⟨v, hv, h1, h2, h3, h4, h5, h6⟩
    refine .inl ⟨h5, ?_⟩
    rw [List.length_map, Nat.add_sub_cancel, List.take_length] at h6
    have hN := h6.1
    have q1 : get (H.set 5 none) 1 = some (.row 2 true [[.prim (.slice none 0 0), .prim (.slice none 0 0)]]) := by rw [get_ne (by omega)]; exact h1
    have q2 : get (H.set 5 none) 2 = some (.row 1 true [[.prim (.int .i64 (0))]]) := by rw [get_ne (by omega)]; exact h2
    have q3 : get (H.set 5 none) 3 = some (.row 2 true [[.lst 6 ((canonL L).map pc), v]]) := by rw [get_ne (by omega)]; exact h3
    have q6 := h6.set (c := 5) (x := none) (by omega)
    generalize H.set 5 none = H1 at q1 q2 q3 q6 ⊢
    have hN1 := q6.1
    clear h1 h2 h3 h4 h5 h6 hyc
    by_cases hz : Hs = []
    · subst hz
      have hv := hv (Nat.le_refl _)
      subst hv
      rw [if_pos rfl] at hu
      have hS0 : S = [] := by rw [← hS]; rfl
      rw [hS0] at hck
      have ck : PC prog 74 [.agg [psV (canonL L), .prim (.slice none 0 0)]] (.prim (.int .i64 (0))) := PC_nilA hck
      subst hu
      simp (maxSteps := 2000000) (disch := omega) only [↓RS, RW, RB, RX, RE, RK, RT, evN, evA, evL, binV, unV, intOfV, lenV, TK.isAgg, sliceV, reduceCtorEq, Nat.reduceAdd, Nat.reduceLT, Nat.reduceLeDiff, List.reduceReplicate, elemsOf, added, view, view.viewL, view.viewLL, Nat.reducePow, Nat.reduceDiv, Nat.reduceMod, Nat.reduceEqDiff, Nat.reduceBEq, q3]
      refine call_sc (stable0_sc ?_)
      simp (maxSteps := 2000000) (disch := omega) only [↓RS, RW, RB, RX, RE, RK, RT, evN, evA, evL, binV, unV, intOfV, lenV, TK.isAgg, sliceV, reduceCtorEq, Nat.reduceAdd, Nat.reduceLT, Nat.reduceLeDiff, List.reduceReplicate, elemsOf, added, view, view.viewL, view.viewLL, Nat.reducePow, Nat.reduceDiv, Nat.reduceMod, Nat.reduceEqDiff, Nat.reduceBEq, q3]
      first | refine cP (ck) ?_ | refine cD (ck) ?_
      have s1 : ∀ x, get (H1.set 1 x) 2 = some (.row 1 true [[.prim (.int .i64 (0))]]) := fun x => by rw [get_ne (by omega)]; exact q2
      have s2 : ∀ x y, get ((H1.set 1 x).set 2 y) 1 = x := fun x y => by rw [get_ne (by omega), get_eq (by omega)]
      have s3 : ∀ x y, get ((H1.set 1 x).set 2 y) 2 = y := fun x y => by rw [get_eq (by rw [List.length_set]; omega)]
      simp (maxSteps := 2000000) (disch := omega) only [↓RS, RW, RB, RX, RE, RK, RT, evN, evA, evL, binV, unV, intOfV, lenV, TK.isAgg, sliceV, reduceCtorEq, Nat.reduceAdd, Nat.reduceLT, Nat.reduceLeDiff, List.reduceReplicate, elemsOf, added, view, view.viewL, view.viewLL, Nat.reducePow, Nat.reduceDiv, Nat.reduceMod, Nat.reduceEqDiff, Nat.reduceBEq, q1, q2, q3, s1, s2, s3, psV]
    · rw [if_neg hz] at hu
      have hpos : 0 < Hs.length := List.length_pos_iff.2 hz
      obtain ⟨b, hb, rfl, hg⟩ := q6.cases (by simpa using hz)
      have hml : (Hs.map canonL).length = Hs.length := List.length_map ..
      have hml2 : ((Hs.map canonL).map hcel).length = Hs.length := by rw [List.length_map]; exact hml
      have so := @stable_sc (Hs.map canonL) (by omega) (by omega) (Can.okH fun l hl => hC l (List.mem_cons_of_mem _ hl)) b false H1
      rw [hml, hS] at so
      rw [hml2] at q3
      have hbl := get_lt_len hg
      simp (maxSteps := 2000000) (disch := omega) only [↓RS, RW, RB, RX, RE, RK, RT, evN, evA, evL, binV, unV, intOfV, lenV, TK.isAgg, sliceV, reduceCtorEq, Nat.reduceAdd, Nat.reduceLT, Nat.reduceLeDiff, List.reduceReplicate, elemsOf, added, view, view.viewL, view.viewLL, Nat.reducePow, Nat.reduceDiv, Nat.reduceMod, Nat.reduceEqDiff, Nat.reduceBEq, q3]
      refine call_sc (so hg ?_)
      have r1 : ∀ x, get (H1.set b x) 1 = some (.row 2 true [[.prim (.slice none 0 0), .prim (.slice none 0 0)]]) := fun x => by rw [get_ne (by omega)]; exact q1
      have r2 : ∀ x, get (H1.set b x) 2 = some (.row 1 true [[.prim (.int .i64 (0))]]) := fun x => by rw [get_ne (by omega)]; exact q2
      have r3 : ∀ x, get (H1.set b x) 3 = some (.row 2 true [[.lst 6 ((canonL L).map pc), .sref b 0 Hs.length Hs.length 1 false]]) := fun x => by rw [get_ne (by omega)]; exact q3
      have rb : ∀ x, get (H1.set b x) b = x := fun x => get_eq hbl
      have p1 := r1 (some (.row 1 true (S.map hcel)))
      have p2 := r2 (some (.row 1 true (S.map hcel)))
      have p3 := r3 (some (.row 1 true (S.map hcel)))
      have pb := rb (some (.row 1 true (S.map hcel)))
      have hl2 : b < (H1.set b (some (Blk.row 1 true (S.map hcel)))).length := by rw [List.length_set]; exact hbl
      generalize H1.set b (some (Blk.row 1 true (S.map hcel))) = H2 at p1 p2 p3 pb hl2 ⊢
      have hSl : S.length = Hs.length := by rw [← hS, isortH_length]; exact hml
      have k1 : (S.map hcel).length = Hs.length := by rw [List.length_map]; exact hSl
      have k2 : (S.map hcel).take Hs.length = S.map hcel := by rw [List.take_of_length_le (by omega)]
      have k3 := viewLL_hcel H2 6 S
      have ck : PC prog 74 [.agg [.lst 6 ((canonL L).map pc), .lst 1 (S.map hcel)]] (.prim (.int .i64 (0))) := by
        have : (S.map psV).map (fun v => [v]) = S.map hcel := by rw [List.map_map]; rfl
        rw [cgV, this] at hck
        exact hck
      have s1 : ∀ x, get (H2.set 1 x) 2 = some (.row 1 true [[.prim (.int .i64 (0))]]) := fun x => by rw [get_ne (by omega)]; exact p2
      have s2 : ∀ x y, get ((H2.set 1 x).set 2 y) 1 = x := fun x y => by rw [get_ne (by omega), get_eq (by omega)]
      have s3 : ∀ x y, get ((H2.set 1 x).set 2 y) 2 = y := fun x y => by rw [get_eq (by rw [List.length_set]; omega)]
      have s4 : ∀ x y, get ((H2.set 1 x).set 2 y) b = some (.row 1 true (S.map hcel)) := fun x y => by rw [get_ne (by omega), get_ne (by omega)]; exact pb
      have k4 : ∀ x y, view.viewLL ((H2.set 1 x).set 2 y) 6 (S.map hcel) = some (S.map hcel) := fun x y => viewLL_hcel _ 5 S
      subst hu
      simp (maxSteps := 2000000) (disch := omega) only [↓RS, RW, RB, RX, RE, RK, RT, evN, evA, evL, binV, unV, intOfV, lenV, TK.isAgg, sliceV, reduceCtorEq, Nat.reduceAdd, Nat.reduceLT, Nat.reduceLeDiff, List.reduceReplicate, elemsOf, added, view, view.viewL, view.viewLL, Nat.reducePow, Nat.reduceDiv, Nat.reduceMod, Nat.reduceEqDiff, Nat.reduceBEq, p3, pb, k1, k2, k3]
      first | refine cP (ck) ?_ | refine cD (ck) ?_
      simp (maxSteps := 2000000) (disch := omega) only [↓RS, RW, RB, RX, RE, RK, RT, evN, evA, evL, binV, unV, intOfV, lenV, TK.isAgg, sliceV, reduceCtorEq, Nat.reduceAdd, Nat.reduceLT, Nat.reduceLeDiff, List.reduceReplicate, elemsOf, added, view, view.viewL, view.viewLL, Nat.reducePow, Nat.reduceDiv, Nat.reduceMod, Nat.reduceEqDiff, Nat.reduceBEq, p1, p2, p3, s1, s2, s3, s4, k1, k2, k4, psV]
  · exact fun _ _ h => h.elim
theorem PCanon_pc (L : List Pt) (Hs : List (List Pt)) (few : Hs.length ≤ 8) (hC : ∀ l ∈ L :: Hs, Can l) (S : List (List Pt)) (hS : isortH (Hs.map canonL) (Hs.length - 1) = S)
    (hck : PC prog 74 [cgV (canonL L) S] (.prim (.int .i64 (0)))) : PC prog 72 [cgV L Hs] (.tup [cgV (canonL L) S, .prim (.int .i64 (0))]) := by
  have h := PCanonQ_pc L Hs few hC S hS hck _ rfl
  have e : (S.map psV).map (fun v => [v]) = S.map hcel := by rw [List.map_map]; rfl
  unfold cgV
  unfold cgV at h
  rw [e]
  by_cases hz : Hs = []
  · rw [if_pos hz] at h
    have hS0 : S = [] := by rw [← hS, hz]; rfl
    rw [hS0]
    exact PC_nilR h
  · rwa [if_neg hz] at h
end Go.Av
