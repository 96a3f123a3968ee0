/- Helping texts: Mh, Mi, Mj. -/
import Derived.Test.YtbidkolaahnbiaaGreatKFh
import Derived.Test.YtbidkolaahnbiaaGreatKMf
set_option linter.unusedSimpArgs false
set_option linter.unusedVariables false
set_option maxRecDepth 100000
set_option maxHeartbeats 16000000
namespace Go.Av
open Go.RowKit
open Go.Proofs.Tryz (prog)
def NoMeet (A B : List Pt) : Prop := ∀ s ∈ edgesL A, ∀ t ∈ edgesL B, ¬ Common s.a s.b t.a t.b
theorem NoMeet.symm {A B : List Pt} (h : NoMeet A B) : NoMeet B A := fun s hs t ht k => h t ht s hs k.symm
theorem seg_mem {A : List Pt} {i : Nat} (hi : i < A.length) : segOf A i ∈ edgesL A := List.mem_map.2 ⟨i, List.mem_range.2 hi, rfl⟩
theorem meetB_noMeet {A B : List Pt} (hA : Ring A) (hB : Ring B) : meetB A B = false ↔ NoMeet A B := by
  constructor
  · intro h s hs t ht hc
    obtain ⟨i, hi, rfl⟩ := mem_edgesL hs
    obtain ⟨k, hk, rfl⟩ := mem_edgesL ht
    rw [meetB_true hi hk (meet_some (hA.seg_ok hi) (hB.seg_ok hk) hc)] at h
    cases h
  · intro h
    refine meetB_false fun i hi k hk => ?_
    have : ¬ (meetM (segOf A i) (segOf B k)).isSome = true := fun hm => h _ (seg_mem hi) _ (seg_mem hk) (some_common hm)
    rwa [Bool.not_eq_true] at this
theorem NoMeet.free {A B : List Pt} (h : NoMeet A B) {i : Nat} (hi : i < A.length) : ∀ s ∈ edgesL B, ¬ onSeg s.a s.b (A.getD i default) := fun s hs k => h _ (seg_mem hi) s hs ⟨_, onSeg_l _ _, k⟩
theorem NoMeet.freeP {A B : List Pt} (h : NoMeet A B) {p : Pt} (hp : p ∈ A) : ∀ s ∈ edgesL B, ¬ onSeg s.a s.b p := by
  obtain ⟨i, hi, rfl⟩ := mem_getD hp
  exact h.free hi
theorem odd_const {A B : List Pt} (h : NoMeet A B) : ∀ {i : Nat}, i < A.length → oddTo B (A.getD i default) B.length = oddTo B (A.getD 0 default) B.length
  | 0, _ => rfl
  | i + 1, hi => by
    rw [← odd_const h (show i < A.length by omega)]
    have e : A.getD (i + 1) default = nx A i := by rw [nx_sc (by omega)]; unfold sc; rw [if_neg (by omega)]
    rw [e]
    exact (odd_same fun j hj => h (segOf A i) (seg_mem (by omega)) (segOf B j) (seg_mem hj)).symm
theorem withinB_odd {A B : List Pt} (h : NoMeet A B) (h0 : 0 < A.length) : withinB A B = oddTo B (A.getD 0 default) B.length := by
  have hb : onB B (A.getD 0 default) = false := onB_false fun i hi => by
    have := h.free h0 (segOf B i) (seg_mem hi)
    cases hx : between (B.getD i default) (nx B i) (A.getD 0 default) with
    | false => rfl
    | true => exact absurd (between_onSeg hx) this
  unfold withinB sideS
  rw [hb]
  cases oddTo B (A.getD 0 default) B.length <;> simp

/-- Two holes. -/
structure Sep (a b : List Pt) : Prop where
  nm : NoMeet a b
  ab : ∀ p ∈ b, oddTo a p a.length = false
  ba : ∀ p ∈ a, oddTo b p b.length = false
theorem Sep.symm {a b : List Pt} (h : Sep a b) : Sep b a := ⟨h.nm.symm, h.ba, h.ab⟩
structure Valid (L : List Pt) (Hs : List (List Pt)) : Prop where
  out : Ring L
  holes : ∀ h ∈ Hs, Ring h
  few : Hs.length ≤ 8
  mo : ∀ h ∈ Hs, NoMeet h L
  wo : ∀ h ∈ Hs, ∀ p ∈ h, oddTo L p L.length = true
  pw : Hs.Pairwise Sep
  asc : Asc Hs
theorem Valid.rgs {L : List Pt} {Hs : List (List Pt)} (h : Valid L Hs) : Rgs L Hs := ⟨h.out, h.holes, h.few⟩
theorem Fine.valid {O : List Rp} {hs : List (List Rp)} (h : Fine O hs) : Valid (pts O) (hs.map pts) := by
  have hr := h.rgs
  have get : ∀ i, i < hs.length → (hs.map pts).getD i [] = pts (hs.getD i []) := fun i hi => by
    rw [List.getD_eq_getElem?_getD, List.getD_eq_getElem?_getD, List.getElem?_map, List.getElem?_eq_getElem hi]; rfl
  have ring : ∀ i, i < hs.length → Ring (pts (hs.getD i [])) := fun i hi => by
    rw [← get i hi]; exact hr.hole (by rw [List.length_map]; exact hi)
  have key : ∀ i, i < hs.length → NoMeet (pts (hs.getD i [])) (pts O) ∧ (∀ j, j < i → NoMeet (pts (hs.getD i [])) (pts (hs.getD j []))) ∧ withinB (pts (hs.getD i [])) (pts O) = true ∧
      ∀ j, j < i → withinB (pts (hs.getD i [])) (pts (hs.getD j [])) = false ∧ withinB (pts (hs.getD j [])) (pts (hs.getD i [])) = false := by
    intro i hi
    have hz := h.hz i hi
    unfold chkH at hz
    rw [if_neg (by intro h2; exact h2 (chkH_ring (h.hz i hi)))] at hz
    split at hz
    · cases hz
    rename_i x1
    split at hz
    · cases hz
    rename_i x2
    split at hz
    · cases hz
    rename_i x3
    rw [not_or, Bool.not_eq_true, Bool.not_eq_true] at x1
    rw [Bool.not_eq_false] at x2
    rw [Bool.not_eq_true] at x3
    refine ⟨(meetB_noMeet (ring i hi) hr.out).1 x1.1, fun j hj => (meetB_noMeet (ring i hi) (ring j (by omega))).1 (anyTo_get x1.2 hj), x2, fun j hj => ?_⟩
    have := anyTo_get x3 hj
    rwa [Bool.or_eq_false_iff] at this
  have mem : ∀ l ∈ hs.map pts, ∃ i, i < hs.length ∧ l = pts (hs.getD i []) := by
    intro l hl
    obtain ⟨i, hi, rfl⟩ := List.mem_iff_getElem.1 hl
    rw [List.length_map] at hi
    refine ⟨i, hi, ?_⟩
    rw [← get i hi, List.getD_eq_getElem?_getD, List.getElem?_eq_getElem (by rw [List.length_map]; exact hi)]; rfl
  refine ⟨hr.out, hr.holes, hr.few, fun l hl => ?_, fun l hl p hp => ?_, ?_, h.asc⟩
  · obtain ⟨i, hi, rfl⟩ := mem l hl
    exact (key i hi).1
  · obtain ⟨i, hi, rfl⟩ := mem l hl
    obtain ⟨k1, _, k3, _⟩ := key i hi
    have r := ring i hi
    rw [withinB_odd k1 (by have := r.lo; omega)] at k3
    obtain ⟨j, hj, rfl⟩ := mem_getD hp
    rw [odd_const k1 hj]; exact k3
  · rw [List.pairwise_iff_getElem]
    intro j i hj hi hlt
    rw [List.length_map] at hi hj
    obtain ⟨_, k2, _, k4⟩ := key i hi
    have e : ∀ k (hk : k < hs.length), (hs.map pts)[k]'(by rw [List.length_map]; exact hk) = pts (hs.getD k []) := fun k hk => by
      rw [List.getElem_map, List.getD_eq_getElem?_getD, List.getElem?_eq_getElem hk]; rfl
    rw [e i hi, e j hj]
    have nm := k2 j hlt
    obtain ⟨w1, w2⟩ := k4 j hlt
    have ri := ring i hi
    have rj := ring j hj
    rw [withinB_odd nm (by have := ri.lo; omega)] at w1
    rw [withinB_odd nm.symm (by have := rj.lo; omega)] at w2
    refine ⟨nm.symm, fun p hp => ?_, fun p hp => ?_⟩
    · obtain ⟨k, hk, rfl⟩ := mem_getD hp
      rw [odd_const nm hk]; exact w1
    · obtain ⟨k, hk, rfl⟩ := mem_getD hp
      rw [odd_const nm.symm hk]; exact w2
theorem getD_mem0 {l : List Pt} (h : 0 < l.length) : l.getD 0 default ∈ l := by
  rw [List.getD_eq_getElem?_getD, List.getElem?_eq_getElem h]; exact List.getElem_mem h
theorem Valid.fine {L : List Pt} {Hs : List (List Pt)} (h : Valid L Hs) : Fine (L.map Pt.rp) (Hs.map fun l => l.map Pt.rp) := by
  have get : ∀ i, i < Hs.length → pts ((Hs.map fun l => l.map Pt.rp).getD i []) = Hs.getD i [] := fun i hi => by
    rw [List.getD_eq_getElem?_getD, List.getD_eq_getElem?_getD, List.getElem?_map, List.getElem?_eq_getElem hi]; exact pts_rp _
  have get2 : ∀ i, i < Hs.length → (Hs.map fun l => l.map Pt.rp).getD i [] = (Hs.getD i []).map Pt.rp := fun i hi => by
    rw [List.getD_eq_getElem?_getD, List.getD_eq_getElem?_getD, List.getElem?_map, List.getElem?_eq_getElem hi]; rfl
  have mem : ∀ i, i < Hs.length → Hs.getD i [] ∈ Hs := fun i hi => by rw [List.getD_eq_getElem?_getD, List.getElem?_eq_getElem hi]; exact List.getElem_mem hi
  refine ⟨?_, rp_le h.out.ht, fun l hl => ?_⟩
  · unfold chkP
    rw [chkR_rp h.out.lo h.out.hi, h.out.ok, if_neg (fun k => k rfl), List.length_map, if_neg (by have := h.few; omega)]
    refine firstNz_none fun i hi => ?_
    have r := h.holes _ (mem i hi)
    have sep : ∀ j, j < i → Sep (Hs.getD j []) (Hs.getD i []) := fun j hj => by
      have := List.pairwise_iff_getElem.1 h.pw j i (by omega) hi hj
      rw [List.getD_eq_getElem?_getD, List.getD_eq_getElem?_getD, List.getElem?_eq_getElem hi, List.getElem?_eq_getElem (show j < Hs.length by omega)]
      exact this
    unfold chkH
    rw [get2 i hi, chkR_rp r.lo r.hi, r.ok, if_neg (fun k => k rfl), pts_rp, pts_rp, if_neg, if_neg, if_neg, if_neg]
    · rintro ⟨h0, hle⟩
      rw [get (i - 1) (by omega)] at hle
      have := h.asc i h0 hi
      unfold cmpH at this
      omega
    · rw [Bool.not_eq_true]
      refine anyTo_false fun j hj => ?_
      have s := sep j hj
      have rj := h.holes _ (mem j (by omega))
      have l1 := r.lo
      have l2 := rj.lo
      rw [get j (by omega), withinB_odd s.nm.symm (by omega), withinB_odd s.nm (by omega), s.ab _ (getD_mem0 (by omega)), s.ba _ (getD_mem0 (by omega))]
      rfl
    · have l1 := r.lo
      rw [withinB_odd (h.mo _ (mem i hi)) (by omega), h.wo _ (mem i hi) _ (getD_mem0 (by omega))]
      simp
    · rw [not_or, Bool.not_eq_true, Bool.not_eq_true]
      refine ⟨(meetB_noMeet r h.out).2 (h.mo _ (mem i hi)), anyTo_false fun j hj => ?_⟩
      rw [get j (by omega)]
      exact (meetB_noMeet r (h.holes _ (mem j (by omega)))).2 (sep j hj).nm.symm
  · obtain ⟨l0, hl0, rfl⟩ := List.mem_map.1 hl
    have r := h.holes l0 hl0
    exact ⟨by rw [List.length_map]; have := r.hi; omega, rp_le r.ht⟩
theorem Valid.check_pc {L : List Pt} {Hs : List (List Pt)} (h : Valid L Hs) : PC prog 74 [cgV L Hs] (.prim (.int .i64 (0))) := by
  have := h.fine.check_pc
  rw [pts_rp, List.map_map] at this
  have e : Hs.map (pts ∘ fun l => l.map Pt.rp) = Hs := by
    conv => rhs; rw [← List.map_id Hs]
    exact List.map_congr_left fun l _ => pts_rp l
  rwa [e] at this

theorem edges_rotL (l : List Pt) {r : Nat} (h : r ≤ l.length) : (edgesL (rotL l r)).Perm (edgesL l) := rotL_ind (fun m => (edgesL m).Perm (edgesL l)) (fun m k => (edges_rot1 m).trans k) (List.Perm.refl _) r h
theorem edges_startL {m : List Pt} (h : 0 < m.length) : (edgesL (startL m)).Perm (edgesL m) := edges_rotL m (Nat.le_of_lt (leastTo_in h))
theorem edges_canonL {l : List Pt} (h : 0 < l.length) : (edgesL (canonL l)).Perm (edgesL l) ∨ (edgesL (canonL l)).Perm ((edgesL l).map Sg.rev) := by
  unfold canonL
  split
  · exact .inr ((edges_startL (by rw [List.length_reverse]; exact h)).trans (edges_rev l))
  · exact .inl (edges_startL h)
theorem odd_canonL {l : List Pt} (h : 0 < l.length) (p : Pt) : oddTo (canonL l) p (canonL l).length = oddTo l p l.length := by
  rw [odd_xsum, odd_xsum]
  rcases edges_canonL h with e | e
  · exact xsum_perm e
  · rw [xsum_perm e, xsum_map]
    exact xsum_congr fun s _ => cr_symm ..
theorem mem_edges_canonL {l : List Pt} (h : 0 < l.length) {s : Sg} (hs : s ∈ edgesL (canonL l)) : ∃ s' ∈ edgesL l, s = s' ∨ s = s'.rev := by
  rcases edges_canonL h with e | e
  · exact ⟨s, e.mem_iff.1 hs, .inl rfl⟩
  · obtain ⟨s', h1, rfl⟩ := List.mem_map.1 (e.mem_iff.1 hs)
    exact ⟨s', h1, .inr rfl⟩
theorem NoMeet.canonL {a b : List Pt} (h : NoMeet a b) (ha : 0 < a.length) : NoMeet (canonL a) b := by
  intro s hs t ht k
  obtain ⟨s', h1, rfl | rfl⟩ := mem_edges_canonL ha hs
  · exact h _ h1 t ht k
  · exact h _ h1 t ht k.rev1
theorem least_rot {m : List Pt} (h : 0 < m.length) : leastTo (startL m) (startL m).length = 0 := by
  have hk := leastTo_in h
  have hn : (startL m).length = m.length := startL_length h
  have h0 : (startL m).getD 0 default = m.getD (leastTo m m.length) default := by
    show (rotL m _).getD 0 default = _
    rw [rotL_getD (by omega) h, if_pos (by omega), Nat.add_zero]
  have le : ∀ j, j < (startL m).length → cmpP ((startL m).getD 0 default) ((startL m).getD j default) ≤ 0 := by
    intro j hj
    rw [hn] at hj
    have hm : (startL m).getD j default ∈ m := startL_mem (by rw [List.getD_eq_getElem?_getD, List.getElem?_eq_getElem (by omega)]; exact List.getElem_mem _)
    obtain ⟨i, hi, e⟩ := mem_getD hm
    rw [h0, ← e]
    exact leastTo_spec _ _ hi
  have : ∀ i, i ≤ (startL m).length → leastTo (startL m) i = 0 := by
    intro i
    induction i with
    | zero => intro _; rfl
    | succ i ih =>
      intro hi
      unfold leastTo
      rw [ih (by omega), if_neg]
      intro hc
      have e := cmpP_antisymm (le i (by omega)) (Int.le_of_lt hc)
      rw [e, cmpP_self] at hc
      omega
  exact this _ (Nat.le_refl _)
theorem area_startL {m : List Pt} (h : 0 < m.length) : areaL (startL m) = areaL m :=
  (rotL_ind (fun l => 1 ≤ l.length ∧ areaL l = areaL m) (fun l k => ⟨by rw [rot1_length]; exact k.1, by rw [area_rot1 k.1]; exact k.2⟩) ⟨h, rfl⟩ _ (Nat.le_of_lt (leastTo_in h))).2
theorem area_canonL {l : List Pt} (h : 0 < l.length) : areaL (canonL l) = if areaL l < 0 then -areaL l else areaL l := by
  unfold canonL
  split
  · rw [area_startL (by rw [List.length_reverse]; exact h), area_rev h]
  · exact area_startL h
theorem Good.canonL {l : List Pt} (h : Good l) : Good (canonL l) := by
  have hlo := h.lo
  have st : ∀ m, Good m → Good (startL m) := fun m hm => rotL_ind Good (fun _ k => k.rot1) hm _ (Nat.le_of_lt (leastTo_in (by have := hm.lo; omega)))
  unfold Av.canonL
  split
  · exact st _ h.rev
  · exact st _ h
theorem Good.ring {l : List Pt} (h : Good l) (hi : l.length ≤ 64) (hh : hl l (2 ^ 16)) (ha : areaL l ≠ 0) : Ring (Av.canonL l) := by
  have hlo := h.lo
  have g := h.canonL
  have hn := canonL_length (l := l) (by omega)
  refine ⟨g.lo, by omega, ?_, fun p hp => hh p (canonL_mem hp)⟩
  have hf : idxP (Av.canonL l).length (flatAt (Av.canonL l)) = -1 := idxP_none fun i hi => (g.keep i hi).2
  have hpos : 0 < areaL (Av.canonL l) := by
    rw [area_canonL (by omega)]
    rcases lt_tri (areaL l) 0 with k | k | k
    · rw [if_pos k]; grind
    · exact absurd k ha
    · rw [if_neg (by grind)]; exact k
  have hz : leastTo (Av.canonL l) (Av.canonL l).length = 0 := by
    unfold Av.canonL
    split
    · exact least_rot (by rw [List.length_reverse]; omega)
    · exact least_rot (by omega)
  unfold chkC
  rw [hf, if_neg (by omega), g.crossB, if_neg (by simp), if_neg]
  rintro (k | k)
  · exact absurd (cmpQ_le.1 k) (Rat.not_le.2 hpos)
  · exact k hz

theorem NoMeet.map {a b : List Pt} (h : NoMeet a b) {t : Aff} (ht : t.det ≠ 0) : NoMeet (a.map t.ap) (b.map t.ap) := by
  intro s hs r hr k
  rw [edges_map] at hs hr
  obtain ⟨s', h1, rfl⟩ := List.mem_map.1 hs
  obtain ⟨r', h2, rfl⟩ := List.mem_map.1 hr
  exact h _ h1 _ h2 ((Common_ap ht).1 k)
def imgL (t : Aff) (l : List Pt) : List Pt := canonL (l.map t.ap)
theorem imgL_mem {t : Aff} {l : List Pt} {p : Pt} (h : p ∈ imgL t l) : ∃ q ∈ l, p = t.ap q := by
  obtain ⟨q, h1, rfl⟩ := List.mem_map.1 (canonL_mem h)
  exact ⟨q, h1, rfl⟩
theorem NoMeet.img {a b : List Pt} (h : NoMeet a b) {t : Aff} (ht : t.det ≠ 0) (ha : 0 < a.length) (hb : 0 < b.length) : NoMeet (imgL t a) (imgL t b) :=
  (((h.map ht).canonL (by rw [List.length_map]; exact ha)).symm.canonL (by rw [List.length_map]; exact hb)).symm
theorem odd_img {t : Aff} (ht : Par t) {l : List Pt} {p : Pt} (h : 0 < l.length) (hp : ∀ s ∈ edgesL l, ¬ onSeg s.a s.b p) : oddTo (imgL t l) (t.ap p) (imgL t l).length = oddTo l p l.length := by
  unfold imgL
  rw [odd_canonL (by rw [List.length_map]; exact h)]
  exact ht.2 l p hp
theorem Sep.img {a b : List Pt} (h : Sep a b) {t : Aff} (ht : Par t) (ha : 0 < a.length) (hb : 0 < b.length) : Sep (imgL t a) (imgL t b) := by
  refine ⟨h.nm.img ht.1 ha hb, fun p hp => ?_, fun p hp => ?_⟩
  · obtain ⟨q, hq, rfl⟩ := imgL_mem hp
    rw [odd_img ht ha (h.nm.symm.freeP hq)]; exact h.ab q hq
  · obtain ⟨q, hq, rfl⟩ := imgL_mem hp
    rw [odd_img ht hb (h.nm.freeP hq)]; exact h.ba q hq
theorem Ring.img {l : List Pt} (h : Ring l) {t : Aff} (ht : t.det ≠ 0) (hh : hl (l.map t.ap) (2 ^ 16)) : Ring (imgL t l) := by
  refine (h.good.map ht).ring (by rw [List.length_map]; exact h.hi) hh ?_
  rw [area_ap]
  intro e
  rcases Rat.mul_eq_zero.1 e with e | e
  · exact ht e
  · have := h.areaPos; rw [e] at this; exact absurd this Rat.lt_irrefl
def sortH (X : List (List Pt)) : List (List Pt) := isortH X (X.length - 1)
theorem Sep.ne {a b : List Pt} (h : Sep a b) (ha : 0 < a.length) (hb : 0 < b.length) : cmpH a b ≠ 0 := by
  intro e
  have e := cmpP_zero.1 e
  exact h.nm _ (seg_mem ha) _ (seg_mem hb) ⟨a.getD 0 default, onSeg_l _ _, by rw [e]; exact onSeg_l _ _⟩
theorem cmpH_flip {a b : List Pt} (h : ¬ cmpH a b < 0) (hne : cmpH a b ≠ 0) : cmpH b a < 0 := by
  unfold cmpH at *
  have h1 := cmpP_pos_le (p := a.getD 0 default) (q := b.getD 0 default) (by omega)
  rcases Int.lt_or_eq_of_le h1 with h2 | h2
  · exact h2
  · rw [cmpP_zero.1 h2, cmpP_self] at hne; exact absurd rfl hne
theorem sortH_ok {X : List (List Pt)} (h3 : X.length ≤ 3) (hp : X.Pairwise Sep) (h0 : ∀ l ∈ X, 0 < l.length) : (sortH X).Perm X ∧ Asc (sortH X) := by
  have asc2 : ∀ {a b : List Pt}, cmpH a b < 0 → Asc [a, b] := by
    intro a b h i h1 h2
    simp only [List.length_cons, List.length_nil] at h2
    have : i = 1 := by omega
    subst this
    exact h
  have asc3 : ∀ {a b c : List Pt}, cmpH a b < 0 → cmpH b c < 0 → Asc [a, b, c] := by
    intro a b c h k i h1 h2
    simp only [List.length_cons, List.length_nil] at h2
    have : i = 1 ∨ i = 2 := by omega
    rcases this with rfl | rfl
    · exact h
    · exact k
  match X, h3, hp, h0 with
  | [], _, _, _ => exact ⟨List.Perm.refl _, fun i _ h => by simp [sortH, isortH] at h⟩
  | [a], _, _, _ => exact ⟨List.Perm.refl _, fun i h1 h => by simp [sortH, isortH] at h; omega⟩
  | [a, b], _, hp, h0 =>
    have n1 : cmpH b a ≠ 0 := ((List.pairwise_cons.1 hp).1 b (by simp)).symm.ne (h0 b (by simp)) (h0 a (by simp))
    by_cases c1 : cmpH b a < 0
    · have e : sortH [a, b] = [b, a] := by simp [sortH, isortH, bubbleH, swapH, c1]
      rw [e]; exact ⟨List.Perm.swap .., asc2 c1⟩
    · have e : sortH [a, b] = [a, b] := by simp [sortH, isortH, bubbleH, swapH, c1]
      rw [e]; exact ⟨List.Perm.refl _, asc2 (cmpH_flip c1 n1)⟩
  | [a, b, c], _, hp, h0 =>
    have s1 := (List.pairwise_cons.1 hp).1 b (by simp)
    have s2 := (List.pairwise_cons.1 hp).1 c (by simp)
    have s3 := (List.pairwise_cons.1 (List.pairwise_cons.1 hp).2).1 c (by simp)
    have n1 : cmpH b a ≠ 0 := s1.symm.ne (h0 b (by simp)) (h0 a (by simp))
    have n2 : cmpH c a ≠ 0 := s2.symm.ne (h0 c (by simp)) (h0 a (by simp))
    have n3 : cmpH c b ≠ 0 := s3.symm.ne (h0 c (by simp)) (h0 b (by simp))
    by_cases c1 : cmpH b a < 0
    · by_cases c2 : cmpH c a < 0
      · by_cases c3 : cmpH c b < 0
        · have e : sortH [a, b, c] = [c, b, a] := by simp [sortH, isortH, bubbleH, swapH, c1, c2, c3]
          rw [e]; exact ⟨by simpa using (List.reverse_perm [a, b, c]), asc3 c3 c1⟩
        · have e : sortH [a, b, c] = [b, c, a] := by simp [sortH, isortH, bubbleH, swapH, c1, c2, c3]
          rw [e]; exact ⟨(List.perm_append_comm (l₁ := [b, c]) (l₂ := [a])), asc3 (cmpH_flip c3 n3) c2⟩
      · have e : sortH [a, b, c] = [b, a, c] := by simp [sortH, isortH, bubbleH, swapH, c1, c2]
        rw [e]; exact ⟨List.Perm.swap .., asc3 c1 (cmpH_flip c2 n2)⟩
    · by_cases c3 : cmpH c b < 0
      · by_cases c2 : cmpH c a < 0
        · have e : sortH [a, b, c] = [c, a, b] := by simp [sortH, isortH, bubbleH, swapH, c1, c2, c3]
          rw [e]; exact ⟨(List.perm_append_comm (l₁ := [c]) (l₂ := [a, b])), asc3 c2 (cmpH_flip c1 n1)⟩
        · have e : sortH [a, b, c] = [a, c, b] := by simp [sortH, isortH, bubbleH, swapH, c1, c2, c3]
          rw [e]; exact ⟨List.Perm.cons _ (List.Perm.swap ..), asc3 (cmpH_flip c2 n2) c3⟩
      · have e : sortH [a, b, c] = [a, b, c] := by simp [sortH, isortH, bubbleH, swapH, c1, c3]
        rw [e]; exact ⟨List.Perm.refl _, asc3 (cmpH_flip c1 n1) (cmpH_flip c3 n3)⟩
theorem Valid.img {L : List Pt} {Hs : List (List Pt)} (h : Valid L Hs) (h3 : Hs.length ≤ 3) {t : Aff} (ht : Par t) (hh : ∀ l ∈ L :: Hs, hl (l.map t.ap) (2 ^ 16)) : Valid (imgL t L) (sortH (Hs.map (imgL t))) := by
  have pos : ∀ l, Ring l → 0 < l.length := fun l r => by have := r.lo; omega
  have hr : ∀ l ∈ Hs.map (imgL t), Ring l := by
    intro l hl
    obtain ⟨x, hx, rfl⟩ := List.mem_map.1 hl
    exact (h.holes x hx).img ht.1 (hh x (List.mem_cons_of_mem _ hx))
  have hp : (Hs.map (imgL t)).Pairwise Sep := by
    rw [List.pairwise_map]
    exact h.pw.imp_of_mem fun ha hb s => s.img ht (pos _ (h.holes _ ha)) (pos _ (h.holes _ hb))
  obtain ⟨p, asc⟩ := sortH_ok (X := Hs.map (imgL t)) (by rw [List.length_map]; exact h3) hp (fun l hl => pos l (hr l hl))
  refine ⟨h.out.img ht.1 (hh L (List.mem_cons_self ..)), fun l hl => hr l (p.mem_iff.1 hl), by rw [p.length_eq, List.length_map]; omega, fun l hl => ?_, fun l hl q hq => ?_, p.symm.pairwise hp fun s => s.symm, asc⟩
  · obtain ⟨x, hx, rfl⟩ := List.mem_map.1 (p.mem_iff.1 hl)
    exact (h.mo x hx).img ht.1 (pos _ (h.holes x hx)) (pos _ h.out)
  · obtain ⟨x, hx, rfl⟩ := List.mem_map.1 (p.mem_iff.1 hl)
    obtain ⟨y, hy, rfl⟩ := imgL_mem hq
    rw [odd_img ht (pos _ h.out) ((h.mo x hx).freeP hy)]
    exact h.wo x hx y hy
end Go.Av
set_option maxRecDepth 100000
set_option maxHeartbeats 16000000
namespace Go.Av
open Go.RowKit
open Go.Proofs.Tryz (prog)
theorem area_img {l : List Pt} (h : Ring l) {t : Aff} (ht : t.det ≠ 0) : areaL (imgL t l) = (if t.det < 0 then -t.det else t.det) * areaL l := by
  have hlo := h.lo
  have hp := h.areaPos
  unfold imgL
  rw [area_canonL (by rw [List.length_map]; omega), area_ap]
  rcases lt_tri t.det 0 with k | k | k
  · have : t.det * areaL l < 0 := by
      have := Rat.mul_pos (show 0 < -t.det by grind) hp
      grind
    rw [if_pos this, if_pos k]; grind
  · exact absurd k ht
  · have := Rat.mul_pos k hp
    rw [if_neg (by grind), if_neg (by grind)]
def lsum (g : List Pt → Rat) : List (List Pt) → Rat
  | [] => 0
  | p :: t => g p + lsum g t
theorem lsum_perm {g : List Pt → Rat} {a b : List (List Pt)} (h : a.Perm b) : lsum g a = lsum g b := by
  induction h with
  | nil => rfl
  | cons s _ ih => simp only [lsum, ih]
  | swap s t l => simp only [lsum]; grind
  | trans _ _ h1 h2 => exact h1.trans h2
theorem lsum_app {g : List Pt → Rat} (a b : List (List Pt)) : lsum g (a ++ b) = lsum g a + lsum g b := by
  induction a with
  | nil => simp only [List.nil_append, lsum]; grind
  | cons s t ih => simp only [List.cons_append, lsum, ih]; grind
theorem areaP_sum (L : List Pt) (Hs : List (List Pt)) : areaPTo L Hs Hs.length = areaL L - lsum areaL Hs := by
  have : ∀ i, i ≤ Hs.length → areaPTo L Hs i = areaL L - lsum areaL (Hs.take i) := by
    intro i
    induction i with
    | zero => intro _; simp only [areaPTo, List.take_zero, lsum]; grind
    | succ i ih =>
      intro hi
      rw [List.take_add_one, List.getElem?_eq_getElem (by omega), lsum_app]
      simp only [areaPTo, ih (by omega), Option.toList, lsum]
      rw [List.getD_eq_getElem?_getD, List.getElem?_eq_getElem (by omega)]
      simp only [Option.getD_some]
      grind
  have h := this _ (Nat.le_refl _)
  rwa [List.take_length] at h
theorem sortH_perm {L : List Pt} {Hs : List (List Pt)} (h : Valid L Hs) (h3 : Hs.length ≤ 3) {t : Aff} (ht : Par t) (hh : ∀ l ∈ L :: Hs, hl (l.map t.ap) (2 ^ 16)) : (sortH (Hs.map (imgL t))).Perm (Hs.map (imgL t)) := by
  have pos : ∀ l, Ring l → 0 < l.length := fun l r => by have := r.lo; omega
  refine (sortH_ok (by rw [List.length_map]; exact h3) ?_ fun l hl => ?_).1
  · rw [List.pairwise_map]
    exact h.pw.imp_of_mem fun ha hb s => s.img ht (pos _ (h.holes _ ha)) (pos _ (h.holes _ hb))
  · obtain ⟨x, hx, rfl⟩ := List.mem_map.1 hl
    exact pos _ ((h.holes x hx).img ht.1 (hh x (List.mem_cons_of_mem _ hx)))
theorem areaP_img {L : List Pt} {Hs : List (List Pt)} (h : Valid L Hs) (h3 : Hs.length ≤ 3) {t : Aff} (ht : Par t) (hh : ∀ l ∈ L :: Hs, hl (l.map t.ap) (2 ^ 16)) :
    areaPTo (imgL t L) (sortH (Hs.map (imgL t))) (sortH (Hs.map (imgL t))).length = (if t.det < 0 then -t.det else t.det) * areaPTo L Hs Hs.length := by
  rw [areaP_sum, areaP_sum, area_img h.out ht.1, lsum_perm (sortH_perm h h3 ht hh)]
  have : ∀ X : List (List Pt), (∀ l ∈ X, Ring l) → lsum areaL (X.map (imgL t)) = (if t.det < 0 then -t.det else t.det) * lsum areaL X := by
    intro X
    induction X with
    | nil => intro _; simp only [List.map_nil, lsum]; grind
    | cons l X ih =>
      intro hX
      simp only [List.map_cons, lsum, area_img (hX l (List.mem_cons_self ..)) ht.1, ih fun l hl => hX l (List.mem_cons_of_mem _ hl)]
      grind
  rw [this Hs h.holes]
  grind

def onE (l : List Pt) (q : Pt) : Prop := ∃ s ∈ edgesL l, onSeg s.a s.b q
theorem onSeg_between {a b p : Pt} (h : onSeg a b p) (hne : a ≠ b) : between a b p = true := by
  have hx : ar a b p = 0 := by
    obtain ⟨m, _, _, rfl⟩ := h
    rw [ar_pt, ar_l, ar_r]; grind
  have hc : cmpP a b ≠ 0 := fun e => hne (cmpP_zero.1 e)
  have ho : orient a b p = 0 := orient_ar.2 hx
  unfold between
  rw [decide_eq_true ho, decide_eq_true hc, Bool.true_and, Bool.true_or, Bool.and_true, decide_eq_true_eq]
  rcases cmpP_le_total a b with k | k
  · obtain ⟨h1, h2⟩ := lex_between h k
    exact Int.mul_nonneg_of_nonpos_of_nonpos h1 h2
  · obtain ⟨h1, h2⟩ := lex_between (onSeg_rev h) k
    have f : ∀ {u v : Pt}, cmpP u v ≤ 0 → 0 ≤ cmpP v u := by
      intro u v k
      by_cases hz : 0 ≤ cmpP v u
      · exact hz
      · have e := cmpP_antisymm k (by omega)
        rw [e, cmpP_self]; omega
    exact Int.mul_nonneg (f h2) (f h1)
theorem onB_onE {l : List Pt} (h : Ring l) (q : Pt) : onB l q = true ↔ onE l q := by
  constructor
  · intro k
    obtain ⟨i, hi, k⟩ := List.any_eq_true.1 k
    have hi := List.mem_range.1 hi
    exact ⟨segOf l i, seg_mem hi, between_onSeg k⟩
  · rintro ⟨s, hs, k⟩
    obtain ⟨i, hi, rfl⟩ := mem_edgesL hs
    exact onB_true hi (onSeg_between k (h.next_ne hi))
theorem onE_img {t : Aff} (ht : t.det ≠ 0) {l : List Pt} (h0 : 0 < l.length) {q : Pt} : onE (imgL t l) (t.ap q) ↔ onE l q := by
  have key : onE (imgL t l) (t.ap q) ↔ onE (l.map t.ap) (t.ap q) := by
    unfold imgL onE
    rcases edges_canonL (l := l.map t.ap) (by rw [List.length_map]; exact h0) with e | e
    · constructor
      · rintro ⟨s, hs, k⟩; exact ⟨s, e.mem_iff.1 hs, k⟩
      · rintro ⟨s, hs, k⟩; exact ⟨s, e.mem_iff.2 hs, k⟩
    · constructor
      · rintro ⟨s, hs, k⟩
        obtain ⟨r, hr, rfl⟩ := List.mem_map.1 (e.mem_iff.1 hs)
        exact ⟨r, hr, onSeg_rev k⟩
      · rintro ⟨s, hs, k⟩
        exact ⟨s.rev, e.mem_iff.2 (List.mem_map.2 ⟨s, hs, rfl⟩), onSeg_rev k⟩
  rw [key]
  constructor
  · rintro ⟨s, hs, k⟩
    rw [edges_map] at hs
    obtain ⟨r, hr, rfl⟩ := List.mem_map.1 hs
    exact ⟨r, hr, (onSeg_ap ht).1 k⟩
  · rintro ⟨s, hs, k⟩
    exact ⟨s.map t.ap, by rw [edges_map]; exact List.mem_map.2 ⟨s, hs, rfl⟩, (onSeg_ap ht).2 k⟩
theorem side_img {t : Aff} (ht : Par t) {l : List Pt} (h : Ring l) (hh : hl (l.map t.ap) (2 ^ 16)) (q : Pt) : sideS (imgL t l) (t.ap q) = sideS l q := by
  have hlo := h.lo
  have hb : onB (imgL t l) (t.ap q) = onB l q := by
    rw [Bool.eq_iff_iff, onB_onE (h.img ht.1 hh), onB_onE h, onE_img ht.1 (by omega)]
  unfold sideS
  rw [hb]
  split
  · rfl
  · rename_i hn
    rw [odd_img ht (by omega)]
    intro s hs k
    exact hn ((onB_onE h q).2 ⟨s, hs, k⟩)
/-- A point on the boundary of a hole lies within no other one. -/
theorem Sep.off {a b : List Pt} (h : Sep a b) {q : Pt} (hq : onE a q) : ¬ onE b q ∧ oddTo b q b.length = false := by
  obtain ⟨s, hs, k⟩ := hq
  refine ⟨fun ⟨r, hr, k2⟩ => h.nm s hs r hr ⟨q, k, k2⟩, ?_⟩
  obtain ⟨i, hi, rfl⟩ := mem_edgesL hs
  have hm : a.getD i default ∈ a := by rw [List.getD_eq_getElem?_getD, List.getElem?_eq_getElem hi]; exact List.getElem_mem hi
  rw [← h.ba _ hm]
  refine (odd_same fun j hj => ?_).symm
  rintro ⟨p, ⟨m, m0, m1, rfl⟩, k2⟩
  obtain ⟨n, n0, n1, rfl⟩ := k
  refine h.nm _ (seg_mem hi) _ (seg_mem hj) ⟨_, ⟨m * n, Rat.mul_nonneg m0 n0, ?_, ?_⟩, k2⟩
  · have := Rat.mul_nonneg (show 0 ≤ 1 - m by grind) n0
    grind
  · have e := pt_pt (a.getD i default) (nx a i) 0 n m
    have e0 : pt (a.getD i default) (nx a i) 0 = a.getD i default := Pt.ext (by unfold pt; simp only; grind) (by unfold pt; simp only; grind)
    rw [e0] at e
    show pt (a.getD i default) (pt (a.getD i default) (nx a i) n) m = _
    rw [e, show (0 : Rat) + m * (n - 0) = m * n by grind]; rfl
theorem sideS_one {l : List Pt} {q : Pt} : sideS l q = 0 ∨ sideS l q = 1 ∨ sideS l q = -1 := by
  unfold sideS
  split
  · exact .inl rfl
  · split
    · exact .inr (.inl rfl)
    · exact .inr (.inr rfl)
/-- Where a point lies, by the holes as a set. -/
theorem where_eq {L : List Pt} {Hs : List (List Pt)} (h : Valid L Hs) (q : Pt) :
    (sideS L q ≤ 0 → whereS L Hs q = sideS L q) ∧ (sideS L q = 1 → ((∃ x ∈ Hs, sideS x q = 0) → whereS L Hs q = 0) ∧ ((¬ ∃ x ∈ Hs, sideS x q = 0) → (∃ x ∈ Hs, sideS x q = 1) → whereS L Hs q = -1) ∧ ((∀ x ∈ Hs, sideS x q = -1) → whereS L Hs q = 1)) := by
  have r0 : ringSide (L :: Hs) q 0 = sideS L q := rfl
  have rs : ∀ i, ringSide (L :: Hs) q (i + 1) = -sideS (Hs.getD i []) q := fun i => by
    unfold ringSide; rw [if_pos (Nat.succ_pos i), List.getD_cons_succ]
  have mem : ∀ i, i < Hs.length → Hs.getD i [] ∈ Hs := fun i hi => by rw [List.getD_eq_getElem?_getD, List.getElem?_eq_getElem hi]; exact List.getElem_mem hi
  unfold whereS
  constructor
  · intro k
    exact firstLe_found (i := 0) (by omega) (by rw [r0]; exact k) (fun j hj => by omega)
  · intro k
    refine ⟨?_, ?_, ?_⟩
    · rintro ⟨x, hx, h0⟩
      -- the first hole with side 0 or 1 has side 0
      have ex : ∃ i, i < Hs.length ∧ sideS (Hs.getD i []) q = 0 := by
        obtain ⟨i, hi, rfl⟩ := List.mem_iff_getElem.1 hx
        exact ⟨i, hi, by rw [List.getD_eq_getElem?_getD, List.getElem?_eq_getElem hi]; exact h0⟩
      have ex2 : ∃ i, i < Hs.length ∧ sideS (Hs.getD i []) q = 0 ∧ ∀ j, j < i → sideS (Hs.getD j []) q ≠ 0 := by
        obtain ⟨i, hi⟩ := ex
        induction i using Nat.strongRecOn with
        | _ i ih =>
          by_cases hj : ∃ j, j < i ∧ sideS (Hs.getD j []) q = 0
          · obtain ⟨j, hj, e⟩ := hj; exact ih j hj ⟨by omega, e⟩
          · exact ⟨i, hi.1, hi.2, fun j hji e => hj ⟨j, hji, e⟩⟩
      obtain ⟨i, hi, e, hb⟩ := ex2
      rw [firstLe_found (i := i + 1) (by omega) (by rw [rs, e]; omega) ?_, rs, e]; rfl
      intro j hj
      rcases j with _ | j
      · rw [r0, k]; omega
      · rw [rs]
        have ne := hb j (by omega)
        have sep : Sep (Hs.getD j []) (Hs.getD i []) := by
          have := List.pairwise_iff_getElem.1 h.pw j i (by omega) hi (by omega)
          rw [List.getD_eq_getElem?_getD, List.getD_eq_getElem?_getD, List.getElem?_eq_getElem hi, List.getElem?_eq_getElem (show j < Hs.length by omega)]
          exact this
        have hon : onE (Hs.getD i []) q := by
          refine (onB_onE (h.holes _ (mem i hi)) q).1 ?_
          unfold sideS at e
          split at e
          · assumption
          · split at e <;> cases e
        have of := (sep.symm.off hon).2
        unfold sideS at ne ⊢
        split
        · rename_i hh; rw [if_pos hh] at ne; exact absurd rfl ne
        · rw [of]; simp
    · intro n0 hx
      have ex : ∃ i, i < Hs.length ∧ sideS (Hs.getD i []) q = 1 := by
        obtain ⟨x, hx, h0⟩ := hx
        obtain ⟨i, hi, rfl⟩ := List.mem_iff_getElem.1 hx
        exact ⟨i, hi, by rw [List.getD_eq_getElem?_getD, List.getElem?_eq_getElem hi]; exact h0⟩
      have ex2 : ∃ i, i < Hs.length ∧ sideS (Hs.getD i []) q = 1 ∧ ∀ j, j < i → sideS (Hs.getD j []) q ≠ 1 := by
        obtain ⟨i, hi⟩ := ex
        induction i using Nat.strongRecOn with
        | _ i ih =>
          by_cases hj : ∃ j, j < i ∧ sideS (Hs.getD j []) q = 1
          · obtain ⟨j, hj, e⟩ := hj; exact ih j hj ⟨by omega, e⟩
          · exact ⟨i, hi.1, hi.2, fun j hji e => hj ⟨j, hji, e⟩⟩
      obtain ⟨i, hi, e, hb⟩ := ex2
      rw [firstLe_found (i := i + 1) (by omega) (by rw [rs, e]; omega) ?_, rs, e]
      intro j hj
      rcases j with _ | j
      · rw [r0, k]; omega
      · rw [rs]
        have ne := hb j (by omega)
        have ne0 : sideS (Hs.getD j []) q ≠ 0 := fun e => n0 ⟨_, mem j (by omega), e⟩
        rcases sideS_one (l := Hs.getD j []) (q := q) with e | e | e
        · exact absurd e ne0
        · exact absurd e ne
        · omega
    · intro ha
      refine firstLe_none fun j hj => ?_
      rcases j with _ | j
      · rw [r0, k]; omega
      · rw [rs, ha _ (mem j (by omega))]; omega
theorem where_img {L : List Pt} {Hs : List (List Pt)} (h : Valid L Hs) (h3 : Hs.length ≤ 3) {t : Aff} (ht : Par t) (hh : ∀ l ∈ L :: Hs, hl (l.map t.ap) (2 ^ 16)) (q : Pt) :
    whereS (imgL t L) (sortH (Hs.map (imgL t))) (t.ap q) = whereS L Hs q := by
  have v := h.img h3 ht hh
  have p := sortH_perm h h3 ht hh
  have w1 := where_eq h q
  have w2 := where_eq v (t.ap q)
  have so := side_img ht h.out (hh L (List.mem_cons_self ..)) q
  have sh : ∀ x ∈ Hs, sideS (imgL t x) (t.ap q) = sideS x q := fun x hx => side_img ht (h.holes x hx) (hh x (List.mem_cons_of_mem _ hx)) q
  have ex : ∀ k : Int, (∃ x ∈ sortH (Hs.map (imgL t)), sideS x (t.ap q) = k) ↔ ∃ x ∈ Hs, sideS x q = k := by
    intro k
    constructor
    · rintro ⟨x, hx, e⟩
      obtain ⟨y, hy, rfl⟩ := List.mem_map.1 (p.mem_iff.1 hx)
      exact ⟨y, hy, by rw [← sh y hy]; exact e⟩
    · rintro ⟨y, hy, e⟩
      exact ⟨imgL t y, p.mem_iff.2 (List.mem_map.2 ⟨y, hy, rfl⟩), by rw [sh y hy]; exact e⟩
  rw [so] at w2
  by_cases h0 : sideS L q ≤ 0
  · rw [w1.1 h0, w2.1 h0]
  · have h1 : sideS L q = 1 := by
      rcases sideS_one (l := L) (q := q) with e | e | e <;> omega
    obtain ⟨a1, a2, a3⟩ := w1.2 h1
    obtain ⟨b1, b2, b3⟩ := w2.2 h1
    by_cases e0 : ∃ x ∈ Hs, sideS x q = 0
    · rw [a1 e0, b1 ((ex 0).2 e0)]
    · have e0' : ¬ ∃ x ∈ sortH (Hs.map (imgL t)), sideS x (t.ap q) = 0 := fun k => e0 ((ex 0).1 k)
      by_cases e1 : ∃ x ∈ Hs, sideS x q = 1
      · rw [a2 e0 e1, b2 e0' ((ex 1).2 e1)]
      · have e1' : ¬ ∃ x ∈ sortH (Hs.map (imgL t)), sideS x (t.ap q) = 1 := fun k => e1 ((ex 1).1 k)
        have al : ∀ {X : List (List Pt)} {r : Pt}, (¬ ∃ x ∈ X, sideS x r = 0) → (¬ ∃ x ∈ X, sideS x r = 1) → ∀ x ∈ X, sideS x r = -1 := by
          intro X r n0 n1 x hx
          rcases sideS_one (l := x) (q := r) with e | e | e
          · exact absurd ⟨x, hx, e⟩ n0
          · exact absurd ⟨x, hx, e⟩ n1
          · exact e
        rw [a3 (al e0 e1), b3 (al e0' e1')]
end Go.Av
set_option maxRecDepth 100000
set_option maxHeartbeats 16000000
namespace Go.Av
open Go.RowKit
open Go.Proofs.Tryz (prog)
theorem nodup_getD {R : List Pt} (h : R.Nodup) {i k : Nat} (hik : i < k) (hk : k < R.length) : R.getD i default ≠ R.getD k default := by
  rw [List.getD_eq_getElem?_getD, List.getD_eq_getElem?_getD, List.getElem?_eq_getElem (show i < R.length by omega), List.getElem?_eq_getElem hk]
  exact List.pairwise_iff_getElem.1 h i k (by omega) hk hik
theorem startL_rot {R : List Pt} (hd : R.Nodup) (hz : leastTo R R.length = 0) {r : Nat} (hr : r < R.length) : startL (rotL R r) = R := by
  have hn := rotL_length (Nat.le_of_lt hr)
  have hk := leastTo_lt (L := rotL R r) (i := (rotL R r).length) (by omega)
  rw [hn] at hk
  have le1 : cmpP ((rotL R r).getD (leastTo (rotL R r) R.length) default) (R.getD 0 default) ≤ 0 := by
    rcases Nat.eq_zero_or_pos r with h0 | h0
    · have := leastTo_spec (L := rotL R r) R.length 0 (by omega)
      rw [rotL_getD (i := 0) (by omega) (by omega), if_pos (by omega)] at this
      rwa [show r + 0 = 0 by omega] at this
    · have := leastTo_spec (L := rotL R r) R.length (R.length - r) (by omega)
      rw [rotL_getD (i := R.length - r) (by omega) (by omega), if_neg (by omega), Nat.sub_self] at this
      exact this
  have mem : ∃ j, j < R.length ∧ (rotL R r).getD (leastTo (rotL R r) R.length) default = R.getD j default ∧ (j = 0 → leastTo (rotL R r) R.length = (if r = 0 then 0 else R.length - r)) := by
    rw [rotL_getD (by omega) hk]
    split
    · refine ⟨_, ?_, rfl, ?_⟩
      · omega
      · intro e; rw [if_pos (by omega)]; omega
    · refine ⟨_, ?_, rfl, ?_⟩
      · omega
      · intro e; split <;> omega
  obtain ⟨j, hj, ej, hj0⟩ := mem
  rw [ej] at le1
  have le2 := leastTo_spec (L := R) R.length j hj
  rw [hz] at le2
  have e0 := cmpP_antisymm le1 le2
  have j0 : j = 0 := by
    rcases Nat.eq_zero_or_pos j with h0 | h0
    · exact h0
    · exact absurd e0.symm (nodup_getD hd h0 hj)
  have hk := hj0 j0
  show rotL (rotL R r) (leastTo (rotL R r) (rotL R r).length) = R
  rw [hn, hk]
  split
  · rename_i h0; rw [h0, rotL_zero, rotL_zero]
  · exact rotL_back (by omega)
theorem nodup_rev {l : List Pt} (h : l.Nodup) : l.reverse.Nodup := (List.reverse_perm l).nodup_iff.2 h
theorem rotL_perm (l : List Pt) (r : Nat) : (rotL l r).Perm l := by
  unfold rotL
  exact List.perm_append_comm.trans (by rw [List.take_append_drop])
theorem rotL_len (l : List Pt) : rotL l l.length = l := by unfold rotL; simp
theorem startL_rot1 {m : List Pt} (hd : m.Nodup) (h0 : 0 < m.length) : startL (rot1 m) = startL m := by
  have hk := leastTo_in h0
  have hR : startL m = rotL m (leastTo m m.length) := rfl
  have hn : (startL m).length = m.length := startL_length h0
  have hRd : (startL m).Nodup := by rw [hR]; exact (rotL_perm m _).nodup_iff.2 hd
  have hz := least_rot h0
  have hm : rotL (startL m) (m.length - leastTo m m.length) = m := by rw [hR]; exact rotL_back (by omega)
  have : ∃ r, r < (startL m).length ∧ rot1 m = rotL (startL m) r := by
    rcases Nat.eq_zero_or_pos (leastTo m m.length) with k0 | k0
    · have e : startL m = m := by rw [hR, k0, rotL_zero]
      rw [e]
      have s := rotL_succ (l := m) (r := 0) h0
      rw [rotL_zero] at s
      by_cases h1 : m.length = 1
      · refine ⟨0, h0, ?_⟩
        rw [← s, rotL_zero, show 0 + 1 = m.length by omega, rotL_len]
      · exact ⟨1, by omega, s.symm⟩
    · have s := rotL_succ (l := startL m) (r := m.length - leastTo m m.length) (by omega)
      rw [hm] at s
      by_cases h1 : leastTo m m.length = 1
      · refine ⟨0, by omega, ?_⟩
        rw [← s, h1, show m.length - 1 + 1 = (startL m).length by omega, rotL_len, rotL_zero]
      · exact ⟨_, by omega, s.symm⟩
  obtain ⟨r, hr, e⟩ := this
  rw [e, startL_rot hRd hz hr]
theorem rot1_nodup {m : List Pt} (hd : m.Nodup) : (rot1 m).Nodup := by
  cases m with
  | nil => exact hd
  | cons p t => exact (List.perm_append_singleton p t).nodup_iff.2 hd
theorem canonL_rot1 {l : List Pt} (hd : l.Nodup) (h0 : 0 < l.length) : canonL (rot1 l) = canonL l := by
  unfold canonL
  rw [area_rot1 h0]
  split
  · have e : l.reverse = rot1 (rot1 l).reverse := by
      cases l with
      | nil => rfl
      | cons p t => simp [rot1]
    rw [e, startL_rot1 (nodup_rev (rot1_nodup hd)) (by rw [List.length_reverse, rot1_length]; exact h0)]
  · exact startL_rot1 hd h0
theorem canonL_rev {l : List Pt} (ha : areaL l ≠ 0) (h0 : 0 < l.length) : canonL l.reverse = canonL l := by
  unfold canonL
  rw [area_rev h0]
  rcases lt_tri (areaL l) 0 with k | k | k
  · rw [if_neg (by grind), if_pos k]
  · exact absurd k ha
  · rw [if_pos (by grind), if_neg (by grind), List.reverse_reverse]
theorem map_nodup {l : List Pt} {t : Aff} (ht : t.det ≠ 0) (h : l.Nodup) : (l.map t.ap).Nodup := by
  unfold List.Nodup at *
  rw [List.pairwise_map]
  exact h.imp fun hne e => hne (ap_inj ht e)
theorem img_comp {L : List Pt} (h : Ring L) {t s r : Aff} (ht : t.det ≠ 0) (hs : s.det ≠ 0) (hr : ∀ p, r.ap p = s.ap (t.ap p)) : imgL s (imgL t L) = imgL r L := by
  have hlo := h.lo
  have e : L.map r.ap = (L.map t.ap).map s.ap := by rw [List.map_map]; exact List.map_congr_left fun p _ => hr p
  have ha : areaL (L.map t.ap) ≠ 0 := by
    rw [area_ap]
    intro e
    rcases Rat.mul_eq_zero.1 e with e | e
    · exact ht e
    · have := h.areaPos; rw [e] at this; exact absurd this Rat.lt_irrefl
  unfold imgL
  rw [e]
  have hd := map_nodup ht h.nodup
  have hp : 0 < (L.map t.ap).length := by rw [List.length_map]; omega
  generalize L.map t.ap = l at *
  have r1 : ∀ m, (m.Nodup ∧ 0 < m.length ∧ areaL m ≠ 0 ∧ canonL (m.map s.ap) = canonL (l.map s.ap)) → ((rot1 m).Nodup ∧ 0 < (rot1 m).length ∧ areaL (rot1 m) ≠ 0 ∧ canonL ((rot1 m).map s.ap) = canonL (l.map s.ap)) := by
    rintro m ⟨m1, m2, m3, m4⟩
    refine ⟨rot1_nodup m1, by rw [rot1_length]; exact m2, by rw [area_rot1 m2]; exact m3, ?_⟩
    have e : (rot1 m).map s.ap = rot1 (m.map s.ap) := by cases m <;> simp [rot1]
    rw [e, canonL_rot1 (map_nodup hs m1) (by rw [List.length_map]; exact m2)]
    exact m4
  have st : ∀ m, (m.Nodup ∧ 0 < m.length ∧ areaL m ≠ 0 ∧ canonL (m.map s.ap) = canonL (l.map s.ap)) → canonL ((startL m).map s.ap) = canonL (l.map s.ap) := fun m hm =>
    (rotL_ind (fun m => m.Nodup ∧ 0 < m.length ∧ areaL m ≠ 0 ∧ canonL (m.map s.ap) = canonL (l.map s.ap)) r1 hm _ (Nat.le_of_lt (leastTo_in hm.2.1))).2.2.2
  show canonL ((canonL l).map s.ap) = canonL (l.map s.ap)
  conv => lhs; arg 1; arg 2; unfold canonL
  split
  · refine st _ ⟨nodup_rev hd, by rw [List.length_reverse]; exact hp, by rw [area_rev hp]; intro e; exact ha (by grind), ?_⟩
    rw [List.map_reverse, canonL_rev (by
      rw [area_ap]
      intro e
      rcases Rat.mul_eq_zero.1 e with e | e
      · exact hs e
      · exact ha e) (by rw [List.length_map]; exact hp)]
  · exact st _ ⟨hd, hp, ha, rfl⟩
theorem img_id {L : List Pt} (h : Ring L) {t : Aff} (ht : ∀ p, t.ap p = p) : imgL t L = L := by
  unfold imgL
  rw [show L.map t.ap = L by conv => rhs; rw [← List.map_id L]
                             exact List.map_congr_left fun p _ => ht p]
  exact canonL_self h
theorem asc_pairwise {X : List (List Pt)} (h : Asc X) : X.Pairwise fun a b => cmpH a b < 0 := by
  have get : ∀ i (hi : i < X.length), X.getD i [] = X[i] := fun i hi => by rw [List.getD_eq_getElem?_getD, List.getElem?_eq_getElem hi]; rfl
  have key : ∀ d i (hi : i + d + 1 < X.length), cmpH (X.getD i []) (X.getD (i + d + 1) []) < 0 := by
    intro d
    induction d with
    | zero => intro i hi; exact h (i + 1) (by omega) hi
    | succ d ih =>
      intro i hi
      have h1 := ih i (by omega)
      have h2 := h (i + d + 1 + 1) (by omega) hi
      exact cmpH_trans h1 h2
  rw [List.pairwise_iff_getElem]
  intro i j hi hj hlt
  have := key (j - i - 1) i (by omega)
  rw [show i + (j - i - 1) + 1 = j by omega, get i hi, get j hj] at this
  exact this
theorem asc_unique : ∀ {X Y : List (List Pt)}, X.Perm Y → X.Pairwise (fun a b => cmpH a b < 0) → Y.Pairwise (fun a b => cmpH a b < 0) → X = Y
  | [], Y, hp, _, _ => (List.Perm.nil_eq hp)
  | a :: X, [], hp, _, _ => absurd hp.symm (by simp)
  | a :: X, b :: Y, hp, hx, hy => by
    have hab : a = b := by
      have h1 : a ∈ b :: Y := hp.mem_iff.1 (List.mem_cons_self ..)
      have h2 : b ∈ a :: X := hp.mem_iff.2 (List.mem_cons_self ..)
      rcases List.mem_cons.1 h1 with e | h1
      · exact e
      · rcases List.mem_cons.1 h2 with e | h2
        · exact e.symm
        · exact absurd ((List.pairwise_cons.1 hx).1 b h2) (cmpH_asym ((List.pairwise_cons.1 hy).1 a h1))
    subst hab
    rw [asc_unique (List.Perm.cons_inv hp) (List.pairwise_cons.1 hx).2 (List.pairwise_cons.1 hy).2]
/-- The image of a polygon. -/
def imgH (t : Aff) (Hs : List (List Pt)) : List (List Pt) := sortH (Hs.map (imgL t))
def Fits (t : Aff) (L : List Pt) (Hs : List (List Pt)) : Prop := ∀ l ∈ L :: Hs, hl (l.map t.ap) (2 ^ 16)
theorem imgH_length {L : List Pt} {Hs : List (List Pt)} (h : Valid L Hs) (h3 : Hs.length ≤ 3) {t : Aff} (ht : Par t) (hh : Fits t L Hs) : (imgH t Hs).length = Hs.length := by
  rw [imgH, (sortH_perm h h3 ht hh).length_eq, List.length_map]
theorem imgH_comp {L : List Pt} {Hs : List (List Pt)} (h : Valid L Hs) (h3 : Hs.length ≤ 3) {t s r : Aff} (ht : Par t) (hs : Par s) (hr : ∀ p, r.ap p = s.ap (t.ap p)) (hpr : Par r) (h1 : Fits t L Hs) (h2 : Fits s (imgL t L) (imgH t Hs)) (h4 : Fits r L Hs) :
    imgH s (imgH t Hs) = imgH r Hs := by
  have v := h.img h3 ht h1
  have l3 : (imgH t Hs).length ≤ 3 := by rw [imgH_length h h3 ht h1]; exact h3
  have p1 := sortH_perm h h3 ht h1
  have p2 := sortH_perm v l3 hs h2
  have p3 := sortH_perm h h3 hpr h4
  have e : (Hs.map (imgL t)).map (imgL s) = Hs.map (imgL r) := by
    rw [List.map_map]
    exact List.map_congr_left fun l hl => img_comp (h.holes l hl) ht.1 hs.1 hr
  refine asc_unique (p2.trans ?_) (asc_pairwise (v.img l3 hs h2).asc) (asc_pairwise (h.img h3 hpr h4).asc)
  have := p1.map (imgL s)
  rw [e] at this
  exact this.trans p3.symm
theorem imgH_id {L : List Pt} {Hs : List (List Pt)} (h : Valid L Hs) (h3 : Hs.length ≤ 3) {t : Aff} (ht : ∀ p, t.ap p = p) : imgH t Hs = Hs := by
  unfold imgH sortH
  have e : Hs.map (imgL t) = Hs := by
    conv => rhs; rw [← List.map_id Hs]
    exact List.map_congr_left fun l hl => img_id (h.holes l hl) ht
  rw [e]
  exact (sort_asc h.asc h3).1
end Go.Av
