/- Helping texts: Mf, Mg, Mh, Mi, Mj. -/
import Derived.Test.YtbidkolaahnbiaaGreatKMc
import Derived.Test.YtbidkolaahnbiaaGreatKFd
set_option linter.unusedSimpArgs false
set_option linter.unusedVariables false
set_option maxRecDepth 100000
set_option maxHeartbeats 16000000
namespace Go.Av
def xsum (f : Sg → Bool) : List Sg → Bool
 | [] => false
 | s :: t => f s ^^ xsum f t
theorem xsum_app (f : Sg → Bool) (a b : List Sg) : xsum f (a ++ b) = (xsum f a ^^ xsum f b) := by
 induction a with
 | nil => simp [xsum]
 | cons s t ih => simp only [List.cons_append, xsum, ih, Bool.xor_assoc]
theorem xsum_perm {f : Sg → Bool} {a b : List Sg} (h : a.Perm b) : xsum f a = xsum f b := by
 induction h with
 | nil => rfl
 | cons s _ ih => simp only [xsum, ih]
 | swap s t l => simp only [xsum]; rw [← Bool.xor_assoc, ← Bool.xor_assoc, Bool.xor_comm (f t)]
 | trans _ _ h1 h2 => exact h1.trans h2
theorem xsum_xor (f g : Sg → Bool) (a : List Sg) : xsum (fun s => f s ^^ g s) a = (xsum f a ^^ xsum g a) := by
 induction a with
 | nil => rfl
 | cons s t ih =>
  simp only [xsum, ih]
  cases f s <;> cases g s <;> cases xsum f t <;> cases xsum g t <;> rfl
theorem xsum_congr {f g : Sg → Bool} {a : List Sg} (h : ∀ s ∈ a, f s = g s) : xsum f a = xsum g a := by
 induction a with
 | nil => rfl
 | cons s t ih => simp only [xsum, h s (List.mem_cons_self ..), ih fun s hs => h s (List.mem_cons_of_mem _ hs)]
theorem xsum_map (f : Sg → Bool) (g : Sg → Sg) (a : List Sg) : xsum f (a.map g) = xsum (fun s => f (g s)) a := by
 induction a with
 | nil => rfl
 | cons s t ih => simp only [List.map_cons, xsum, ih]
def psum (w : Pt → Bool) : List Pt → Bool
 | [] => false
 | p :: t => w p ^^ psum w t
theorem psum_perm {w : Pt → Bool} {a b : List Pt} (h : a.Perm b) : psum w a = psum w b := by
 induction h with
 | nil => rfl
 | cons s _ ih => simp only [psum, ih]
 | swap s t l => simp only [psum]; rw [← Bool.xor_assoc, ← Bool.xor_assoc, Bool.xor_comm (w t)]
 | trans _ _ h1 h2 => exact h1.trans h2
theorem psum_map (w : Pt → Bool) (g : Sg → Pt) (a : List Sg) : psum w (a.map g) = xsum (fun s => w (g s)) a := by
 induction a with
 | nil => rfl
 | cons s t ih => simp only [List.map_cons, psum, xsum, ih]
theorem xsum_ends (w : Pt → Bool) (L : List Pt) : xsum (fun s => w s.a ^^ w s.b) (edgesL L) = false := by
 rw [xsum_xor, ← psum_map w Sg.a, ← psum_map w Sg.b, edgesL_a, psum_perm (edgesL_b L), Bool.xor_self]
theorem odd_xsum (L : List Pt) (p : Pt) : oddTo L p L.length = xsum (fun s => cr p s.a s.b) (edgesL L) := by
 have : ∀ i, oddTo L p i = xsum (fun s => cr p s.a s.b) ((List.range i).map (segOf L)) := by
  intro i
  induction i with
  | zero => rfl
  | succ i ih =>
   rw [List.range_succ, List.map_append, xsum_app, ← ih]
   simp only [oddTo, List.map_cons, List.map_nil, xsum, Bool.xor_false, segOf]
   exact oddStep_eq ..
 exact this _
def rsum (g : Pt → Rat) : List Pt → Rat
 | [] => 0
 | p :: t => g p + rsum g t
theorem rsum_perm {g : Pt → Rat} {a b : List Pt} (h : a.Perm b) : rsum g a = rsum g b := by
 induction h with
 | nil => rfl
 | cons s _ ih => simp only [rsum, ih]
 | swap s t l => simp only [rsum]; grind
 | trans _ _ h1 h2 => exact h1.trans h2
theorem mem_edgesL {L : List Pt} {s : Sg} (h : s ∈ edgesL L) : ∃ j, j < L.length ∧ s = segOf L j := by
 obtain ⟨j, hj, rfl⟩ := List.mem_map.1 h
 exact ⟨j, List.mem_range.1 hj, rfl⟩
theorem cr_symm (p u v : Pt) : cr p u v = cr p v u := by
 unfold cr
 by_cases h1 : u.y ≤ v.y
 ·by_cases h2 : v.y ≤ u.y
  ·have e : u.y = v.y := by grind
   have k1 : ¬ crU p u v := fun k => by have := k.1; have := k.2.1; grind
   have k2 : ¬ crU p v u := fun k => by have := k.1; have := k.2.1; grind
   rw [if_pos h1, if_pos h2, decide_eq_false k1, decide_eq_false k2]
  ·rw [if_pos h1, if_neg h2]
 ·rw [if_neg h1, if_pos (Rat.le_of_lt (Rat.not_le.1 h1))]
structure Aff where
 a : Rat
 b : Rat
 c : Rat
 d : Rat
 e : Rat
 f : Rat
def Aff.ap (t : Aff) (p : Pt) : Pt := ⟨t.a * p.x + t.b * p.y + t.e, t.c * p.x + t.d * p.y + t.f⟩
def Aff.det (t : Aff) : Rat := t.a * t.d - t.b * t.c
theorem ar_ap (t : Aff) (u v p : Pt) : ar (t.ap u) (t.ap v) (t.ap p) = t.det * ar u v p := by unfold ar Aff.ap Aff.det; grind
theorem pt_ap (t : Aff) (u v : Pt) (m : Rat) : pt (t.ap u) (t.ap v) m = t.ap (pt u v m) := by
 refine Pt.ext ?_ ?_ <;> (unfold pt Aff.ap; simp only; grind)
theorem ap_inj {t : Aff} (h : t.det ≠ 0) {p q : Pt} (e : t.ap p = t.ap q) : p = q := by
 have e1 := congrArg Pt.x e
 have e2 := congrArg Pt.y e
 simp only [Aff.ap] at e1 e2
 unfold Aff.det at h
 refine Pt.ext ?_ ?_
 ·have : (t.a * t.d - t.b * t.c) * (p.x - q.x) = 0 := by grind
  grind
 ·have : (t.a * t.d - t.b * t.c) * (p.y - q.y) = 0 := by grind
  grind
theorem onSeg_ap {t : Aff} (h : t.det ≠ 0) {u v p : Pt} : onSeg (t.ap u) (t.ap v) (t.ap p) ↔ onSeg u v p := by
 constructor
 ·rintro ⟨m, h0, h1, e⟩
  rw [pt_ap] at e
  exact ⟨m, h0, h1, ap_inj h e⟩
 ·rintro ⟨m, h0, h1, rfl⟩
  exact ⟨m, h0, h1, (pt_ap ..).symm⟩
theorem Common_ap {t : Aff} (h : t.det ≠ 0) {a b u v : Pt} : Common (t.ap a) (t.ap b) (t.ap u) (t.ap v) ↔ Common a b u v := by
 constructor
 ·rintro ⟨p, ⟨m, h0, h1, rfl⟩, ⟨k, k0, k1, e⟩⟩
  rw [pt_ap, pt_ap] at e
  exact ⟨pt a b m, ⟨m, h0, h1, rfl⟩, ⟨k, k0, k1, ap_inj h e⟩⟩
 ·rintro ⟨p, h1, h2⟩
  exact ⟨t.ap p, (onSeg_ap h).2 h1, (onSeg_ap h).2 h2⟩
theorem mapP_getD {l : List Pt} {g : Pt → Pt} {i : Nat} (h : i < l.length) : (l.map g).getD i default = g (l.getD i default) := by
 rw [List.getD_eq_getElem?_getD, List.getElem?_map, List.getD_eq_getElem?_getD, List.getElem?_eq_getElem h]; rfl
theorem Good.map {l : List Pt} (h : Good l) {t : Aff} (ht : t.det ≠ 0) : Good (l.map t.ap) := by
 have hn : (l.map t.ap).length = l.length := List.length_map ..
 refine ⟨by rw [hn]; exact h.lo, fun i hi => ?_, fun i hi => ?_, fun i k hi hk h0 h1 h2 => ?_⟩
 ·rw [hn] at hi ⊢
  rw [mapP_getD hi, mapP_getD (sc_lt hi)]
  exact fun e => h.ne i hi (ap_inj ht e)
 ·rw [hn] at hi ⊢
  rw [mapP_getD hi, mapP_getD (sc_lt hi), mapP_getD (sc_lt (sc_lt hi)), ar_ap]
  have := h.fl i hi
  intro e
  rcases Rat.mul_eq_zero.1 e with e | e
  ·exact ht e
  ·exact this e
 ·rw [hn] at hi hk h1 h2 ⊢
  rw [mapP_getD hi, mapP_getD (sc_lt hi), mapP_getD hk, mapP_getD (sc_lt hk), Common_ap ht]
  exact h.cr i k hi hk h0 h1 h2
def Sg.map (s : Sg) (g : Pt → Pt) : Sg := ⟨g s.a, g s.b⟩
theorem edges_map (l : List Pt) (g : Pt → Pt) : edgesL (l.map g) = (edgesL l).map fun s => s.map g := by
 unfold edgesL
 rw [List.length_map, List.map_map]
 refine List.map_congr_left fun i hi => ?_
 have hi := List.mem_range.1 hi
 unfold segOf Sg.map
 simp only [Function.comp]
 rw [nx_sc (by rw [List.length_map]; exact hi), nx_sc hi, List.length_map, mapP_getD hi, mapP_getD (sc_lt hi)]
theorem area_ap (l : List Pt) (t : Aff) : areaL (l.map t.ap) = t.det * areaL l := by
 rw [area_esum, area_esum, edges_map]
 have key : ∀ E : List Sg, esum (E.map fun s => s.map t.ap) = t.det * esum E + (rsum (fun p => t.e * (t.c * p.x + t.d * p.y) - t.f * (t.a * p.x + t.b * p.y)) (E.map Sg.b) - rsum (fun p => t.e * (t.c * p.x + t.d * p.y) - t.f * (t.a * p.x + t.b * p.y)) (E.map Sg.a)) := by
  intro E
  induction E with
  | nil => simp only [List.map_nil, esum, rsum]; grind
  | cons s E ih =>
   simp only [List.map_cons, esum, rsum, ih]
   unfold Sg.map Aff.ap cross Aff.det
   try simp only
   grind
 rw [key, edgesL_a, rsum_perm (edgesL_b l)]
 grind
end Go.Av
namespace Go.Av
end Go.Av
namespace Go.Av
open Go.RowKit
open Go.Proofs.Tryz (prog)
def NoMeet (A B : List Pt) : Prop := ∀ s ∈ edgesL A, ∀ t ∈ edgesL B, ¬ Common s.a s.b t.a t.b
theorem NoMeet.symm {A B : List Pt} (h : NoMeet A B) : NoMeet B A := fun s hs t ht k => h t ht s hs k.symm
theorem seg_mem {A : List Pt} {i : Nat} (hi : i < A.length) : segOf A i ∈ edgesL A := List.mem_map.2 ⟨i, List.mem_range.2 hi, rfl⟩
theorem meetB_noMeet {A B : List Pt} (hA : Ring A) (hB : Ring B) : meetB A B = false ↔ NoMeet A B := by
 constructor
 ·intro h s hs t ht hc
  obtain ⟨i, hi, rfl⟩ := mem_edgesL hs
  obtain ⟨k, hk, rfl⟩ := mem_edgesL ht
  rw [meetB_true hi hk (meet_some (hA.seg_ok hi) (hB.seg_ok hk) hc)] at h
  cases h
 ·intro h
  refine meetB_false fun i hi k hk => ?_
  have : ¬ (meetM (segOf A i) (segOf B k)).isSome = true := fun hm => h _ (seg_mem hi) _ (seg_mem hk) (some_common hm)
  rwa [Bool.not_eq_true] at this
theorem NoMeet.free {A B : List Pt} (h : NoMeet A B) {i : Nat} (hi : i < A.length) : ∀ s ∈ edgesL B, ¬ onSeg s.a s.b (A.getD i default) := fun s hs k => h _ (seg_mem hi) s hs ⟨_, onSeg_l _ _, k⟩
theorem odd_const {A B : List Pt} (h : NoMeet A B) : ∀ {i : Nat}, i < A.length → oddTo B (A.getD i default) B.length = oddTo B (A.getD 0 default) B.length
 | 0, _ => rfl
 | i + 1, hi => by
  rw [← odd_const h (show i < A.length by omega)]
  have e : A.getD (i + 1) default = nx A i := by rw [nx_sc (by omega)]; unfold sc; rw [if_neg (by omega)]
  rw [e]
  exact (odd_same fun j hj => h (segOf A i) (seg_mem (by omega)) (segOf B j) (seg_mem hj)).symm
theorem withinB_odd {A B : List Pt} (h : NoMeet A B) (h0 : 0 < A.length) : withinB A B = oddTo B (A.getD 0 default) B.length := by
 have hb : onB B (A.getD 0 default) = false := onB_false fun i hi => by
  have := h.free h0 (segOf B i) (seg_mem hi)
  cases hx : between (B.getD i default) (nx B i) (A.getD 0 default) with
  | false => rfl
  | true => exact absurd (between_onSeg hx) this
 unfold withinB sideS
 rw [hb]
 cases oddTo B (A.getD 0 default) B.length <;> simp
structure Sep (a b : List Pt) : Prop where
 nm : NoMeet a b
 ab : ∀ p ∈ b, oddTo a p a.length = false
 ba : ∀ p ∈ a, oddTo b p b.length = false
theorem Sep.symm {a b : List Pt} (h : Sep a b) : Sep b a := ⟨h.nm.symm, h.ba, h.ab⟩
structure Valid (L : List Pt) (Hs : List (List Pt)) : Prop where
 out : Ring L
 holes : ∀ h ∈ Hs, Ring h
 few : Hs.length ≤ 8
 mo : ∀ h ∈ Hs, NoMeet h L
 wo : ∀ h ∈ Hs, ∀ p ∈ h, oddTo L p L.length = true
 pw : Hs.Pairwise Sep
 asc : Asc Hs
theorem Valid.rgs {L : List Pt} {Hs : List (List Pt)} (h : Valid L Hs) : Rgs L Hs := ⟨h.out, h.holes, h.few⟩
theorem Fine.valid {O : List Rp} {hs : List (List Rp)} (h : Fine O hs) : Valid (pts O) (hs.map pts) := by
 have hr := h.rgs
 have get : ∀ i, i < hs.length → (hs.map pts).getD i [] = pts (hs.getD i []) := fun i hi => by
  rw [List.getD_eq_getElem?_getD, List.getD_eq_getElem?_getD, List.getElem?_map, List.getElem?_eq_getElem hi]; rfl
 have ring : ∀ i, i < hs.length → Ring (pts (hs.getD i [])) := fun i hi => by
  rw [← get i hi]; exact hr.hole (by rw [List.length_map]; exact hi)
 have key : ∀ i, i < hs.length → NoMeet (pts (hs.getD i [])) (pts O) ∧ (∀ j, j < i → NoMeet (pts (hs.getD i [])) (pts (hs.getD j []))) ∧ withinB (pts (hs.getD i [])) (pts O) = true ∧
  ∀ j, j < i → withinB (pts (hs.getD i [])) (pts (hs.getD j [])) = false ∧ withinB (pts (hs.getD j [])) (pts (hs.getD i [])) = false := by
  intro i hi
  have hz := h.hz i hi
  unfold chkH at hz
  rw [if_neg (by intro h2; exact h2 (chkH_ring (h.hz i hi)))] at hz
  split at hz
  ·cases hz
  rename_i x1
  split at hz
  ·cases hz
  rename_i x2
  split at hz
  ·cases hz
  rename_i x3
  rw [not_or, Bool.not_eq_true, Bool.not_eq_true] at x1
  rw [Bool.not_eq_false] at x2
  rw [Bool.not_eq_true] at x3
  refine ⟨(meetB_noMeet (ring i hi) hr.out).1 x1.1, fun j hj => (meetB_noMeet (ring i hi) (ring j (by omega))).1 (anyTo_get x1.2 hj), x2, fun j hj => ?_⟩
  have := anyTo_get x3 hj
  rwa [Bool.or_eq_false_iff] at this
 have mem : ∀ l ∈ hs.map pts, ∃ i, i < hs.length ∧ l = pts (hs.getD i []) := by
  intro l hl
  obtain ⟨i, hi, rfl⟩ := List.mem_iff_getElem.1 hl
  rw [List.length_map] at hi
  refine ⟨i, hi, ?_⟩
  rw [← get i hi, List.getD_eq_getElem?_getD, List.getElem?_eq_getElem (by rw [List.length_map]; exact hi)]; rfl
 refine ⟨hr.out, hr.holes, hr.few, fun l hl => ?_, fun l hl p hp => ?_, ?_, h.asc⟩
 ·obtain ⟨i, hi, rfl⟩ := mem l hl
  exact (key i hi).1
 ·obtain ⟨i, hi, rfl⟩ := mem l hl
  obtain ⟨k1, _, k3, _⟩ := key i hi
  have r := ring i hi
  rw [withinB_odd k1 (by have := r.lo; omega)] at k3
  obtain ⟨j, hj, rfl⟩ := mem_getD hp
  rw [odd_const k1 hj]; exact k3
 ·rw [List.pairwise_iff_getElem]
  intro j i hj hi hlt
  rw [List.length_map] at hi hj
  obtain ⟨_, k2, _, k4⟩ := key i hi
  have e : ∀ k (hk : k < hs.length), (hs.map pts)[k]'(by rw [List.length_map]; exact hk) = pts (hs.getD k []) := fun k hk => by
   rw [List.getElem_map, List.getD_eq_getElem?_getD, List.getElem?_eq_getElem hk]; rfl
  rw [e i hi, e j hj]
  have nm := k2 j hlt
  obtain ⟨w1, w2⟩ := k4 j hlt
  have ri := ring i hi
  have rj := ring j hj
  rw [withinB_odd nm (by have := ri.lo; omega)] at w1
  rw [withinB_odd nm.symm (by have := rj.lo; omega)] at w2
  refine ⟨nm.symm, fun p hp => ?_, fun p hp => ?_⟩
  ·obtain ⟨k, hk, rfl⟩ := mem_getD hp
   rw [odd_const nm hk]; exact w1
  ·obtain ⟨k, hk, rfl⟩ := mem_getD hp
   rw [odd_const nm.symm hk]; exact w2
theorem getD_mem0 {l : List Pt} (h : 0 < l.length) : l.getD 0 default ∈ l := by
 rw [List.getD_eq_getElem?_getD, List.getElem?_eq_getElem h]; exact List.getElem_mem h
theorem Valid.fine {L : List Pt} {Hs : List (List Pt)} (h : Valid L Hs) : Fine (L.map Pt.rp) (Hs.map fun l => l.map Pt.rp) := by
 have get : ∀ i, i < Hs.length → pts ((Hs.map fun l => l.map Pt.rp).getD i []) = Hs.getD i [] := fun i hi => by
  rw [List.getD_eq_getElem?_getD, List.getD_eq_getElem?_getD, List.getElem?_map, List.getElem?_eq_getElem hi]; exact pts_rp _
 have get2 : ∀ i, i < Hs.length → (Hs.map fun l => l.map Pt.rp).getD i [] = (Hs.getD i []).map Pt.rp := fun i hi => by
  rw [List.getD_eq_getElem?_getD, List.getD_eq_getElem?_getD, List.getElem?_map, List.getElem?_eq_getElem hi]; rfl
 have mem : ∀ i, i < Hs.length → Hs.getD i [] ∈ Hs := fun i hi => by rw [List.getD_eq_getElem?_getD, List.getElem?_eq_getElem hi]; exact List.getElem_mem hi
 refine ⟨?_, rp_le h.out.ht, fun l hl => ?_⟩
 ·unfold chkP
  rw [chkR_rp h.out.lo h.out.hi, h.out.ok, if_neg (fun k => k rfl), List.length_map, if_neg (by have := h.few; omega)]
  refine firstNz_none fun i hi => ?_
  have r := h.holes _ (mem i hi)
  have sep : ∀ j, j < i → Sep (Hs.getD j []) (Hs.getD i []) := fun j hj => by
   have := List.pairwise_iff_getElem.1 h.pw j i (by omega) hi hj
   rw [List.getD_eq_getElem?_getD, List.getD_eq_getElem?_getD, List.getElem?_eq_getElem hi, List.getElem?_eq_getElem (show j < Hs.length by omega)]
   exact this
  unfold chkH
  rw [get2 i hi, chkR_rp r.lo r.hi, r.ok, if_neg (fun k => k rfl), pts_rp, pts_rp, if_neg, if_neg, if_neg, if_neg]
  ·rintro ⟨h0, hle⟩
   rw [get (i - 1) (by omega)] at hle
   have := h.asc i h0 hi
   unfold cmpH at this
   omega
  ·rw [Bool.not_eq_true]
   refine anyTo_false fun j hj => ?_
   have s := sep j hj
   have rj := h.holes _ (mem j (by omega))
   have l1 := r.lo
   have l2 := rj.lo
   rw [get j (by omega), withinB_odd s.nm.symm (by omega), withinB_odd s.nm (by omega), s.ab _ (getD_mem0 (by omega)), s.ba _ (getD_mem0 (by omega))]
   rfl
  ·have l1 := r.lo
   rw [withinB_odd (h.mo _ (mem i hi)) (by omega), h.wo _ (mem i hi) _ (getD_mem0 (by omega))]
   simp
  ·rw [not_or, Bool.not_eq_true, Bool.not_eq_true]
   refine ⟨(meetB_noMeet r h.out).2 (h.mo _ (mem i hi)), anyTo_false fun j hj => ?_⟩
   rw [get j (by omega)]
   exact (meetB_noMeet r (h.holes _ (mem j (by omega)))).2 (sep j hj).nm.symm
 ·obtain ⟨l0, hl0, rfl⟩ := List.mem_map.1 hl
  have r := h.holes l0 hl0
  exact ⟨by rw [List.length_map]; have := r.hi; omega, rp_le r.ht⟩
end Go.Av
namespace Go.Av
open Go.RowKit
open Go.Proofs.Tryz (prog)
def onE (l : List Pt) (q : Pt) : Prop := ∃ s ∈ edgesL l, onSeg s.a s.b q
theorem onSeg_between {a b p : Pt} (h : onSeg a b p) (hne : a ≠ b) : between a b p = true := by
 have hx : ar a b p = 0 := by
  obtain ⟨m, _, _, rfl⟩ := h
  rw [ar_pt, ar_l, ar_r]; grind
 have hc : cmpP a b ≠ 0 := fun e => hne (cmpP_zero.1 e)
 have ho : orient a b p = 0 := orient_ar.2 hx
 unfold between
 rw [decide_eq_true ho, decide_eq_true hc, Bool.true_and, Bool.true_or, Bool.and_true, decide_eq_true_eq]
 rcases cmpP_le_total a b with k | k
 ·obtain ⟨h1, h2⟩ := lex_between h k
  exact Int.mul_nonneg_of_nonpos_of_nonpos h1 h2
 ·obtain ⟨h1, h2⟩ := lex_between (onSeg_rev h) k
  have f : ∀ {u v : Pt}, cmpP u v ≤ 0 → 0 ≤ cmpP v u := by
   intro u v k
   by_cases hz : 0 ≤ cmpP v u
   ·exact hz
   ·have e := cmpP_antisymm k (by omega)
    rw [e, cmpP_self]; omega
  exact Int.mul_nonneg (f h2) (f h1)
theorem onB_onE {l : List Pt} (h : Ring l) (q : Pt) : onB l q = true ↔ onE l q := by
 constructor
 ·intro k
  obtain ⟨i, hi, k⟩ := List.any_eq_true.1 k
  have hi := List.mem_range.1 hi
  exact ⟨segOf l i, seg_mem hi, between_onSeg k⟩
 ·rintro ⟨s, hs, k⟩
  obtain ⟨i, hi, rfl⟩ := mem_edgesL hs
  exact onB_true hi (onSeg_between k (h.next_ne hi))
theorem Sep.off {a b : List Pt} (h : Sep a b) {q : Pt} (hq : onE a q) : ¬ onE b q ∧ oddTo b q b.length = false := by
 obtain ⟨s, hs, k⟩ := hq
 refine ⟨fun ⟨r, hr, k2⟩ => h.nm s hs r hr ⟨q, k, k2⟩, ?_⟩
 obtain ⟨i, hi, rfl⟩ := mem_edgesL hs
 have hm : a.getD i default ∈ a := by rw [List.getD_eq_getElem?_getD, List.getElem?_eq_getElem hi]; exact List.getElem_mem hi
 rw [← h.ba _ hm]
 refine (odd_same fun j hj => ?_).symm
 rintro ⟨p, ⟨m, m0, m1, rfl⟩, k2⟩
 obtain ⟨n, n0, n1, rfl⟩ := k
 refine h.nm _ (seg_mem hi) _ (seg_mem hj) ⟨_, ⟨m * n, Rat.mul_nonneg m0 n0, ?_, ?_⟩, k2⟩
 ·have := Rat.mul_nonneg (show 0 ≤ 1 - m by grind) n0
  grind
 ·have e := pt_pt (a.getD i default) (nx a i) 0 n m
  have e0 : pt (a.getD i default) (nx a i) 0 = a.getD i default := Pt.ext (by unfold pt; simp only; grind) (by unfold pt; simp only; grind)
  rw [e0] at e
  show pt (a.getD i default) (pt (a.getD i default) (nx a i) n) m = _
  rw [e, show (0 : Rat) + m * (n - 0) = m * n by grind]; rfl
theorem sideS_one {l : List Pt} {q : Pt} : sideS l q = 0 ∨ sideS l q = 1 ∨ sideS l q = -1 := by
 unfold sideS
 split
 ·exact .inl rfl
 ·split
  ·exact .inr (.inl rfl)
  ·exact .inr (.inr rfl)
theorem where_eq {L : List Pt} {Hs : List (List Pt)} (h : Valid L Hs) (q : Pt) :
 (sideS L q ≤ 0 → whereS L Hs q = sideS L q) ∧ (sideS L q = 1 → ((∃ x ∈ Hs, sideS x q = 0) → whereS L Hs q = 0) ∧ ((¬ ∃ x ∈ Hs, sideS x q = 0) → (∃ x ∈ Hs, sideS x q = 1) → whereS L Hs q = -1) ∧ ((∀ x ∈ Hs, sideS x q = -1) → whereS L Hs q = 1)) := by
 have r0 : ringSide (L :: Hs) q 0 = sideS L q := rfl
 have rs : ∀ i, ringSide (L :: Hs) q (i + 1) = -sideS (Hs.getD i []) q := fun i => by
  unfold ringSide; rw [if_pos (Nat.succ_pos i), List.getD_cons_succ]
 have mem : ∀ i, i < Hs.length → Hs.getD i [] ∈ Hs := fun i hi => by rw [List.getD_eq_getElem?_getD, List.getElem?_eq_getElem hi]; exact List.getElem_mem hi
 unfold whereS
 constructor
 ·intro k
  exact firstLe_found (i := 0) (by omega) (by rw [r0]; exact k) (fun j hj => by omega)
 ·intro k
  refine ⟨?_, ?_, ?_⟩
  ·rintro ⟨x, hx, h0⟩
   have ex : ∃ i, i < Hs.length ∧ sideS (Hs.getD i []) q = 0 := by
    obtain ⟨i, hi, rfl⟩ := List.mem_iff_getElem.1 hx
    exact ⟨i, hi, by rw [List.getD_eq_getElem?_getD, List.getElem?_eq_getElem hi]; exact h0⟩
   have ex2 : ∃ i, i < Hs.length ∧ sideS (Hs.getD i []) q = 0 ∧ ∀ j, j < i → sideS (Hs.getD j []) q ≠ 0 := by
    obtain ⟨i, hi⟩ := ex
    induction i using Nat.strongRecOn with
    | _ i ih =>
     by_cases hj : ∃ j, j < i ∧ sideS (Hs.getD j []) q = 0
     ·obtain ⟨j, hj, e⟩ := hj; exact ih j hj ⟨by omega, e⟩
     ·exact ⟨i, hi.1, hi.2, fun j hji e => hj ⟨j, hji, e⟩⟩
   obtain ⟨i, hi, e, hb⟩ := ex2
   rw [firstLe_found (i := i + 1) (by omega) (by rw [rs, e]; omega) ?_, rs, e]; rfl
   intro j hj
   rcases j with _ | j
   ·rw [r0, k]; omega
   ·rw [rs]
    have ne := hb j (by omega)
    have sep : Sep (Hs.getD j []) (Hs.getD i []) := by
     have := List.pairwise_iff_getElem.1 h.pw j i (by omega) hi (by omega)
     rw [List.getD_eq_getElem?_getD, List.getD_eq_getElem?_getD, List.getElem?_eq_getElem hi, List.getElem?_eq_getElem (show j < Hs.length by omega)]
     exact this
    have hon : onE (Hs.getD i []) q := by
     refine (onB_onE (h.holes _ (mem i hi)) q).1 ?_
     unfold sideS at e
     split at e
     ·assumption
     ·split at e <;> cases e
    have of := (sep.symm.off hon).2
    unfold sideS at ne ⊢
    split
    ·rename_i hh; rw [if_pos hh] at ne; exact absurd rfl ne
    ·rw [of]; simp
  ·intro n0 hx
   have ex : ∃ i, i < Hs.length ∧ sideS (Hs.getD i []) q = 1 := by
    obtain ⟨x, hx, h0⟩ := hx
    obtain ⟨i, hi, rfl⟩ := List.mem_iff_getElem.1 hx
    exact ⟨i, hi, by rw [List.getD_eq_getElem?_getD, List.getElem?_eq_getElem hi]; exact h0⟩
   have ex2 : ∃ i, i < Hs.length ∧ sideS (Hs.getD i []) q = 1 ∧ ∀ j, j < i → sideS (Hs.getD j []) q ≠ 1 := by
    obtain ⟨i, hi⟩ := ex
    induction i using Nat.strongRecOn with
    | _ i ih =>
     by_cases hj : ∃ j, j < i ∧ sideS (Hs.getD j []) q = 1
     ·obtain ⟨j, hj, e⟩ := hj; exact ih j hj ⟨by omega, e⟩
     ·exact ⟨i, hi.1, hi.2, fun j hji e => hj ⟨j, hji, e⟩⟩
   obtain ⟨i, hi, e, hb⟩ := ex2
   rw [firstLe_found (i := i + 1) (by omega) (by rw [rs, e]; omega) ?_, rs, e]
   intro j hj
   rcases j with _ | j
   ·rw [r0, k]; omega
   ·rw [rs]
    have ne := hb j (by omega)
    have ne0 : sideS (Hs.getD j []) q ≠ 0 := fun e => n0 ⟨_, mem j (by omega), e⟩
    rcases sideS_one (l := Hs.getD j []) (q := q) with e | e | e
    ·exact absurd e ne0
    ·exact absurd e ne
    ·omega
  ·intro ha
   refine firstLe_none fun j hj => ?_
   rcases j with _ | j
   ·rw [r0, k]; omega
   ·rw [rs, ha _ (mem j (by omega))]; omega
end Go.Av
namespace Go.Av
open Go.RowKit
open Go.Proofs.Tryz (prog)
end Go.Av
