/- Helping texts: Mf, Mg. -/
import Derived.Test.YtbidkolaahnbiaaGreatKMe
set_option linter.unusedSimpArgs false
set_option linter.unusedVariables false
set_option maxRecDepth 100000
set_option maxHeartbeats 16000000
namespace Go.Av
def xsum (f : Sg → Bool) : List Sg → Bool
  | [] => false
  | s :: t => f s ^^ xsum f t
theorem xsum_app (f : Sg → Bool) (a b : List Sg) : xsum f (a ++ b) = (xsum f a ^^ xsum f b) := by
  induction a with
  | nil => simp [xsum]
  | cons s t ih => simp only [List.cons_append, xsum, ih, Bool.xor_assoc]
theorem xsum_map (f : Sg → Bool) (g : Sg → Sg) (a : List Sg) : xsum f (a.map g) = xsum (fun s => f (g s)) a := by
  induction a with
  | nil => rfl
  | cons s t ih => simp only [List.map_cons, xsum, ih]
theorem odd_xsum (L : List Pt) (p : Pt) : oddTo L p L.length = xsum (fun s => cr p s.a s.b) (edgesL L) := by
  have : ∀ i, oddTo L p i = xsum (fun s => cr p s.a s.b) ((List.range i).map (segOf L)) := by
    intro i
    induction i with
    | zero => rfl
    | succ i ih =>
      rw [List.range_succ, List.map_append, xsum_app, ← ih]
      simp only [oddTo, List.map_cons, List.map_nil, xsum, Bool.xor_false, segOf]
      exact oddStep_eq ..
  exact this _
theorem mem_edgesL {L : List Pt} {s : Sg} (h : s ∈ edgesL L) : ∃ j, j < L.length ∧ s = segOf L j := by
  obtain ⟨j, hj, rfl⟩ := List.mem_map.1 h
  exact ⟨j, List.mem_range.1 hj, rfl⟩

theorem edges_rot1 (l : List Pt) : (edgesL (rot1 l)).Perm (edgesL l) := by
  rcases Nat.eq_zero_or_pos l.length with h0 | h0
  · have : l = [] := List.length_eq_zero_iff.1 h0
    subst this
    exact List.Perm.refl _
  unfold edgesL
  rw [rot1_length]
  have e : ∀ i, i < l.length → segOf (rot1 l) i = segOf l (sc l.length i) := by
    intro i hi
    unfold segOf
    rw [nx_sc (by rw [rot1_length]; exact hi), nx_sc (sc_lt hi), rot1_length, rot1_get hi, rot1_get (sc_lt hi)]
  obtain ⟨m, hm⟩ : ∃ m, l.length = m + 1 := ⟨l.length - 1, by omega⟩
  rw [hm] at e ⊢
  have e1 : (List.range (m + 1)).map (segOf (rot1 l)) = (List.range m).map (segOf l ∘ Nat.succ) ++ [segOf l 0] := by
    rw [List.range_succ, List.map_append]
    congr 1
    · refine List.map_congr_left fun i hi => ?_
      have hi := List.mem_range.1 hi
      rw [e i (by omega)]
      unfold sc
      rw [if_neg (by omega)]
      rfl
    · simp only [List.map_cons, List.map_nil]
      rw [e m (by omega), show sc (m + 1) m = 0 by unfold sc; rw [if_pos rfl]]
  rw [e1, List.range_succ_eq_map, List.map_cons, List.map_map]
  exact List.perm_append_singleton ..
theorem edges_rev (l : List Pt) : (edgesL l.reverse).Perm ((edgesL l).map Sg.rev) := by
  have hn : l.reverse.length = l.length := List.length_reverse
  rcases Nat.eq_zero_or_pos l.length with h0 | h0
  · have : l = [] := List.length_eq_zero_iff.1 h0
    subst this
    exact List.Perm.refl _
  have e : ∀ i, i < l.length → segOf l.reverse i = (segOf l (l.length - 1 - sc l.length i)).rev := by
    intro i hi
    have s : sc l.length (l.length - 1 - sc l.length i) = l.length - 1 - i := by unfold sc; split <;> split <;> omega
    unfold segOf Sg.rev
    rw [nx_sc (by rw [hn]; exact hi), nx_sc (by omega), hn, rev_getD hi, rev_getD (sc_lt hi), s]
  unfold edgesL
  rw [hn]
  obtain ⟨m, hm⟩ : ∃ m, l.length = m + 1 := ⟨l.length - 1, by omega⟩
  rw [hm] at e ⊢
  rw [List.range_succ, List.map_append, List.map_append, List.map_append]
  refine List.Perm.append ?_ ?_
  · have : (List.range m).map (segOf l.reverse) = (((List.range m).map (segOf l)).map Sg.rev).reverse := by
      rw [List.map_map, ← range_rev]
      refine List.map_congr_left fun i hi => ?_
      have hi := List.mem_range.1 hi
      rw [e i (by omega), show m + 1 - 1 - sc (m + 1) i = m - 1 - i by unfold sc; split <;> omega]
      rfl
    rw [this]
    exact List.reverse_perm _
  · simp only [List.map_cons, List.map_nil]
    rw [e m (by omega), show m + 1 - 1 - sc (m + 1) m = m by unfold sc; split <;> omega]
structure Aff where
  a : Rat
  b : Rat
  c : Rat
  d : Rat
  e : Rat
  f : Rat
def Aff.ap (t : Aff) (p : Pt) : Pt := ⟨t.a * p.x + t.b * p.y + t.e, t.c * p.x + t.d * p.y + t.f⟩
def Aff.det (t : Aff) : Rat := t.a * t.d - t.b * t.c
theorem ar_ap (t : Aff) (u v p : Pt) : ar (t.ap u) (t.ap v) (t.ap p) = t.det * ar u v p := by unfold ar Aff.ap Aff.det; grind
theorem pt_ap (t : Aff) (u v : Pt) (m : Rat) : pt (t.ap u) (t.ap v) m = t.ap (pt u v m) := by
  refine Pt.ext ?_ ?_ <;> (unfold pt Aff.ap; simp only; grind)
theorem ap_inj {t : Aff} (h : t.det ≠ 0) {p q : Pt} (e : t.ap p = t.ap q) : p = q := by
  have e1 := congrArg Pt.x e
  have e2 := congrArg Pt.y e
  simp only [Aff.ap] at e1 e2
  unfold Aff.det at h
  refine Pt.ext ?_ ?_
  · have : (t.a * t.d - t.b * t.c) * (p.x - q.x) = 0 := by grind
    grind
  · have : (t.a * t.d - t.b * t.c) * (p.y - q.y) = 0 := by grind
    grind
theorem onSeg_ap {t : Aff} (h : t.det ≠ 0) {u v p : Pt} : onSeg (t.ap u) (t.ap v) (t.ap p) ↔ onSeg u v p := by
  constructor
  · rintro ⟨m, h0, h1, e⟩
    rw [pt_ap] at e
    exact ⟨m, h0, h1, ap_inj h e⟩
  · rintro ⟨m, h0, h1, rfl⟩
    exact ⟨m, h0, h1, (pt_ap ..).symm⟩
theorem Common_ap {t : Aff} (h : t.det ≠ 0) {a b u v : Pt} : Common (t.ap a) (t.ap b) (t.ap u) (t.ap v) ↔ Common a b u v := by
  constructor
  · rintro ⟨p, ⟨m, h0, h1, rfl⟩, ⟨k, k0, k1, e⟩⟩
    rw [pt_ap, pt_ap] at e
    exact ⟨pt a b m, ⟨m, h0, h1, rfl⟩, ⟨k, k0, k1, ap_inj h e⟩⟩
  · rintro ⟨p, h1, h2⟩
    exact ⟨t.ap p, (onSeg_ap h).2 h1, (onSeg_ap h).2 h2⟩
theorem mapP_getD {l : List Pt} {g : Pt → Pt} {i : Nat} (h : i < l.length) : (l.map g).getD i default = g (l.getD i default) := by
  rw [List.getD_eq_getElem?_getD, List.getElem?_map, List.getD_eq_getElem?_getD, List.getElem?_eq_getElem h]; rfl
theorem Good.map {l : List Pt} (h : Good l) {t : Aff} (ht : t.det ≠ 0) : Good (l.map t.ap) := by
  have hn : (l.map t.ap).length = l.length := List.length_map ..
  refine ⟨by rw [hn]; exact h.lo, fun i hi => ?_, fun i hi => ?_, fun i k hi hk h0 h1 h2 => ?_⟩
  · rw [hn] at hi ⊢
    rw [mapP_getD hi, mapP_getD (sc_lt hi)]
    exact fun e => h.ne i hi (ap_inj ht e)
  · rw [hn] at hi ⊢
    rw [mapP_getD hi, mapP_getD (sc_lt hi), mapP_getD (sc_lt (sc_lt hi)), ar_ap]
    have := h.fl i hi
    intro e
    rcases Rat.mul_eq_zero.1 e with e | e
    · exact ht e
    · exact this e
  · rw [hn] at hi hk h1 h2 ⊢
    rw [mapP_getD hi, mapP_getD (sc_lt hi), mapP_getD hk, mapP_getD (sc_lt hk), Common_ap ht]
    exact h.cr i k hi hk h0 h1 h2
def Sg.map (s : Sg) (g : Pt → Pt) : Sg := ⟨g s.a, g s.b⟩
theorem edges_map (l : List Pt) (g : Pt → Pt) : edgesL (l.map g) = (edgesL l).map fun s => s.map g := by
  unfold edgesL
  rw [List.length_map, List.map_map]
  refine List.map_congr_left fun i hi => ?_
  have hi := List.mem_range.1 hi
  unfold segOf Sg.map
  simp only [Function.comp]
  rw [nx_sc (by rw [List.length_map]; exact hi), nx_sc hi, List.length_map, mapP_getD hi, mapP_getD (sc_lt hi)]
/-- The parity is kept by a map. -/
def Par (t : Aff) : Prop := t.det ≠ 0 ∧ ∀ (L : List Pt) (p : Pt), (∀ s ∈ edgesL L, ¬ onSeg s.a s.b p) → oddTo (L.map t.ap) (t.ap p) (L.map t.ap).length = oddTo L p L.length
theorem Par.of {t : Aff} (h : t.det ≠ 0) (hc : ∀ (L : List Pt) (p : Pt), (∀ s ∈ edgesL L, ¬ onSeg s.a s.b p) → xsum (fun s => cr (t.ap p) (t.ap s.a) (t.ap s.b)) (edgesL L) = xsum (fun s => cr p s.a s.b) (edgesL L)) : Par t :=
  ⟨h, fun L p hp => by rw [odd_xsum, odd_xsum, edges_map, xsum_map]; exact hc L p hp⟩
theorem Par.comp {t s r : Aff} (ht : Par t) (hs : Par s) (hr : ∀ p, r.ap p = s.ap (t.ap p)) (hd : r.det ≠ 0) : Par r := by
  refine ⟨hd, fun L p hp => ?_⟩
  have e : L.map r.ap = (L.map t.ap).map s.ap := by rw [List.map_map]; exact List.map_congr_left fun p _ => hr p
  rw [e, hr, hs.2 (L.map t.ap) (t.ap p) ?_, ht.2 L p hp]
  intro g hg
  rw [edges_map] at hg
  obtain ⟨g0, h0, rfl⟩ := List.mem_map.1 hg
  exact fun k => hp g0 h0 ((onSeg_ap ht.1).1 k)
end Go.Av
set_option maxRecDepth 100000
set_option maxHeartbeats 16000000
namespace Go.Av
end Go.Av
