/- Helping texts: Mm. -/
import Derived.Test.YtbidkolaahnbiaaGreatKMk
import Derived.Test.YtbidkolaahnbiaaGreatKMh
set_option linter.unusedSimpArgs false
set_option linter.unusedVariables false
namespace Go.Av
open Go.RowKit
open Go.Proofs.Tryz (prog)
theorem Good.apart {L : List Pt} (h : Good L) : (edgesL L).Pairwise fun e f => ∀ q, onSeg e.a e.b q → onSeg f.a f.b q → q = e.a ∨ q = e.b := by
  unfold edgesL
  rw [List.pairwise_map]
  refine (List.Pairwise.and_mem.1 (List.pairwise_lt_range)).imp ?_
  rintro i k ⟨hi, hk, hik⟩
  have hi := List.mem_range.1 hi
  have hk := List.mem_range.1 hk
  rw [segOf_sc hi, segOf_sc hk]
  simp only
  intro q q1 q2
  have hlo := h.lo
  by_cases h1 : sc L.length i = k
  · subst h1
    have fl := h.fl i hi
    obtain ⟨m, _, _, rfl⟩ := q1
    obtain ⟨t, _, _, e⟩ := q2
    have e1 : ar (L.getD i default) (L.getD (sc L.length i) default) (pt (L.getD i default) (L.getD (sc L.length i) default) m) = 0 := by unfold ar pt; simp only; grind
    rw [e, pt_ar_l] at e1
    rcases Rat.mul_eq_zero.1 e1 with e2 | e2
    · right; rw [e, e2]; refine Pt.ext ?_ ?_ <;> (unfold pt; simp only; grind)
    · exact absurd e2 fl
  · by_cases h2 : sc L.length k = i
    · subst h2
      have fl := h.fl k hk
      obtain ⟨m, _, _, rfl⟩ := q1
      obtain ⟨t, _, _, e⟩ := q2
      have e1 : ar (L.getD k default) (L.getD (sc L.length k) default) (pt (L.getD k default) (L.getD (sc L.length k) default) t) = 0 := by unfold ar pt; simp only; grind
      rw [← e, pt_ar_l] at e1
      rcases Rat.mul_eq_zero.1 e1 with e2 | e2
      · left; rw [e2]; refine Pt.ext ?_ ?_ <;> (unfold pt; simp only; grind)
      · exact absurd e2 fl
    · exact absurd ⟨q, q1, q2⟩ (h.cr i k hi hk (by omega) h1 h2)
theorem edges_closed (L : List Pt) : ((edgesL L).map Sg.b).Perm ((edgesL L).map Sg.a) := by rw [edgesL_a]; exact edgesL_b L
theorem up_rev {s : Sg} (h : s.a.y ≠ s.b.y) : s.rev.up = !s.up := by
  unfold Sg.up Sg.rev
  simp only
  rcases lt_tri s.a.y s.b.y with k | k | k
  · rw [decide_eq_true k, decide_eq_false (by grind)]; rfl
  · exact absurd k h
  · rw [decide_eq_true k, decide_eq_false (by grind)]; rfl
theorem pt_rev (a b : Pt) (m : Rat) : pt b a m = pt a b (1 - m) := by refine Pt.ext ?_ ?_ <;> (unfold pt; simp only; grind)
theorem apart_rev {E : List Sg} (h : E.Pairwise fun e f => ∀ q, onSeg e.a e.b q → onSeg f.a f.b q → q = e.a ∨ q = e.b) : (E.map Sg.rev).Pairwise fun e f => ∀ q, onSeg e.a e.b q → onSeg f.a f.b q → q = e.a ∨ q = e.b := by
  rw [List.pairwise_map]
  exact h.imp fun {e f} hq q q1 q2 => (hq q (onSeg_rev q1) (onSeg_rev q2)).symm
theorem steep_rev {E : List Sg} (h : Steep E) : Steep (E.map Sg.rev) := by
  intro s hs
  obtain ⟨s0, h0, rfl⟩ := List.mem_map.1 hs
  exact fun e => h s0 h0 e.symm
theorem map_rev_a (E : List Sg) : (E.map Sg.rev).map Sg.a = E.map Sg.b := by rw [List.map_map]; rfl
theorem map_rev_b (E : List Sg) : (E.map Sg.rev).map Sg.b = E.map Sg.a := by rw [List.map_map]; rfl
/-- The sign of the area tells on which side the interior lies. -/
theorem side_area {L : List Pt} (h : Good L) (hz : Steep (edgesL L)) : areaL L ≠ 0 ∧ (0 < areaL L → ∀ s ∈ edgesL L, ∀ m : Rat, 0 < m → m < 1 → oddTo L (pt s.a s.b m) L.length = (true ^^ s.up)) := by
  obtain ⟨c, hc⟩ := side_all h hz
  have hlo := h.lo
  have hne : edgesL L ≠ [] := by
    intro e
    have : (edgesL L).length = L.length := by simp [edgesL]
    rw [e] at this; simp at this; omega
  cases c with
  | true =>
    have l : Lefts (edgesL L) := ⟨hz, edges_closed L, h.apart, fun e he m m0 m1 => by rw [← odd_xsum]; exact hc e he m m0 m1⟩
    have p := l.pos hne
    refine ⟨?_, fun _ s hs m m0 m1 => hc s hs m m0 m1⟩
    rw [area_esum]; grind
  | false =>
    have l : Lefts ((edgesL L).map Sg.rev) := by
      refine ⟨steep_rev hz, ?_, apart_rev h.apart, fun e he m m0 m1 => ?_⟩
      · rw [map_rev_a, map_rev_b]; exact (edges_closed L).symm
      · obtain ⟨e0, h0, rfl⟩ := List.mem_map.1 he
        rw [up_rev (hz e0 h0), xsum_map]
        have := hc e0 h0 (1 - m) (by grind) (by grind)
        rw [odd_xsum] at this
        rw [show pt e0.rev.a e0.rev.b m = pt e0.a e0.b (1 - m) from pt_rev ..]
        rw [xsum_congr (f := fun s => cr (pt e0.a e0.b (1 - m)) s.rev.a s.rev.b) (g := fun s => cr (pt e0.a e0.b (1 - m)) s.a s.b) fun s _ => cr_symm .., this]
        unfold Sg.up
        cases decide (e0.a.y < e0.b.y) <;> rfl
    have p := l.pos (by intro e; exact hne (List.map_eq_nil_iff.1 e))
    rw [esum_neg] at p
    rw [area_esum]
    constructor
    · grind
    · intro k; grind

def shy (k : Rat) : Aff := ⟨1, 0, k, 1, 0, 0⟩
theorem shy_det (k : Rat) : (shy k).det = 1 := by unfold Aff.det shy; simp only; grind
theorem steep_shear (E : List Sg) (hne : ∀ s ∈ E, s.a ≠ s.b) : ∃ k : Rat, Steep (E.map fun s => s.map (shy k).ap) := by
  obtain ⟨k, hk⟩ := bound_high (E.map fun s => -(s.a.y - s.b.y) / (s.a.x - s.b.x))
  refine ⟨k, fun s hs => ?_⟩
  obtain ⟨s0, h0, rfl⟩ := List.mem_map.1 hs
  have h1 := hk _ (List.mem_map.2 ⟨s0, h0, rfl⟩)
  have h2 := hne s0 h0
  unfold Sg.map Aff.ap shy
  simp only
  intro e
  by_cases hx : s0.a.x = s0.b.x
  · exact h2 (Pt.ext hx (by rw [hx] at e; grind))
  · have hd : s0.a.x - s0.b.x ≠ 0 := fun e => hx (by grind)
    have : -(s0.a.y - s0.b.y) / (s0.a.x - s0.b.x) = k := by grind
    rw [this] at h1
    exact Rat.lt_irrefl h1
theorem Good.seg_ne {L : List Pt} (h : Good L) : ∀ s ∈ edgesL L, s.a ≠ s.b := by
  intro s hs
  obtain ⟨i, hi, rfl⟩ := mem_edgesL hs
  rw [segOf_sc hi]
  exact h.ne i hi
theorem xsum_none {f : Sg → Bool} : ∀ {E : List Sg}, (∀ s ∈ E, f s = false) → xsum f E = false
  | [], _ => rfl
  | s :: E, h => by simp only [xsum]; rw [h s (List.mem_cons_self ..), xsum_none fun s hs => h s (List.mem_cons_of_mem _ hs)]; rfl
theorem edges_mem {L : List Pt} {s : Sg} (h : s ∈ edgesL L) : s.a ∈ L ∧ s.b ∈ L := by
  constructor
  · have : s.a ∈ (edgesL L).map Sg.a := List.mem_map.2 ⟨s, h, rfl⟩
    rwa [edgesL_a] at this
  · exact (edgesL_b L).mem_iff.1 (List.mem_map.2 ⟨s, h, rfl⟩)
theorem odd_top {L : List Pt} {p : Pt} (h : ∀ v ∈ L, v.y ≤ p.y) : oddTo L p L.length = false := by
  rw [odd_xsum]
  refine xsum_none fun s hs => ?_
  obtain ⟨h1, h2⟩ := edges_mem hs
  exact cr_lo (Rat.not_lt.2 (h _ h1)) (Rat.not_lt.2 (h _ h2))
theorem top_of : ∀ {L : List Pt}, L ≠ [] → ∃ p ∈ L, ∀ v ∈ L, v.y ≤ p.y
  | [p], _ => ⟨p, List.mem_cons_self .., fun v hv => by rw [List.mem_singleton.1 hv]; exact Rat.le_refl⟩
  | p :: q :: L, _ => by
    obtain ⟨t, ht, h⟩ := top_of (L := q :: L) (by simp)
    rcases Rat.le_total (a := p.y) (b := t.y) with k | k
    · exact ⟨t, List.mem_cons_of_mem _ ht, fun v hv => by
        rcases List.mem_cons.1 hv with rfl | hv
        · exact k
        · exact h v hv⟩
    · exact ⟨p, List.mem_cons_self .., fun v hv => by
        rcases List.mem_cons.1 hv with rfl | hv
        · exact Rat.le_refl
        · exact Rat.le_trans (h v hv) k⟩
/-- What encloses a ring lies outside of it. -/
theorem around {h L : List Pt} (nm : NoMeet h L) (h0 : h ≠ []) (L0 : L ≠ []) (hin : ∀ p ∈ h, oddTo L p L.length = true) : ∀ p ∈ L, oddTo h p h.length = false := by
  obtain ⟨t, ht, tt⟩ := top_of L0
  obtain ⟨u, hu, uu⟩ := top_of h0
  have hlt : u.y ≤ t.y := by
    refine Rat.not_lt.1 fun k => ?_
    have := odd_top (L := L) (p := u) fun v hv => Rat.le_trans (tt v hv) (Rat.le_of_lt k)
    rw [hin u hu] at this; cases this
  have ot := odd_top (L := h) (p := t) fun v hv => Rat.le_trans (uu v hv) hlt
  intro p hp
  obtain ⟨i, hi, rfl⟩ := mem_getD hp
  obtain ⟨j, hj, rfl⟩ := mem_getD ht
  rw [odd_const nm.symm hi, ← odd_const nm.symm hj]
  exact ot
/-- A ring with rings in it. -/
structure Nest (L : List Pt) (Hs : List (List Pt)) : Prop where
  out : Good L
  pos : 0 < areaL L
  holes : ∀ h ∈ Hs, Good h ∧ 0 < areaL h
  mo : ∀ h ∈ Hs, NoMeet h L
  wo : ∀ h ∈ Hs, ∀ p ∈ h, oddTo L p L.length = true
  ow : ∀ h ∈ Hs, ∀ p ∈ L, oddTo h p h.length = false
  pw : Hs.Pairwise Sep
theorem Valid.nest {L : List Pt} {Hs : List (List Pt)} (h : Valid L Hs) : Nest L Hs :=
  ⟨h.out.good, h.out.areaPos, fun l hl => ⟨(h.holes l hl).good, (h.holes l hl).areaPos⟩, h.mo, h.wo, fun l hl => around (h.mo l hl) (h.holes l hl).ne h.out.ne (h.wo l hl), h.pw⟩
theorem odd_mapP {t : Aff} (ht : Par t) {l : List Pt} {p : Pt} (hp : ∀ s ∈ edgesL l, ¬ onSeg s.a s.b p) : oddTo (l.map t.ap) (t.ap p) (l.map t.ap).length = oddTo l p l.length := ht.2 l p hp
theorem Nest.map {L : List Pt} {Hs : List (List Pt)} (h : Nest L Hs) {t : Aff} (ht : Par t) (hd : 0 < t.det) : Nest (L.map t.ap) (Hs.map fun l => l.map t.ap) := by
  have ar : ∀ l, 0 < areaL l → 0 < areaL (l.map t.ap) := fun l hl => by rw [area_ap]; exact Rat.mul_pos hd hl
  refine ⟨h.out.map ht.1, ar _ h.pos, fun l hl => ?_, fun l hl => ?_, fun l hl p hp => ?_, fun l hl p hp => ?_, ?_⟩
  · obtain ⟨l, h1, rfl⟩ := List.mem_map.1 hl
    exact ⟨(h.holes l h1).1.map ht.1, ar _ (h.holes l h1).2⟩
  · obtain ⟨l, h1, rfl⟩ := List.mem_map.1 hl
    exact (h.mo l h1).map ht.1
  · obtain ⟨l, h1, rfl⟩ := List.mem_map.1 hl
    obtain ⟨p, h2, rfl⟩ := List.mem_map.1 hp
    rw [odd_mapP ht ((h.mo l h1).freeP h2)]; exact h.wo l h1 p h2
  · obtain ⟨l, h1, rfl⟩ := List.mem_map.1 hl
    obtain ⟨p, h2, rfl⟩ := List.mem_map.1 hp
    rw [odd_mapP ht ((h.mo l h1).symm.freeP h2)]; exact h.ow l h1 p h2
  · rw [List.pairwise_map]
    refine h.pw.imp fun {a b} s => ⟨s.nm.map ht.1, fun p hp => ?_, fun p hp => ?_⟩
    · obtain ⟨p, h2, rfl⟩ := List.mem_map.1 hp
      rw [odd_mapP ht (s.nm.symm.freeP h2)]; exact s.ab p h2
    · obtain ⟨p, h2, rfl⟩ := List.mem_map.1 hp
      rw [odd_mapP ht (s.nm.freeP h2)]; exact s.ba p h2
def holesE : List (List Pt) → List Sg
  | [] => []
  | h :: t => (edgesL h).map Sg.rev ++ holesE t
def holesO (p : Pt) : List (List Pt) → Bool
  | [] => false
  | h :: t => oddTo h p h.length ^^ holesO p t
theorem holesE_mem {Hs : List (List Pt)} {s : Sg} (h : s ∈ holesE Hs) : ∃ l ∈ Hs, ∃ s0 ∈ edgesL l, s = s0.rev := by
  induction Hs with
  | nil => cases h
  | cons a t ih =>
    rcases List.mem_append.1 h with h | h
    · obtain ⟨s0, h0, rfl⟩ := List.mem_map.1 h
      exact ⟨a, List.mem_cons_self .., s0, h0, rfl⟩
    · obtain ⟨l, hl, r⟩ := ih h
      exact ⟨l, List.mem_cons_of_mem _ hl, r⟩
theorem holesE_xsum (p : Pt) : ∀ Hs, xsum (fun s => cr p s.a s.b) (holesE Hs) = holesO p Hs
  | [] => rfl
  | h :: t => by
    simp only [holesE, holesO]
    rw [xsum_app, holesE_xsum p t, xsum_map, odd_xsum]
    congr 1
    exact xsum_congr fun s _ => cr_symm ..
theorem holesE_esum : ∀ Hs, esum (holesE Hs) = -(2 * lsum areaL Hs)
  | [] => by simp only [holesE, esum, lsum]; grind
  | h :: t => by
    simp only [holesE, lsum]
    rw [esum_app, esum_neg, holesE_esum t, area_esum]
    grind
theorem holesE_closed : ∀ Hs, ((holesE Hs).map Sg.b).Perm ((holesE Hs).map Sg.a)
  | [] => List.Perm.refl _
  | h :: t => by
    simp only [holesE]
    rw [List.map_append, List.map_append, map_rev_a, map_rev_b]
    exact (edges_closed h).symm.append (holesE_closed t)
theorem holesO_none {p : Pt} : ∀ {Hs : List (List Pt)}, (∀ h ∈ Hs, oddTo h p h.length = false) → holesO p Hs = false
  | [], _ => rfl
  | h :: t, hh => by simp only [holesO]; rw [hh h (List.mem_cons_self ..), holesO_none fun l hl => hh l (List.mem_cons_of_mem _ hl)]; rfl
theorem odd_edge {A B : List Pt} (h : NoMeet A B) {s : Sg} (hs : s ∈ edgesL A) {p : Pt} (hp : onSeg s.a s.b p) : oddTo B p B.length = oddTo B s.a B.length := by
  refine (odd_same fun j hj => ?_).symm
  rintro ⟨q, q1, q2⟩
  refine h s hs (segOf B j) (seg_mem hj) ⟨q, ?_, q2⟩
  obtain ⟨m, m0, m1, rfl⟩ := hp
  obtain ⟨k, k0, k1, rfl⟩ := q1
  have h1 := Rat.mul_nonneg k0 m0
  have h2 := Rat.mul_nonneg (show 0 ≤ 1 - k by grind) m0
  refine ⟨k * m, h1, by grind, ?_⟩
  refine Pt.ext ?_ ?_ <;> (unfold pt; simp only; grind)
theorem holesO_one {p : Pt} {s : Sg} (hp : onSeg s.a s.b p) {l : List Pt} (hs : s ∈ edgesL l) : ∀ {Hs : List (List Pt)}, Hs.Pairwise Sep → l ∈ Hs → holesO p Hs = oddTo l p l.length
  | a :: t, hw, hl => by
    obtain ⟨w1, w2⟩ := List.pairwise_cons.1 hw
    simp only [holesO]
    rcases List.mem_cons.1 hl with rfl | hl
    · rw [holesO_none, Bool.xor_false]
      intro h hh
      have s' := w1 h hh
      rw [odd_edge s'.nm hs hp]
      exact s'.ba _ (edges_mem hs).1
    · rw [holesO_one hp hs w2 hl]
      have s' := w1 l hl
      rw [odd_edge s'.nm.symm hs hp, s'.ab _ (edges_mem hs).1, Bool.false_xor]
theorem Nest.lefts {L : List Pt} {Hs : List (List Pt)} (h : Nest L Hs) (z1 : Steep (edgesL L)) (z2 : Steep (holesE Hs)) : Lefts (edgesL L ++ holesE Hs) := by
  have memE : ∀ {l : List Pt}, l ∈ Hs → ∀ {s : Sg}, s ∈ edgesL l → s.rev ∈ holesE Hs := by
    intro l hl s hs
    clear z1 z2 h
    induction Hs with
    | nil => cases hl
    | cons a t ih =>
      rcases List.mem_cons.1 hl with rfl | hl
      · exact List.mem_append.2 (.inl (List.mem_map.2 ⟨s, hs, rfl⟩))
      · exact List.mem_append.2 (.inr (ih hl))
  have zl : ∀ l ∈ Hs, Steep (edgesL l) := fun l hl s hs e => z2 _ (memE hl hs) e.symm
  refine ⟨fun s hs => ?_, ?_, ?_, fun e he m m0 m1 => ?_⟩
  · rcases List.mem_append.1 hs with k | k
    · exact z1 s k
    · exact z2 s k
  · rw [List.map_append, List.map_append]
    exact (edges_closed L).append (holesE_closed Hs)
  · rw [List.pairwise_append]
    refine ⟨h.out.apart, ?_, fun e he f hf q q1 q2 => ?_⟩
    · have pw := h.pw
      have ho := h.holes
      clear z1 z2 zl memE h
      induction Hs with
      | nil => exact List.Pairwise.nil
      | cons a t ih =>
        obtain ⟨w1, w2⟩ := List.pairwise_cons.1 pw
        simp only [holesE]
        rw [List.pairwise_append]
        refine ⟨apart_rev (ho a (List.mem_cons_self ..)).1.apart, ih w2 fun l hl => ho l (List.mem_cons_of_mem _ hl), fun e he f hf q q1 q2 => ?_⟩
        obtain ⟨e0, k1, rfl⟩ := List.mem_map.1 he
        obtain ⟨l, hl, f0, k2, rfl⟩ := holesE_mem hf
        exact absurd ⟨q, onSeg_rev q1, onSeg_rev q2⟩ ((w1 l hl).nm e0 k1 f0 k2)
    · obtain ⟨l, hl, f0, k2, rfl⟩ := holesE_mem hf
      exact absurd ⟨q, onSeg_rev q2, q1⟩ (h.mo l hl f0 k2 e he)
  · rw [xsum_app, holesE_xsum, ← odd_xsum]
    rcases List.mem_append.1 he with k | k
    · have hp : onSeg e.a e.b (pt e.a e.b m) := ⟨m, Rat.le_of_lt m0, Rat.le_of_lt m1, rfl⟩
      rw [(side_area h.out z1).2 h.pos e k m m0 m1, holesO_none, Bool.xor_false]
      intro l hl
      rw [odd_edge (h.mo l hl).symm k hp]
      exact h.ow l hl _ (edges_mem k).1
    · obtain ⟨l, hl, e0, k2, rfl⟩ := holesE_mem k
      rw [show pt e0.rev.a e0.rev.b m = pt e0.a e0.b (1 - m) from pt_rev ..]
      have hp : onSeg e0.a e0.b (pt e0.a e0.b (1 - m)) := ⟨1 - m, by grind, by grind, rfl⟩
      rw [odd_edge (h.mo l hl) k2 hp, h.wo l hl _ (edges_mem k2).1, holesO_one hp k2 h.pw hl,
        (side_area (h.holes l hl).1 (zl l hl)).2 (h.holes l hl).2 e0 k2 (1 - m) (by grind) (by grind), up_rev (zl l hl e0 k2)]
      cases e0.up <;> rfl
theorem holesE_map (g : Pt → Pt) : ∀ Hs, holesE (Hs.map fun l => l.map g) = (holesE Hs).map fun s => s.map g
  | [] => rfl
  | h :: t => by
    simp only [List.map_cons, holesE]
    rw [holesE_map g t, edges_map, List.map_append, List.map_map, List.map_map]; rfl
theorem lsum_map {L : List (List Pt)} {t : Aff} : lsum areaL (L.map fun l => l.map t.ap) = t.det * lsum areaL L := by
  induction L with
  | nil => simp only [List.map_nil, lsum]; grind
  | cons a L ih => simp only [List.map_cons, lsum, ih, area_ap]; grind
/-- The area of a valid polygon is positive. -/
theorem Valid.areaPos {L : List Pt} {Hs : List (List Pt)} (h : Valid L Hs) : 0 < areaL L - lsum areaL Hs := by
  have n := h.nest
  obtain ⟨k, hk⟩ := steep_shear (edgesL L ++ holesE Hs) fun s hs => by
    rcases List.mem_append.1 hs with q | q
    · exact n.out.seg_ne s q
    · obtain ⟨l, hl, e0, k2, rfl⟩ := holesE_mem q
      exact fun e => (n.holes l hl).1.seg_ne e0 k2 e.symm
  rw [List.map_append] at hk
  have n2 := n.map (par_shy k) (show 0 < (shy k).det by rw [shy_det]; decide +kernel)
  have l2 := n2.lefts (by rw [edges_map]; exact fun s hs => hk s (List.mem_append.2 (.inl hs))) (by rw [holesE_map]; exact fun s hs => hk s (List.mem_append.2 (.inr hs)))
  have p := l2.pos (by
    intro e
    have e2 := (List.append_eq_nil_iff.1 e).1
    have : (edgesL (L.map (Aff.ap ⟨1, 0, k, 1, 0, 0⟩))).length = L.length := by simp [edgesL]
    rw [e2] at this
    have := n.out.lo
    simp at *; omega)
  rw [esum_app, holesE_esum, lsum_map] at p
  have e := area_ap L (shy k)
  rw [area_esum] at e
  have d := shy_det k
  unfold shy at d e
  rw [d] at e p
  grind
end Go.Av
