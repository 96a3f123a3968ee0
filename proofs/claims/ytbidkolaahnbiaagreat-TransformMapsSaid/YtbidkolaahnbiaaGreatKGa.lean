/- Helping texts: Gb, Gc, Ga, Gd, Ge, Gf, Gg. -/
import Derived.Test.YtbidkolaahnbiaaGreatKFd
import Derived.Test.YtbidkolaahnbiaaGreatKMh
import Derived.Test.YtbidkolaahnbiaaGreatKDh
import Derived.Test.YtbidkolaahnbiaaGreatKMb
set_option linter.unusedSimpArgs false
set_option linter.unusedVariables false
set_option maxRecDepth 100000
set_option maxHeartbeats 16000000
namespace Go.Av
open Go.RowKit
open Go.Proofs.Tryz (prog)
def Frz (K : V → Hp → Prop) (r : V) (H' : Hp) : Prop := ∃ b sz es u, get H' b = some (.row sz true es) ∧ view ((List.replicate H'.length none).set b (some (.row sz true es))) 9 r = some u ∧ K u (H'.set b none)
theorem SC_frozen {P : Program} {H : Hp} {f : FuncId} {args : List V} {K : V → Hp → Prop} (h : SC P f args H (Frz K)) : SC P f args H K := by
 intro φ I w xs hS hxs
 obtain ⟨h1, h2⟩ := h φ I w xs hS hxs
 refine ⟨h1, h2.mono ?_⟩
 rintro e w' ⟨x, r, H', φ', I', rfl, ⟨b, sz, es, u, hb, hv, hK⟩, hx, hS', hst⟩
 have hbl := get_lt hb
 have gM : ∀ c k, get ((List.replicate H'.length none).set b (some (.row sz true es))) c = some k → c = b ∧ k = .row sz true es := by
  intro c k h
  unfold get at h
  rw [List.getElem?_set] at h
  split at h
  ·rename_i e
   rw [if_pos (by rw [List.length_replicate]; exact hbl)] at h
   exact ⟨e.symm, by cases h; rfl⟩
  ·rw [List.getElem?_replicate] at h
   split at h <;> cases h
 have hM : SR φ' I' ((List.replicate H'.length none).set b (some (.row sz true es))) w' := by
  refine ⟨fun c L h => ⟨by simpa using (hS'.dom c L h).1, (hS'.dom c L h).2⟩, hS'.imm, fun c L k h hk => ?_, fun c c' L L' k k' _ _ h3 h4 _ _ _ => ?_⟩
  ·obtain ⟨rfl, rfl⟩ := gM c k hk
   exact hS'.blk c L _ h hb
  ·rw [(gM c k h3).1, (gM c' k' h4).1]
 have key : ∀ J : Nat → Prop, SR φ' J (H'.set b none) w' → Step φ' I' H' w' φ' J (H'.set b none) w' → (∀ B, I' B → J B) → (∀ L, φ' b = some L → J L.B) → Ends φ I H w K (.returned x) w' := by
  intro J hJ hst2 hIJ hJb
  refine ⟨x, u, H'.set b none, φ', J, rfl, hK, ?_, hJ, hst.trans hst2⟩
  refine (view_VR hIJ hM 9 r u x hv hx (.inr fun c L k h hk => ?_)).any
  obtain ⟨rfl, _⟩ := gM c k hk
  exact hJb L h
 cases hφ : φ' b with
 | none =>
  have hse : H'.set b none = setH H' b none := (setH_lt _ hbl).symm
  obtain ⟨k1, k2⟩ := hS'.kill hbl
  rw [← hse] at k1 k2
  exact key I' k1 k2 (fun _ h => h) (fun L h => by rw [hφ] at h; cases h)
 | some L =>
  obtain ⟨k1, k2⟩ := hS'.freeze hφ hb
  exact key _ k1 k2 (fun _ h => .inl h) (fun L' h => by rw [hφ] at h; cases h; exact .inr rfl)
theorem view_rows {n b k sz : Nat} {fx : Bool} {es : List (List V)} (hb : b < n) (hk : es.length = k) (hp : Prims es) : view ((List.replicate n none).set b (some (.row sz true es))) 9 (.sref b 0 k k sz fx) = some (.lst sz es) := by
 have g : get ((List.replicate n (none : Option Blk)).set b (some (.row sz true es))) b = some (.row sz true es) := get_eq (by rw [List.length_replicate]; exact hb)
 have k3 := @viewLL_prims ((List.replicate n (none : Option Blk)).set b (some (.row sz true es))) 7 es hp
 have k2 : es.take k = es := by rw [List.take_of_length_le (by omega)]
 simp only [view, g, Nat.zero_add, hk, Nat.le_refl, if_true, List.drop_zero, k2, k3, Option.map_some]
def MapsTo (F : FuncId) (caps : List V) (g : Pt → Pt) (D : Pt → Prop) (H : Hp) : Prop :=
 ∀ H', Ext H H' → ∀ q, D q → ∀ K : V → Hp → Prop, (∀ H'', Ext H' H'' → K (pV (g q)) H'') → SC prog F (pV q :: caps) H' K
theorem pts_getD {l : List Pt} {i : Nat} (h : i < l.length) : (l.map pc).getD i [] = pc (l.getD i default) := by
 rw [List.getD_eq_getElem?_getD, pcr_get h]; rfl
theorem ring_sc (l : List Pt) (hne : l ≠ []) (hn : l.length ≤ 2 ^ 20) {F : FuncId} {caps : List V} {g : Pt → Pt} {D : Pt → Prop} {bf : Nat} {H : Hp} {K : V → Hp → Prop} (hb : get H bf = some (.row 1 true [[.clo F [] caps]]))
 (hF : MapsTo F caps g D H) (hD : ∀ p ∈ l, D p) (hK : ∀ H', Ext H H' → K (psV (l.map g)) H') : SC prog 169 [psV l, .ptr bf 0 0] H K := by
 refine SC_frozen ?_
 have hlm : (l.map pc).length = l.length := List.length_map ..
 refine SCi ?_
 conv in trip _ _ => cbv
 simp only [runT, RN, simprocAttr]
 simp (disch := omega) only [↓RS, RZ, simprocAttr, psV, hlm]
 refine wp_lp (fun (s : Nat × V) J => ov [(0, .lst 6 (l.map pc)), (1, .ptr bf 0 0), (3, .prim (.slice none 0 0)), (4, s.2), (7, .lst 6 (l.map pc)), (8, .prim (.int .i64 ((l.length : Nat) : Int))), (9, .prim (.int .i64 ((s.1 : Nat) : Int)))] J 0 21) (fun s H1 => s.1 ≤ l.length ∧ Ext H H1 ∧ Bufn H.length H1 s.2 6 ((l.take s.1).map fun p => pc (g p))) (fun s => l.length - s.1) (0, .prim (.slice none 0 0)) rfl ⟨Nat.zero_le _, Ext.refl, .nil (Nat.le_refl _)⟩ ?_
 rintro ⟨i, v⟩ J H1 ⟨hi, hE, hB⟩
 try conv in ov _ _ _ _ => simp only [ov, List.lookup, RO, simprocAttr]
 simp only at hi hE hB ⊢
 have d1 := hB.one
 have d2 := hB.cel
 rcases Nat.lt_or_ge i l.length with hlt | hge
 ·have q := pts_getD hlt
  have hm : l.getD i default ∈ l := by rw [List.getD_eq_getElem?_getD, List.getElem?_eq_getElem hlt]; exact List.getElem_mem hlt
  have hb1 : ∀ x, get (H1 ++ [x]) bf = some (.row 1 true [[.clo F [] caps]]) := fun x => get_app (hE.get hb)
  have htl : (l.take i).length = i := by rw [List.length_take]; omega
  simp (disch := omega) only [↓RS, RZ, simprocAttr, hlm, q, pc, set_app_len, get_app_len, hb1]
  refine call_sc (hF _ (hE.trans (Ext.app _)) (l.getD i default) (hD _ hm) _ ?_)
  intro H2 hE2
  have hB2 : Bufn H.length H2 v 6 ((l.take i).map fun p => pc (g p)) := hE2.buf (hB.app _)
  simp (disch := omega) only [↓RS, RZ, simprocAttr, pV, ptV, d1, d2]
  refine Bufn.append (hB2.app _) (by simp [cellV]) (by simp only [List.length_cons, List.length_nil, List.length_map, htl]; omega) (by simp only [List.length_cons, List.length_nil, List.length_map, htl]; omega) ?_
  intro v' H3 hb3 hk
  have e1 := hb3.one
  have e2 := hb3.cel
  simp (disch := omega) only [↓RS, RZ, simprocAttr, e1, e2]
  have hE3 : Ext H H3 := ⟨hb3.1, fun {c k} h => hk _ _ (get_lt_len h) (get_app (hE2.get (get_app (hE.get h))))⟩
  refine lp_next (i + 1, v') rfl ⟨hlt, hE3, ?_⟩ (by simp only; omega)
  have e : (l.take (i + 1)).map (fun p => pc (g p)) = (l.take i).map (fun p => pc (g p)) ++ [pc (g (l.getD i default))] := by
   rw [List.take_add_one, List.getElem?_eq_getElem hlt, List.map_append, List.getD_eq_getElem?_getD, List.getElem?_eq_getElem hlt]; rfl
  show Bufn H.length H3 v' 6 ((l.take (i + 1)).map fun p => pc (g p))
  rw [e]
  exact hb3
 ·have hia : i = l.length := by omega
  subst hia
  rw [List.take_of_length_le (Nat.le_refl _)] at hB
  have hml : (l.map fun p => pc (g p)).length = l.length := List.length_map ..
  obtain ⟨b, hbn, rfl, hgb⟩ := hB.cases (by intro e; rw [e] at hml; exact hne (List.length_eq_zero_iff.1 hml.symm))
  have hbl := get_lt_len hgb
  rw [hml]
  simp (disch := omega) only [↓RS, RZ, simprocAttr, hlm]
  have em : l.map (fun p => pc (g p)) = (l.map g).map pc := by rw [List.map_map]; rfl
  rw [em] at hgb hml
  refine ⟨b, 6, (l.map g).map pc, _, hgb, view_rows hbl hml (pc_prims _), ?_⟩
  exact hK _ ⟨by rw [List.length_set]; exact hE.len, fun {c k} h => by
   have := get_lt_len h
   rw [get_ne (by omega)]; exact hE.get h⟩
end Go.Av
namespace Go.Av
open Go.RowKit
open Go.Proofs.Tryz (prog)
theorem Fits.can {t : Aff} {L : List Pt} {Hs : List (List Pt)} (hf : Fits t L Hs) (ht : t.det ≠ 0) (hv : Valid L Hs) : ∀ l ∈ (L.map t.ap) :: (Hs.map fun l => l.map t.ap), Can l := by
 have key : ∀ l, l ∈ L :: Hs → Ring l → Can (l.map t.ap) := fun l hl hr => by
  have g := hr.good.map ht
  exact ⟨g.lo, by rw [List.length_map]; exact hr.hi, hf l hl, g.keep, g.crossB⟩
 intro l hl
 rcases List.mem_cons.1 hl with rfl | hl
 ·exact key L (List.mem_cons_self ..) hv.out
 ·obtain ⟨h, hh, rfl⟩ := List.mem_map.1 hl
  exact key h (List.mem_cons_of_mem _ hh) (hv.holes h hh)
theorem mapped_canon {t : Aff} {L : List Pt} {Hs : List (List Pt)} (hv : Valid L Hs) (h3 : Hs.length ≤ 3) (ht : Par t) (hf : Fits t L Hs) :
 PC prog 72 [cgV (L.map t.ap) (Hs.map fun l => l.map t.ap)] (.tup [cgV (imgL t L) (imgH t Hs), .prim (.int .i64 (0))]) := by
 have e : (Hs.map fun l => l.map t.ap).map canonL = Hs.map (imgL t) := by rw [List.map_map]; rfl
 exact PCanon_pc (L.map t.ap) (Hs.map fun l => l.map t.ap) (by rw [List.length_map]; omega) (hf.can ht.1 hv) (imgH t Hs) (by
  rw [e, List.length_map]
  unfold imgH sortH
  rw [List.length_map]) (hv.img h3 ht hf).check_pc
theorem mapped_sc {L : List Pt} {Hs : List (List Pt)} (hv : Valid L Hs) (h3 : Hs.length ≤ 3) {t : Aff} (ht : Par t) (hf : Fits t L Hs) {F : FuncId} {caps : List V} {B : List Nat} {H : Hp} {K : V → Hp → Prop}
 (hB : ∀ H', Ext H H' → caps.flatMap (touch H' 7) = B) (hin : ∀ b ∈ B, ∃ k, get H b = some k) (hF : ∀ H', H.length ≤ H'.length → (∀ b ∈ B, get H' b = get H b) → MapsTo F caps t.ap (fun q => hp q ≤ 2 ^ 16) H')
 (hK : ∀ H', Ext H H' → K (.tup [cgV (imgL t L) (imgH t Hs), .prim (.int .i64 (0))]) H') :
 SC prog 81 [cgV L Hs, .prim (.bool true), .clo F [] caps] H K := by
 have hlt : ∀ b ∈ B, b < H.length := fun b hb => by obtain ⟨k, hk⟩ := hin b hb; exact get_lt_len hk
 have ck := hv.check_pc
 have cn := mapped_canon hv h3 ht hf
 have hlo := hv.out.lo
 have hhi := hv.out.hi
 have hle : L.map t.ap ≠ [] := fun e => hv.out.ne (List.map_eq_nil_iff.1 e)
 refine SCi ?_
 conv in trip _ _ => cbv
 simp only [runT, RN, simprocAttr]
 simp (disch := omega) only [↓RS, RZ, simprocAttr, cgV, psV, get_app_len3, get_app_len2]
 refine cX ck ?_
 simp (disch := omega) only [↓RS, RZ, simprocAttr, get_app_len3, get_app_len2]
 refine call_sc (ring_sc L hv.out.ne (by omega) get_app_len2 (hF _ (by simp only [List.length_append]; omega) (fun b hb => get_app3 (hlt b hb))) (fun p hp => hv.out.ht p hp) ?_)
 intro H4 hE4
 have hE : Ext H H4 := (((Ext.app _).trans (Ext.app _)).trans (Ext.app _)).trans hE4
 have e0 := hE4.get get_app_len3
 have e1 := hE4.get get_app_len2
 have e2 := hE4.get get_app_len
 have hl4 := hE4.len
 clear hE4
 simp only [List.length_append, List.length_cons, List.length_nil, Nat.zero_add, Nat.add_assoc, Nat.reduceAdd] at e0 e1 e2 hl4 ⊢
 have k0 : ∀ x, get (H4 ++ [x]) H.length = _ := fun x => get_app e0
 have k1 : ∀ x, get (H4 ++ [x]) (H.length + 1) = _ := fun x => get_app e1
 have k2 : ∀ x, get (H4 ++ [x]) (H.length + 2) = _ := fun x => get_app e2
 simp (disch := omega) only [↓RS, RZ, simprocAttr, k0, psV, set_app_len, get_app_len, one_length, pgs_length]
 clear k0 k1 k2
 refine wp_lp (fun (s : Nat × V) J => ov [(3, .ptr H.length 0 0), (5, .ptr (H.length + 1) 0 0), (6, .ptr (H.length + 2) 0 0), (7, .prim (.int .i64 (0))), (8, .clo 169 [] [.ptr (H.length + 1) 0 0]), (9, .ptr H4.length 0 0), (27, .lst 1 ((Hs.map psV).map fun v => [v])), (28, .prim (.int .i64 ((Hs.length : Nat) : Int))), (29, .prim (.int .i64 ((s.1 : Nat) : Int)))] J 0 46)
  (fun s H5 => s.1 ≤ Hs.length ∧ NilTo (s.1 + 1) s.2 ∧ Ext H H5 ∧ get H5 (H.length + 1) = some (.row 1 true [[.clo F [] caps]]) ∧ get H5 (H.length + 2) = some (.row 2 true [[.prim (.slice none 0 0), .prim (.slice none 0 0)]])
   ∧ get H5 H4.length = some (.row 2 true [[.lst 6 ((L.map t.ap).map pc), s.2]]) ∧ Bufn (H4.length + 1) H5 s.2 1 (((Hs.take s.1).map fun l => l.map t.ap).map hcel)) (fun s => Hs.length - s.1) (0, .prim (.slice none 0 0)) rfl
   ⟨Nat.zero_le _, fun _ => rfl, hE.trans (Ext.app _), get_app e1, get_app e2, get_app_len, .nil (by rw [List.length_append]; simp)⟩ ?_
 rintro ⟨i, v⟩ J H5 ⟨hi, hnil, hE5, g1, g2, g4, hBf⟩
 try conv in ov _ _ _ _ => simp only [ov, List.lookup, RO, simprocAttr]
 simp only at hi hnil hE5 g1 g2 g4 hBf ⊢
 have hN := hBf.1
 have d1 := hBf.one
 have d2 := hBf.cel
 have hBt := hB H5 hE5
 rcases Nat.lt_or_ge i Hs.length with hlt' | hge
 ·have g := pg_getD hlt'
  have hm : Hs.getD i [] ∈ Hs := by rw [List.getD_eq_getElem?_getD, List.getElem?_eq_getElem hlt']; exact List.getElem_mem hlt'
  have hr := hv.holes _ hm
  have hrlo := hr.lo
  have hrhi := hr.hi
  have a1 : (B.any fun b => b == H4.length) = false := by
   rw [List.any_eq_false]; intro b hb; have := hlt b hb; simp; omega
  have a2 : (H.length + 1 == H4.length) = false := by rw [beq_eq_false_iff_ne]; omega
  have a3 : (H5.length == H4.length) = false := by rw [beq_eq_false_iff_ne]; omega
  have qc : QC prog 169 [.lst 6 ((Hs.getD i []).map pc), .ptr (H.length + 1) 0 0] H5 (psV ((Hs.getD i []).map t.ap)) none ([V.lst 6 ((Hs.getD i []).map pc), .ptr (H.length + 1) 0 0].flatMap (touch H5 9)) := by
   intro H0 h0
   have hmem : ∀ b, b = H.length + 1 ∨ b ∈ B → b ∈ [V.lst 6 ((Hs.getD i []).map pc), .ptr (H.length + 1) 0 0].flatMap (touch H5 9) := by
    intro b hb
    have e : [V.lst 6 ((Hs.getD i []).map pc), .ptr (H.length + 1) 0 0].flatMap (touch H5 9) = (H.length + 1) :: B := by
     simp only [List.flatMap_cons, List.flatMap_nil, touch_lst, touch_ptr, g1, touchB_row, List.getD_cons_zero, touch_clo, hBt, List.nil_append, List.append_nil]
    rw [e]
    rcases hb with rfl | hb
    ·exact List.mem_cons_self ..
    ·exact List.mem_cons_of_mem _ hb
   have q1 : get H0 (H.length + 1) = some (.row 1 true [[.clo F [] caps]]) := by rw [h0 _ (hmem _ (.inl rfl))]; exact g1
   have ql := get_lt_len q1
   refine ring_sc (Hs.getD i []) hr.ne (by omega) q1 (hF _ (by omega) fun b hb => ?_) (fun p hp => hr.ht p hp) (fun H' hE' => ⟨rfl, fun c k h => hE'.get h⟩)
   rw [h0 _ (hmem _ (.inr hb))]
   obtain ⟨k, hk⟩ := hin b hb
   rw [hk]; exact hE5.get hk
  simp (disch := omega) only [↓RS, RZ, simprocAttr, one_length, pgs_length, g, psV, g4, d1, d2, g1, hBt, a1, a2, a3]
  refine callD_qc _ none ⟨rfl, trivial⟩ qc ?_
  simp (disch := omega) only [↓RS, RZ, simprocAttr, setO, psV, a3]
  have htl : (Hs.take i).length = i := by rw [List.length_take]; omega
  refine Bufn.append (hBf.app _) (by simp [cellV]) (by simp only [List.length_cons, List.length_nil, List.length_map, htl]; omega) (by simp only [List.length_cons, List.length_nil, List.length_map, htl]; omega) ?_
  intro v' H6 hb hk
  have r1 := hk _ _ (by omega) (get_app g1)
  have r2 := hk _ _ (by omega) (get_app g2)
  have r4 := hk _ _ (by omega) (get_app g4)
  have f1 := hb.one
  have f2 := hb.cel
  have hl6 := hb.1
  simp (disch := omega) only [↓RS, RZ, simprocAttr, r4, f1, f2]
  refine lp_next (i + 1, v') rfl ⟨hlt', fun h => absurd h (by simp only; omega), ?_, ?_, ?_, ?_, ?_⟩ (by simp only; omega)
  ·refine ⟨by rw [List.length_set]; omega, fun {c k} h => ?_⟩
   have := get_lt_len h
   rw [get_ne (by omega)]
   exact hk _ _ (by omega) (get_app (hE5.get h))
  ·rw [get_ne (by omega)]; exact r1
  ·rw [get_ne (by omega)]; exact r2
  ·rw [get_eq (by omega)]
  ·have e : ((Hs.take (i + 1)).map fun l => l.map t.ap).map hcel = ((Hs.take i).map fun l => l.map t.ap).map hcel ++ [[.lst 6 (((Hs.getD i []).map t.ap).map pc)]] := by
    rw [List.take_add_one, List.getElem?_eq_getElem hlt', List.map_append, List.map_append, List.getD_eq_getElem?_getD, List.getElem?_eq_getElem hlt']; rfl
   show Bufn (H4.length + 1) _ v' 1 (((Hs.take (i + 1)).map fun l => l.map t.ap).map hcel)
   rw [e]
   exact hb.set (by omega)
 ·have hia : i = Hs.length := by omega
  subst hia
  rw [List.take_length] at hBf
  have hml : ((Hs.map fun l => l.map t.ap).map hcel).length = Hs.length := by rw [List.length_map, List.length_map]
  by_cases hz : Hs = []
  ·subst hz
   have hnil := hnil (Nat.le_refl _)
   subst hnil
   have c3 : PC prog 72 [.agg [psV (L.map t.ap), .prim (.slice none 0 0)]] (.tup [cgV (imgL t L) (imgH t []), .prim (.int .i64 (0))]) := PC_nilA cn
   have s2 : ∀ x, get (H5.set (H.length + 2) x) (H.length + 2) = x := fun x => get_eq (get_lt_len g2)
   simp (disch := omega) only [↓RS, RZ, simprocAttr, one_length, pgs_length, g4, psV]
   refine cX c3 ?_
   have fin := hK (H5.set (H.length + 2) (some (.row 2 true [[psV (imgL t L), .lst 1 (((imgH t []).map psV).map fun v => [v])]]))) ⟨by rw [List.length_set]; exact hE5.len, fun {c k} h => by
    have := get_lt_len h
    rw [get_ne (by omega)]; exact hE5.get h⟩
   simp only [cgV, psV] at fin
   simp (disch := omega) only [↓RS, RZ, simprocAttr, cgV, psV, g2, s2]
   exact fin
  ·obtain ⟨b, hb, rfl, hgb⟩ := hBf.cases (by intro e; rw [e] at hml; exact hz (List.length_eq_zero_iff.1 hml.symm))
   rw [hml] at g4
   have ec : cgV (L.map t.ap) (Hs.map fun l => l.map t.ap) = .agg [.lst 6 ((L.map t.ap).map pc), .lst 1 ((Hs.map fun l => l.map t.ap).map hcel)] := by
    unfold cgV; rw [List.map_map]; rfl
   rw [ec] at cn
   generalize Hs.map (fun l => l.map t.ap) = Y at *
   have hb2 := get_lt_len hgb
   simp (disch := omega) only [↓RS, RZ, simprocAttr, one_length, pgs_length, g4]
   refine call_sc (SC_freeze1 hgb (view_Y hb2 hml) cn ?_)
   have p2 : get (H5.set b none) (H.length + 2) = some (.row 2 true [[.prim (.slice none 0 0), .prim (.slice none 0 0)]]) := by rw [get_ne (by omega)]; exact g2
   have hE6 : Ext H (H5.set b none) := ⟨by rw [List.length_set]; exact hE5.len, fun {c k} h => by
    have := get_lt_len h
    rw [get_ne (by omega)]; exact hE5.get h⟩
   generalize H5.set b none = H6 at p2 hE6 ⊢
   have s2 : ∀ x, get (H6.set (H.length + 2) x) (H.length + 2) = x := fun x => get_eq (get_lt_len p2)
   have fin := hK (H6.set (H.length + 2) (some (.row 2 true [[psV (imgL t L), .lst 1 (((imgH t Hs).map psV).map fun v => [v])]]))) ⟨by rw [List.length_set]; exact hE6.len, fun {c k} h => by
    have := get_lt_len h
    rw [get_ne (by omega)]; exact hE6.get h⟩
   simp only [cgV, psV] at fin
   simp (disch := omega) only [↓RS, RZ, simprocAttr, cgV, psV, p2, s2]
   exact fin
end Go.Av
namespace Go.Av
open Go.RowKit
open Go.Proofs.Tryz (prog)
theorem negR_pc (r : Rt) (h : r.le (2 ^ 32)) : PC prog 42 [rV r] (rV (can (-r.val))) := by
 have h1 := h.1
 have h2 := h.2
 have h3 := dd_len r h2 (by omega)
 have o : PC prog 100 [.agg [.prim (.bool (!r.neg)), .prim (.string (bs (r.num))), .prim (.string (bs (r.den)))]] (fV (!r.neg) r.num r.dd) := ofR_pc ⟨!r.neg, r.num, r.den⟩ (by simp only; omega) (by simp only; omega)
 have n := number_pc (!r.neg) r.num r.dd (by omega) (by omega) (by rw [bval_dd]; exact r.d_pos)
 have e : mkRat (ival (!r.neg) r.num) (bval r.dd) = -r.val := by rw [← val_not, bval_dd]; rfl
 rw [e] at n
 refine PCi ?_
 conv in trip _ _ => cbv
 simp only [runT, RN, simprocAttr]
 simp (disch := omega) only [↓RS, RZ, simprocAttr, rV]
 refine cX o ?_
 simp (disch := omega) only [↓RS, RZ, simprocAttr, fV]
 refine cX n ?_
 simp (disch := omega) only [↓RS, RZ, simprocAttr, rV]
 try rfl
theorem negQ_pc (p : Rat) (h : ht p ≤ 2 ^ 32) : PC prog 42 [qV p] (qV (-p)) := by
 have h := negR_pc (can p) (can_le h)
 rwa [can_val] at h
theorem eqA_q2 (a b : Rat) : eqA (tyOf prog) 9 27 (.agg [.prim (.bool (can a).neg), .prim (.string (bs ((can a).num))), .prim (.string (bs ((can a).den)))]) (.agg [.prim (.bool (can b).neg), .prim (.string (bs ((can b).num))), .prim (.string (bs ((can b).den)))]) = some (decide (a = b)) := by
 rw [eqA_rat]
 have : decide (Rt.mk (can a).neg (can a).num (can a).den = Rt.mk (can b).neg (can b).num (can b).den) = decide (a = b) := by
  rw [decide_eq_decide]
  exact ⟨fun h => can_inj h, fun h => by subst h; rfl⟩
 rw [this]
theorem qV_zero : qV 0 = rV ⟨false, [], []⟩ := by unfold qV; rw [can_zero]
theorem sum2_pc (a b : Rat) (h1 : ht a ≤ 2 ^ 30) (h2 : ht b ≤ 2 ^ 30) : PC prog 171 [.lst 3 [qc a, qc b]] (qV (a + b)) := by
 have z := ht_zero
 have a1 := addQ_pc 0 a (by omega) (by omega)
 rw [Rat.zero_add, qV_zero] at a1
 have a2 := addQ_pc a b (by omega) (by omega)
 refine PCi ?_
 conv in trip _ _ => cbv
 simp only [runT, RN, simprocAttr]
 simp (disch := omega) only [↓RS, RZ, simprocAttr, qc]
 refine wp_iter 3 ?_
 simp (disch := omega) only [↓RS, RZ, simprocAttr, iterL_s, itQ_normal, itQ_exit, itQ_ret, Int.reduceAdd]
 refine cX a1 ?_
 simp (disch := omega) only [↓RS, RZ, simprocAttr, iterL_s, itQ_normal, itQ_exit, itQ_ret, Int.reduceAdd, qV, rV]
 refine cX a2 ?_
 simp (disch := omega) only [↓RS, RZ, simprocAttr, iterL_s, itQ_normal, itQ_exit, itQ_ret, Int.reduceAdd, qV, rV]
 try rfl
theorem rminus_pc (a b : Rat) (h1 : ht a ≤ 2 ^ 30) (h2 : ht b ≤ 2 ^ 30) : PC prog 187 [qV a, qV b] (qV (-(a * b))) := by
 have m := mulQ_pc a b (by omega) (by omega)
 have := ht_mul a b
 have n := negQ_pc (a * b) (by omega)
 refine PCi ?_
 conv in trip _ _ => cbv
 simp only [runT, RN, simprocAttr]
 simp (disch := omega) only [↓RS, RZ, simprocAttr, qV, rV]
 refine cX m ?_
 simp (disch := omega) only [↓RS, RZ, simprocAttr, qV, rV]
 refine cX n ?_
 simp (disch := omega) only [↓RS, RZ, simprocAttr, qV, rV]
 try rfl
def rotP (r p : Pt) : Pt := ⟨r.x * p.x + -(r.y * p.y), r.y * p.x + r.x * p.y⟩
theorem hp_rot (r p : Pt) : hp (rotP r p) ≤ 2 * (hp r + hp p) + 1 := by
 have h1 := hp_x r; have h2 := hp_y r; have h3 := hp_x p; have h4 := hp_y p
 have m1 := ht_mul r.x p.x; have m2 := ht_mul r.y p.y; have m3 := ht_mul r.y p.x; have m4 := ht_mul r.x p.y
 have n := ht_neg (r.y * p.y)
 have a1 := ht_add (r.x * p.x) (-(r.y * p.y)); have a2 := ht_add (r.y * p.x) (r.x * p.y)
 exact hp_mk (by omega) (by omega)
def isRot (r : Pt) : Prop := r.x * r.x + r.y * r.y = 1
def rotC (X Y : Rt) : Int := if X = can X.val ∧ Y = can Y.val then (if X.val * X.val + Y.val * Y.val = 1 then 0 else 2) else 1
theorem rotCheck_pc (X Y : Rt) (h1 : X.le (2 ^ 20)) (h2 : Y.le (2 ^ 20)) : PC prog 86 [ptV X Y] (.prim (.int .i64 (rotC X Y))) := by
 have c1 := checkR2_pc X ⟨by have := h1.1; omega, by have := h1.2; omega⟩
 have c2 := checkR2_pc Y ⟨by have := h2.1; omega, by have := h2.2; omega⟩
 unfold rotC
 by_cases hx : X = can X.val
 ·rw [if_pos hx] at c1
  by_cases hy : Y = can Y.val
  ·rw [if_pos hy] at c2
   rw [if_pos ⟨hx, hy⟩]
   rw [hx] at h1
   rw [hy] at h2
   have k1 := ht_of_le h1 (by omega)
   have k2 := ht_of_le h2 (by omega)
   generalize X.val = a at *
   generalize Y.val = b at *
   subst hx
   subst hy
   have m1 := mulQ_pc a a (by omega) (by omega)
   have m2 := mulQ_pc b b (by omega) (by omega)
   have l1 := ht_mul a a
   have l2 := ht_mul b b
   have s := sum2_pc (a * a) (b * b) (by omega) (by omega)
   have o := ofQ_pc 1 (by omega) (by omega)
   have e := eqA_q2 (a * a + b * b) ((1 : Int) : Rat)
   rw [show ((1 : Int) : Rat) = 1 from rfl] at o e
   simp only [qc] at s
   by_cases hs : a * a + b * b = 1
   ·rw [if_pos hs]
    rw [decide_eq_true hs] at e
    refine PCi ?_
    conv in trip _ _ => cbv
    simp only [runT, RN, simprocAttr]
    simp (disch := omega) only [↓RS, RZ, simprocAttr, ptV]
    refine cX c1 ?_
    simp (disch := omega) only [↓RS, RZ, simprocAttr]
    refine cX c2 ?_
    simp (disch := omega) only [↓RS, RZ, simprocAttr]
    refine cX m1 ?_
    simp (disch := omega) only [↓RS, RZ, simprocAttr, qV, rV]
    refine cX m2 ?_
    simp (disch := omega) only [↓RS, RZ, simprocAttr, qV, rV]
    refine cX s ?_
    simp (disch := omega) only [↓RS, RZ, simprocAttr, qV, rV]
    refine cX o ?_
    simp (disch := omega) only [↓RS, RZ, simprocAttr, qV, rV, e]
   ·rw [if_neg hs]
    rw [decide_eq_false hs] at e
    refine PCi ?_
    conv in trip _ _ => cbv
    simp only [runT, RN, simprocAttr]
    simp (disch := omega) only [↓RS, RZ, simprocAttr, ptV]
    refine cX c1 ?_
    simp (disch := omega) only [↓RS, RZ, simprocAttr]
    refine cX c2 ?_
    simp (disch := omega) only [↓RS, RZ, simprocAttr]
    refine cX m1 ?_
    simp (disch := omega) only [↓RS, RZ, simprocAttr, qV, rV]
    refine cX m2 ?_
    simp (disch := omega) only [↓RS, RZ, simprocAttr, qV, rV]
    refine cX s ?_
    simp (disch := omega) only [↓RS, RZ, simprocAttr, qV, rV]
    refine cX o ?_
    simp (disch := omega) only [↓RS, RZ, simprocAttr, qV, rV, e]
  ·rw [if_neg hy] at c2
   rw [if_neg (fun h => hy h.2)]
   refine PCi ?_
   conv in trip _ _ => cbv
   simp only [runT, RN, simprocAttr]
   simp (disch := omega) only [↓RS, RZ, simprocAttr, ptV]
   refine cX c1 ?_
   simp (disch := omega) only [↓RS, RZ, simprocAttr]
   refine cX c2 ?_
   simp (disch := omega) only [↓RS, RZ, simprocAttr]
 ·rw [if_neg hx] at c1
  rw [if_neg (fun h => hx h.1)]
  refine PCi ?_
  conv in trip _ _ => cbv
  simp only [runT, RN, simprocAttr]
  simp (disch := omega) only [↓RS, RZ, simprocAttr, ptV]
  refine cX c1 ?_
  simp (disch := omega) only [↓RS, RZ, simprocAttr]
theorem rotCheck0_pc (r : Pt) (h : hp r ≤ 2 ^ 20) (hr : isRot r) : PC prog 86 [pV r] (.prim (.int .i64 (0))) := by
 have h1 := hp_x r
 have h2 := hp_y r
 have c := rotCheck_pc (can r.x) (can r.y) (can_le (by omega)) (can_le (by omega))
 unfold rotC at c
 rw [can_val, can_val, if_pos ⟨rfl, rfl⟩, if_pos (show r.x * r.x + r.y * r.y = 1 from hr)] at c
 exact c
theorem wrong1_pc (r : Pt) (h : hp r ≤ 2 ^ 20) (hr : isRot r) : PC prog 107 [.lst 6 [pc r]] (.prim (.bool false)) := by
 have c := rotCheck0_pc r h hr
 refine PCi ?_
 conv in trip _ _ => cbv
 simp only [runT, RN, simprocAttr]
 simp (disch := omega) only [↓RS, RZ, simprocAttr, pc]
 refine wp_iter 2 ?_
 simp (disch := omega) only [↓RS, RZ, simprocAttr, iterL_s, itQ_normal, itQ_exit, itQ_ret, Int.reduceAdd]
 refine cX c ?_
 simp (disch := omega) only [↓RS, RZ, simprocAttr, iterL_s, itQ_normal, itQ_exit, itQ_ret, Int.reduceAdd]
theorem image_pc (r p : Pt) (h1 : hp r ≤ 2 ^ 20) (h2 : hp p ≤ 2 ^ 20) : PC prog 113 [pV r, pV p] (pV (rotP r p)) := by
 have k1 := hp_x r; have k2 := hp_y r; have k3 := hp_x p; have k4 := hp_y p
 have l1 := ht_mul r.x p.x; have l2 := ht_mul r.y p.y; have l3 := ht_mul r.y p.x; have l4 := ht_mul r.x p.y
 have l5 := ht_neg (r.y * p.y)
 have m1 := mulQ_pc r.x p.x (by omega) (by omega)
 have m2 := rminus_pc r.y p.y (by omega) (by omega)
 have s1 := sum2_pc (r.x * p.x) (-(r.y * p.y)) (by omega) (by omega)
 have m3 := mulQ_pc r.y p.x (by omega) (by omega)
 have m4 := mulQ_pc r.x p.y (by omega) (by omega)
 have s2 := sum2_pc (r.y * p.x) (r.x * p.y) (by omega) (by omega)
 simp only [qc] at s1 s2
 refine PCi ?_
 conv in trip _ _ => cbv
 simp only [runT, RN, simprocAttr]
 simp (disch := omega) only [↓RS, RZ, simprocAttr, pV, ptV]
 refine cX m1 ?_
 simp (disch := omega) only [↓RS, RZ, simprocAttr, qV, rV]
 refine cX m2 ?_
 simp (disch := omega) only [↓RS, RZ, simprocAttr, qV, rV]
 refine cX s1 ?_
 simp (disch := omega) only [↓RS, RZ, simprocAttr, qV, rV]
 refine cX m3 ?_
 simp (disch := omega) only [↓RS, RZ, simprocAttr, qV, rV]
 refine cX m4 ?_
 simp (disch := omega) only [↓RS, RZ, simprocAttr, qV, rV]
 refine cX s2 ?_
 simp (disch := omega) only [↓RS, RZ, simprocAttr, qV, rV, rotP, pV, ptV]
 try rfl
theorem apply_pc (r p : Pt) (h1 : hp r ≤ 2 ^ 20) (h2 : hp p ≤ 2 ^ 20) (hr : isRot r) : PC prog 46 [pV r, pV p] (.tup [pV (rotP r p), .prim (.int .i64 (0))]) := by
 have w := wrong1_pc r h1 hr
 have i := image_pc r p h1 h2
 simp only [pc] at w
 refine PCi ?_
 conv in trip _ _ => cbv
 simp only [runT, RN, simprocAttr]
 simp (disch := omega) only [↓RS, RZ, simprocAttr, pV, ptV]
 refine cX w ?_
 simp (disch := omega) only [↓RS, RZ, simprocAttr]
 refine cX i ?_
 simp (disch := omega) only [↓RS, RZ, simprocAttr, pV, ptV]
 try rfl
end Go.Av
namespace Go.Av
open Go.RowKit
open Go.Proofs.Tryz (prog)
def moveA (v : Pt) : Aff := ⟨1, 0, 0, 1, v.x, v.y⟩
def placeA (r v : Pt) : Aff := ⟨r.x, -r.y, r.y, r.x, v.x, v.y⟩
def mirA : Aff := ⟨-1, 0, 0, 1, 0, 0⟩
def scaleA (k : Rat) : Aff := ⟨k, 0, 0, k, 0, 0⟩
def shA (k : Rat) : Aff := ⟨1, k, 0, 1, 0, 0⟩
theorem moveA_ap (v q : Pt) : (moveA v).ap q = q.add v := by refine Pt.ext ?_ ?_ <;> (unfold moveA Aff.ap Pt.add; simp only; try grind)
theorem placeA_ap (r v q : Pt) : (placeA r v).ap q = (rotP r q).add v := by refine Pt.ext ?_ ?_ <;> (unfold placeA Aff.ap Pt.add rotP; simp only; try grind)
theorem mirA_ap (q : Pt) : mirA.ap q = ⟨-q.x, q.y⟩ := by refine Pt.ext ?_ ?_ <;> (unfold mirA Aff.ap; simp only; try grind)
theorem scaleA_ap (k : Rat) (q : Pt) : (scaleA k).ap q = q.smul k := by refine Pt.ext ?_ ?_ <;> (unfold scaleA Aff.ap Pt.smul; simp only; try grind)
theorem shA_ap (k : Rat) (q : Pt) : (shA k).ap q = ⟨q.x + k * q.y, q.y⟩ := by refine Pt.ext ?_ ?_ <;> (unfold shA Aff.ap; simp only; try grind)
theorem vcheck0_pc (v : Pt) (h : hp v ≤ 2 ^ 20) : PC prog 57 [pV v] (.prim (.int .i64 (0))) := by
 have h1 := hp_x v
 have h2 := hp_y v
 have c := vcheck_pc (can v.x) (can v.y) (can_le (by omega)) (can_le (by omega))
 rwa [if_pos ⟨by rw [can_val], by rw [can_val]⟩] at c
theorem rcheck0_pc (k : Rat) (h : ht k ≤ 2 ^ 20) : PC prog 93 [qV k] (.prim (.int .i64 (0))) := by
 have c := checkR2_pc (can k) (can_le (by omega))
 rwa [if_pos (by rw [can_val])] at c
theorem move1_sc (v q : Pt) (h1 : hp v ≤ 2 ^ 20) (h2 : hp q ≤ 2 ^ 20) {b : Nat} {H : Hp} {K : V → Hp → Prop} (hb : get H b = some (.row 6 true [pc v])) (hK : ∀ H', Ext H H' → K (pV ((moveA v).ap q)) H') : SC prog 82 [pV q, .ptr b 0 0] H K := by
 have hb2 : ∀ k l, get (H ++ [k] ++ [l]) b = some (.row 6 true [pc v]) := fun k l => get_app (get_app hb)
 have c := vadd_pc q v (by omega) (by omega)
 have fin := hK (H ++ [some (.row 6 true [pc q])] ++ [some (.row 6 true [pc (q.add v)])]) ((Ext.app _).trans (Ext.app _))
 rw [moveA_ap] at fin
 simp only [pV, ptV, pc] at fin
 refine SCi ?_
 conv in trip _ _ => cbv
 simp only [runT, RN, simprocAttr]
 simp (disch := omega) only [↓RS, RZ, simprocAttr, pV, ptV, hb2, pc, get_app_len2, set_app_len]
 refine cX c ?_
 simp (disch := omega) only [↓RS, RZ, simprocAttr, pV, ptV, hb2, pc, get_app_len2, set_app_len]
 exact fin
theorem scale1_sc (k : Rat) (q : Pt) (h1 : ht k ≤ 2 ^ 20) (h2 : hp q ≤ 2 ^ 20) {b : Nat} {H : Hp} {K : V → Hp → Prop} (hb : get H b = some (.row 3 true [qc k])) (hK : ∀ H', Ext H H' → K (pV ((scaleA k).ap q)) H') : SC prog 94 [pV q, .ptr b 0 0] H K := by
 have hb2 : ∀ x l, get (H ++ [x] ++ [l]) b = some (.row 3 true [qc k]) := fun x l => get_app (get_app hb)
 have c := vscale_pc q k (by omega) (by omega)
 have fin := hK (H ++ [some (.row 6 true [pc q])] ++ [some (.row 6 true [pc (q.smul k)])]) ((Ext.app _).trans (Ext.app _))
 rw [scaleA_ap] at fin
 simp only [pV, ptV, pc] at fin
 refine SCi ?_
 conv in trip _ _ => cbv
 simp only [runT, RN, simprocAttr]
 simp (disch := omega) only [↓RS, RZ, simprocAttr, pV, ptV, hb2, pc, qc, get_app_len2, set_app_len]
 refine cX c ?_
 simp (disch := omega) only [↓RS, RZ, simprocAttr, pV, ptV, hb2, pc, get_app_len2, set_app_len]
 exact fin
theorem mirror1_sc (q : Pt) (h2 : hp q ≤ 2 ^ 20) {H : Hp} {K : V → Hp → Prop} (hK : ∀ H', Ext H H' → K (pV (mirA.ap q)) H') : SC prog 92 [pV q] H K := by
 have := hp_x q
 have c := negQ_pc q.x (by omega)
 have fin := hK (H ++ [some (.row 6 true [pc q])] ++ [some (.row 6 true [pc ⟨-q.x, q.y⟩])]) ((Ext.app _).trans (Ext.app _))
 rw [mirA_ap] at fin
 simp only [pV, ptV, pc] at fin
 refine SCi ?_
 conv in trip _ _ => cbv
 simp only [runT, RN, simprocAttr]
 simp (disch := omega) only [↓RS, RZ, simprocAttr, pV, ptV, pc, get_app_len2, set_app_len]
 refine cX c ?_
 simp (disch := omega) only [↓RS, RZ, simprocAttr, qV, rV, pV, ptV, pc, get_app_len2, set_app_len]
 exact fin
theorem shear1_sc (k : Rat) (q : Pt) (h1 : ht k ≤ 2 ^ 20) (h2 : hp q ≤ 2 ^ 20) {b : Nat} {H : Hp} {K : V → Hp → Prop} (hb : get H b = some (.row 3 true [qc k])) (hK : ∀ H', Ext H H' → K (pV ((shA k).ap q)) H') : SC prog 97 [pV q, .ptr b 0 0] H K := by
 have hb2 : ∀ x l, get (H ++ [x] ++ [l]) b = some (.row 3 true [qc k]) := fun x l => get_app (get_app hb)
 have := hp_x q
 have := hp_y q
 have := ht_mul k q.y
 have m := mulQ_pc k q.y (by omega) (by omega)
 have c := addQ_pc q.x (k * q.y) (by omega) (by omega)
 have fin := hK (H ++ [some (.row 6 true [pc q])] ++ [some (.row 6 true [pc ⟨q.x + k * q.y, q.y⟩])]) ((Ext.app _).trans (Ext.app _))
 rw [shA_ap] at fin
 simp only [pV, ptV, pc] at fin
 refine SCi ?_
 conv in trip _ _ => cbv
 simp only [runT, RN, simprocAttr]
 simp (disch := omega) only [↓RS, RZ, simprocAttr, pV, ptV, hb2, pc, qc, get_app_len2, set_app_len]
 refine cX m ?_
 simp (disch := omega) only [↓RS, RZ, simprocAttr, qV, rV, pV, ptV, hb2, pc, get_app_len2, set_app_len]
 refine cX c ?_
 simp (disch := omega) only [↓RS, RZ, simprocAttr, qV, rV, pV, ptV, hb2, pc, get_app_len2, set_app_len]
 exact fin
theorem place1_sc (r v q : Pt) (hr : isRot r) (h0 : hp r ≤ 2 ^ 20) (h1 : hp v ≤ 2 ^ 20) (h2 : hp q ≤ 2 ^ 20) {b c : Nat} {H : Hp} {K : V → Hp → Prop} (hb : get H b = some (.row 6 true [pc r])) (hc : get H c = some (.row 6 true [pc v]))
 (hK : ∀ H', Ext H H' → K (pV ((placeA r v).ap q)) H') : SC prog 87 [pV q, .ptr b 0 0, .ptr c 0 0] H K := by
 have hb2 : ∀ k l, get (H ++ [k] ++ [l]) b = some (.row 6 true [pc r]) := fun k l => get_app (get_app hb)
 have hc3 : ∀ k l m, get (H ++ [k] ++ [l] ++ [m]) c = some (.row 6 true [pc v]) := fun k l m => get_app (get_app (get_app hc))
 have a := apply_pc r q h0 h2 hr
 have := hp_rot r q
 have d := vadd_pc (rotP r q) v (by omega) (by omega)
 have fin := hK (H ++ [some (.row 6 true [pc q])] ++ [some (.row 6 true [pc ((rotP r q).add v)])] ++ [some (.row 6 true [pc (rotP r q)])]) (((Ext.app _).trans (Ext.app _)).trans (Ext.app _))
 rw [placeA_ap] at fin
 simp only [pV, ptV, pc] at fin
 refine SCi ?_
 conv in trip _ _ => cbv
 simp only [runT, RN, simprocAttr]
 simp (disch := omega) only [↓RS, RZ, simprocAttr, pV, ptV, hb2, pc, get_app_len2, set_app_len]
 refine cX a ?_
 simp (disch := omega) only [↓RS, RZ, simprocAttr, pV, ptV, hc3, pc, get_app_len2, set_app_len, set_app_len2]
 refine cX d ?_
 simp (disch := omega) only [↓RS, RZ, simprocAttr, pV, ptV, pc, get_app_len2, set_app_len, set_app_len2]
 exact fin
theorem touch_pc {n : Nat} {H : Hp} (p : Pt) : (pc p).flatMap (touch H (n + 1)) = [] := by
 simp only [pc, List.flatMap_cons, List.flatMap_nil, touch_prim, List.append_nil]
theorem touch_qc {n : Nat} {H : Hp} (p : Rat) : (qc p).flatMap (touch H (n + 1)) = [] := by
 simp only [qc, List.flatMap_cons, List.flatMap_nil, touch_prim, List.append_nil]
variable {L : List Pt} {Hs : List (List Pt)}
theorem move_pc (hv : Valid L Hs) (h3 : Hs.length ≤ 3) (v : Pt) (h1 : hp v ≤ 2 ^ 20) (hf : Fits (moveA v) L Hs) : PC prog 18 [cgV L Hs, pV v] (.tup [cgV (imgL (moveA v) L) (imgH (moveA v) Hs), .prim (.int .i64 (0))]) := by
 have c := vcheck0_pc v h1
 refine PCi ?_
 conv in trip _ _ => cbv
 simp only [runT, RN, simprocAttr]
 simp (disch := omega) only [↓RS, RZ, simprocAttr, cgV, psV, pV, ptV]
 refine cX c ?_
 simp (disch := omega) only [↓RS, RZ, simprocAttr]
 refine callD_qc (.tup [cgV (imgL (moveA v) L) (imgH (moveA v) Hs), .prim (.int .i64 (0))]) none ⟨rfl, trivial⟩ ?_ ?_
 ·intro H0 h0
  have q1 : get H0 1 = some (.row 6 true [pc v]) := by rw [h0 1 (by simp [touch])]; rfl
  refine mapped_sc hv h3 (par_move v.x v.y) hf (B := [1]) ?_ ?_ ?_ (fun H' hE' => ⟨rfl, fun c k h => hE'.get h⟩)
  ·intro H' hE
   simp only [List.flatMap_cons, List.flatMap_nil, touch_ptr, hE.get q1, touchB_row, List.getD_cons_zero, touch_pc, List.append_nil]
  ·intro b hb
   rw [List.mem_singleton.1 hb]; exact ⟨_, q1⟩
  ·intro H' _ hb H'' hE q hq K hK
   have := hb 1 (List.mem_cons_self ..)
   rw [q1] at this
   exact move1_sc v q h1 (by omega) (hE.get this) hK
 ·simp (disch := omega) only [↓RS, RZ, simprocAttr, setO, cgV, psV]
theorem mirror_pc (hv : Valid L Hs) (h3 : Hs.length ≤ 3) (hf : Fits mirA L Hs) : PC prog 27 [cgV L Hs] (.tup [cgV (imgL mirA L) (imgH mirA Hs), .prim (.int .i64 (0))]) := by
 refine PCi ?_
 conv in trip _ _ => cbv
 simp only [runT, RN, simprocAttr]
 simp (disch := omega) only [↓RS, RZ, simprocAttr, cgV, psV]
 refine call_sc (mapped_sc (t := mirA) hv h3 par_mirror hf (B := []) (fun _ _ => rfl) (fun b hb => by cases hb) (fun H' _ _ H'' _ q hq K hK => mirror1_sc q (by omega) hK) ?_)
 intro H' hE
 have e1 : get H' 1 = some (.row 2 true [[.prim (.slice none 0 0), .prim (.slice none 0 0)]]) := hE.get rfl
 have s1 : ∀ x, get (H'.set 1 x) 1 = x := fun x => get_eq (get_lt_len e1)
 simp (disch := omega) only [↓RS, RZ, simprocAttr, cgV, psV, e1, s1]
theorem scale_pc (hv : Valid L Hs) (h3 : Hs.length ≤ 3) (k : Rat) (h1 : ht k ≤ 2 ^ 20) (h0 : k ≠ 0) (hf : Fits (scaleA k) L Hs) : PC prog 29 [cgV L Hs, qV k] (.tup [cgV (imgL (scaleA k) L) (imgH (scaleA k) Hs), .prim (.int .i64 (0))]) := by
 have c := rcheck0_pc k h1
 have sg := signQ_pc k (by omega)
 have hne : cmpQ k 0 ≠ 0 := fun e => h0 (cmpQ_zero.1 e)
 generalize cmpQ k 0 = z at *
 refine PCi ?_
 conv in trip _ _ => cbv
 simp only [runT, RN, simprocAttr]
 simp (disch := omega) only [↓RS, RZ, simprocAttr, cgV, psV, qV, rV]
 refine cX c ?_
 simp (disch := omega) only [↓RS, RZ, simprocAttr]
 refine cX sg ?_
 simp (disch := omega) only [↓RS, RZ, simprocAttr]
 refine call_sc (mapped_sc (t := scaleA k) hv h3 (par_scale h0) hf (B := [1]) ?_ ?_ ?_ ?_)
 ·intro H' hE
  have q1 : get H' 1 = some (.row 3 true [qc k]) := hE.get rfl
  simp only [List.flatMap_cons, List.flatMap_nil, touch_ptr, q1, touchB_row, List.getD_cons_zero, touch_qc, List.append_nil]
 ·intro b hb
  rw [List.mem_singleton.1 hb]; exact ⟨_, rfl⟩
 ·intro H' _ hb H'' hE q hq K hK
  have := hb 1 (List.mem_cons_self ..)
  exact scale1_sc k q h1 (by omega) (hE.get this) hK
 ·intro H' hE
  have e1 : get H' 2 = some (.row 2 true [[.prim (.slice none 0 0), .prim (.slice none 0 0)]]) := hE.get rfl
  have s1 : ∀ x, get (H'.set 2 x) 2 = x := fun x => get_eq (get_lt_len e1)
  simp (disch := omega) only [↓RS, RZ, simprocAttr, cgV, psV, e1, s1]
theorem scale0_pc (hv : Valid L Hs) : PC prog 29 [cgV L Hs, qV 0] (.tup [.agg [.prim (.slice none 0 0), .prim (.slice none 0 0)], .prim (.int .i64 (12))]) := by
 have z := ht_zero
 have c := rcheck0_pc 0 (by omega)
 have sg := signQ_pc 0 (by omega)
 rw [show cmpQ 0 0 = 0 from cmpQ_zero.2 rfl] at sg
 have ck := hv.check_pc
 refine PCi ?_
 conv in trip _ _ => cbv
 simp only [runT, RN, simprocAttr]
 simp (disch := omega) only [↓RS, RZ, simprocAttr, cgV, psV, qV, rV]
 refine cX c ?_
 simp (disch := omega) only [↓RS, RZ, simprocAttr]
 refine cX sg ?_
 simp (disch := omega) only [↓RS, RZ, simprocAttr]
 refine cX ck ?_
 simp (disch := omega) only [↓RS, RZ, simprocAttr]
theorem shear_pc (hv : Valid L Hs) (h3 : Hs.length ≤ 3) (k : Rat) (h1 : ht k ≤ 2 ^ 20) (hf : Fits (shA k) L Hs) : PC prog 31 [cgV L Hs, qV k] (.tup [cgV (imgL (shA k) L) (imgH (shA k) Hs), .prim (.int .i64 (0))]) := by
 have c := rcheck0_pc k h1
 refine PCi ?_
 conv in trip _ _ => cbv
 simp only [runT, RN, simprocAttr]
 simp (disch := omega) only [↓RS, RZ, simprocAttr, cgV, psV, qV, rV]
 refine cX c ?_
 simp (disch := omega) only [↓RS, RZ, simprocAttr]
 refine callD_qc (.tup [cgV (imgL (shA k) L) (imgH (shA k) Hs), .prim (.int .i64 (0))]) none ⟨rfl, trivial⟩ ?_ ?_
 ·intro H0 h0
  have q1 : get H0 1 = some (.row 3 true [qc k]) := by rw [h0 1 (by simp [touch])]; rfl
  refine mapped_sc hv h3 (par_shx k) hf (B := [1]) ?_ ?_ ?_ (fun H' hE' => ⟨rfl, fun c k h => hE'.get h⟩)
  ·intro H' hE
   simp only [List.flatMap_cons, List.flatMap_nil, touch_ptr, hE.get q1, touchB_row, List.getD_cons_zero, touch_qc, List.append_nil]
  ·intro b hb
   rw [List.mem_singleton.1 hb]; exact ⟨_, q1⟩
  ·intro H' _ hb H'' hE q hq K hK
   have := hb 1 (List.mem_cons_self ..)
   rw [q1] at this
   exact shear1_sc k q h1 (by omega) (hE.get this) hK
 ·simp (disch := omega) only [↓RS, RZ, simprocAttr, setO, cgV, psV]
theorem place_pc (hv : Valid L Hs) (h3 : Hs.length ≤ 3) (r v : Pt) (hr : isRot r) (h0 : hp r ≤ 2 ^ 20) (h1 : hp v ≤ 2 ^ 20) (hf : Fits (placeA r v) L Hs) :
 PC prog 22 [cgV L Hs, pV r, pV v] (.tup [cgV (imgL (placeA r v) L) (imgH (placeA r v) Hs), .prim (.int .i64 (0))]) := by
 have c := vcheck0_pc v h1
 have rc := rotCheck0_pc r h0 hr
 refine PCi ?_
 conv in trip _ _ => cbv
 simp only [runT, RN, simprocAttr]
 simp (disch := omega) only [↓RS, RZ, simprocAttr, cgV, psV, pV, ptV]
 refine cX rc ?_
 simp (disch := omega) only [↓RS, RZ, simprocAttr]
 refine cX c ?_
 simp (disch := omega) only [↓RS, RZ, simprocAttr]
 refine callD_qc (.tup [cgV (imgL (placeA r v) L) (imgH (placeA r v) Hs), .prim (.int .i64 (0))]) none ⟨rfl, trivial⟩ ?_ ?_
 ·intro H0 h0'
  have q1 : get H0 1 = some (.row 6 true [pc r]) := by rw [h0' 1 (by simp [touch])]; rfl
  have q2 : get H0 2 = some (.row 6 true [pc v]) := by rw [h0' 2 (by simp [touch])]; rfl
  refine mapped_sc hv h3 (par_place hr v.x v.y) hf (B := [1, 2]) ?_ ?_ ?_ (fun H' hE' => ⟨rfl, fun c k h => hE'.get h⟩)
  ·intro H' hE
   simp only [List.flatMap_cons, List.flatMap_nil, touch_ptr, hE.get q1, hE.get q2, touchB_row, List.getD_cons_zero, touch_pc, List.append_nil, List.cons_append, List.nil_append]
  ·intro b hb
   rcases List.mem_cons.1 hb with rfl | hb
   ·exact ⟨_, q1⟩
   ·rw [List.mem_singleton.1 hb]; exact ⟨_, q2⟩
  ·intro H' _ hb H'' hE q hq K hK
   have b1 := hb 1 (List.mem_cons_self ..)
   have b2 := hb 2 (List.mem_cons_of_mem _ (List.mem_cons_self ..))
   rw [q1] at b1
   rw [q2] at b2
   exact place1_sc r v q hr h0 h1 (by omega) (hE.get b1) (hE.get b2) hK
 ·simp (disch := omega) only [↓RS, RZ, simprocAttr, setO, cgV, psV]
theorem turn_pc (hv : Valid L Hs) (h3 : Hs.length ≤ 3) (r : Pt) (hr : isRot r) (h0 : hp r ≤ 2 ^ 20) (hf : Fits (placeA r pt0) L Hs) :
 PC prog 20 [cgV L Hs, pV r] (.tup [cgV (imgL (placeA r pt0) L) (imgH (placeA r pt0) Hs), .prim (.int .i64 (0))]) := by
 have z := hp_pt0
 have p := place_pc hv h3 r pt0 hr h0 (by omega) hf
 have e : pV pt0 = ptV ⟨false, [], []⟩ ⟨false, [], []⟩ := by simp only [pV, pt0, can_zero]
 rw [e] at p
 refine PCi ?_
 conv in trip _ _ => cbv
 simp only [runT, RN, simprocAttr]
 simp (disch := omega) only [↓RS, RZ, simprocAttr, cgV, psV, pV, ptV]
 refine cX p ?_
 simp (disch := omega) only [↓RS, RZ, simprocAttr, cgV, psV]
theorem flip_pc (hv : Valid L Hs) (h3 : Hs.length ≤ 3) (hf : Fits (scaleA (-1)) L Hs) : PC prog 25 [cgV L Hs] (.tup [cgV (imgL (scaleA (-1)) L) (imgH (scaleA (-1)) Hs), .prim (.int .i64 (0))]) := by
 have o := ofQ_pc (-1) (by omega) (by omega)
 have e : (((-1 : Int)) : Rat) = -1 := rfl
 rw [e] at o
 have := @ht_int (-1) (by omega)
 rw [e] at this
 have s := scale_pc hv h3 (-1) (by omega) (by decide +kernel) hf
 refine PCi ?_
 conv in trip _ _ => cbv
 simp only [runT, RN, simprocAttr]
 simp (disch := omega) only [↓RS, RZ, simprocAttr, cgV, psV]
 refine cX o ?_
 simp (disch := omega) only [↓RS, RZ, simprocAttr, qV, rV]
 refine cX s ?_
 simp (disch := omega) only [↓RS, RZ, simprocAttr, cgV, psV]
end Go.Av
namespace Go.Av
open Go.RowKit
open Go.Proofs.Tryz (prog)
def rtc (r : Rt) : List V := [.prim (.bool r.neg), .prim (.string (bs (r.num))), .prim (.string (bs (r.den)))]
theorem rtc_getD {l : List Rt} {k : Nat} (h : k < l.length) : (l.map rtc).getD k [] = rtc (l.getD k default) := by
 rw [List.getD_eq_getElem?_getD, List.getD_eq_getElem?_getD, List.getElem?_map, List.getElem?_eq_getElem h]; rfl
theorem rtc_length (l : List Rt) : (l.map rtc).length = l.length := List.length_map ..
theorem indexR_pc (l : List Rt) (f : FuncId) (p : Nat → Bool) (hl : l.length < 2 ^ 40) (hf : ∀ i, i < l.length → PC prog f [rV (l.getD i default)] (.prim (.bool (p i)))) :
 PC prog 168 [.lst 3 (l.map rtc), .clo f [] []] (.prim (.int .i64 (idxP l.length p))) := by
 refine PCi ?_
 conv in trip _ _ => cbv
 simp only [runT, RN, simprocAttr]
 simp (disch := omega) only [↓RS, RZ, simprocAttr, rtc_length]
 refine wp_lp (fun (i : Nat) J => ov [(0, .lst 3 (l.map rtc)), (1, .clo f [] []), (4, .prim (.int .i64 (0))), (6, .lst 3 (l.map rtc)), (7, .prim (.int .i64 ((l.length : Nat) : Int))), (8, .prim (.int .i64 ((i : Nat) : Int)))] J 0 19) (fun i H => (i ≤ l.length ∧ ∀ j, j < i → p j = false) ∧ H = []) (fun i => l.length - i) 0 rfl ⟨⟨Nat.zero_le _, fun j hj => absurd hj (Nat.not_lt_zero j)⟩, rfl⟩ ?_
 rintro i J _ ⟨⟨hi, hp⟩, rfl⟩
 try conv in ov _ _ _ _ => simp only [ov, List.lookup, RO, simprocAttr]
 rcases Nat.lt_or_ge i l.length with hlt | hge
 ·have g := rtc_getD hlt
  have h := hf i hlt
  simp (disch := omega) only [↓RS, RZ, simprocAttr, rtc_length, g, rtc]
  refine cX h ?_
  cases hpi : p i with
  | true =>
   rw [idxP_found hlt hpi hp]
   simp (disch := omega) only [↓RS, RZ, simprocAttr]
  | false =>
   simp (disch := omega) only [↓RS, RZ, simprocAttr]
   exact lp_next (i + 1) rfl ⟨⟨hlt, fun j hj => by
    rcases Nat.lt_or_ge j i with h | h
    ·exact hp j h
    ·rw [show j = i by omega]; exact hpi⟩, rfl⟩ (by omega)
 ·have hia : i = l.length := by omega
  subst hia
  rw [idxP_none hp]
  simp (disch := omega) only [↓RS, RZ, simprocAttr, rtc_length]
theorem containsR_pc (l : List Rt) (f : FuncId) (p : Nat → Bool) (hl : l.length < 2 ^ 40) (hf : ∀ i, i < l.length → PC prog f [rV (l.getD i default)] (.prim (.bool (p i)))) :
 PC prog 78 [.lst 3 (l.map rtc), .clo f [] []] (.prim (.bool ((List.range l.length).any p))) := by
 refine PCi ?_
 conv in trip _ _ => cbv
 simp only [runT, RN, simprocAttr]
 have h := indexR_pc l f p hl hf
 rw [← idxP_nonneg]
 simp (disch := omega) only [↓RS, RZ, simprocAttr]
 refine cX h ?_
 simp (disch := omega) only [↓RS, RZ, simprocAttr]
def big30 (r : Rt) : Bool := decide (30 < r.num.length) || decide (30 < r.den.length)
theorem great1_pc (r : Rt) (h : r.fit) : PC prog 79 [rV r] (.prim (.bool (big30 r))) := by
 have hm : maxLen < 2 ^ 63 := by decide
 obtain ⟨h1, h2⟩ := h
 unfold big30
 by_cases k1 : 30 < r.num.length
 ·rw [decide_eq_true k1]
  refine PCi ?_
  conv in trip _ _ => cbv
  simp only [runT, RN, simprocAttr]
  simp (disch := omega) only [↓RS, RZ, simprocAttr, rV]
 ·rw [decide_eq_false k1]
  by_cases k2 : 30 < r.den.length
  ·rw [decide_eq_true k2]
   refine PCi ?_
   conv in trip _ _ => cbv
   simp only [runT, RN, simprocAttr]
   simp (disch := omega) only [↓RS, RZ, simprocAttr, rV]
  ·rw [decide_eq_false k2]
   refine PCi ?_
   conv in trip _ _ => cbv
   simp only [runT, RN, simprocAttr]
   simp (disch := omega) only [↓RS, RZ, simprocAttr, rV]
def anyBig (l : List Rt) : Bool := (List.range l.length).any fun i => big30 (l.getD i default)
theorem anyBig_get {l : List Rt} (h : anyBig l = false) {r : Rt} (hr : r ∈ l) : r.num.length ≤ 30 ∧ r.den.length ≤ 30 := by
 obtain ⟨i, hi, rfl⟩ := List.mem_iff_getElem.1 hr
 unfold anyBig at h
 have := anyTo_get h hi
 rw [List.getD_eq_getElem?_getD, List.getElem?_eq_getElem hi] at this
 unfold big30 at this
 simp only [Option.getD_some, Bool.or_eq_false_iff, decide_eq_false_iff_not] at this
 omega
theorem great14_pc (O : List Rp) (hs : List (List Rp)) (l : List Rt) (hr : Read O hs) (hn : l.length < 2 ^ 20) (hl : ∀ r ∈ l, r.fit) :
 PC prog 16 [pgV O hs, .lst 3 (l.map rtc)] (.prim (.bool (greatP O hs || anyBig l))) := by
 have hm : maxLen < 2 ^ 63 := by decide
 have g := greatP_pc O hs (by have := hr.n; omega) (by have := hr.o.1; omega) hr.o.2 (fun l hl => ⟨by have := (hr.h l hl).1; omega, (hr.h l hl).2⟩)
 have c := containsR_pc l 79 (fun i => big30 (l.getD i default)) (by omega) (fun i hi => great1_pc _ (hl _ (by rw [List.getD_eq_getElem?_getD, List.getElem?_eq_getElem hi]; exact List.getElem_mem hi)))
 rw [show (List.range l.length).any (fun i => big30 (l.getD i default)) = anyBig l from rfl] at c
 generalize anyBig l = y at *
 cases hx : greatP O hs with
 | true =>
  rw [hx] at g
  refine PCi ?_
  conv in trip _ _ => cbv
  simp only [runT, RN, simprocAttr]
  simp (disch := omega) only [↓RS, RZ, simprocAttr, pgV, hsV, rpsV]
  refine cX g ?_
  simp (disch := omega) only [↓RS, RZ, simprocAttr]
 | false =>
  rw [hx] at g
  refine PCi ?_
  conv in trip _ _ => cbv
  simp only [runT, RN, simprocAttr]
  simp (disch := omega) only [↓RS, RZ, simprocAttr, pgV, hsV, rpsV]
  refine cX g ?_
  simp (disch := omega) only [↓RS, RZ, simprocAttr]
  refine cX c ?_
  simp (disch := omega) only [↓RS, RZ, simprocAttr]
theorem greatP_12 {O : List Rp} {hs : List (List Rp)} (h : greatP O hs = false) : (∀ p ∈ O, p.le 12) ∧ ∀ i, i < hs.length → i < 11 → ∀ p ∈ hs.getD i [], p.le 12 := by
 unfold greatP at h
 simp only [Bool.or_eq_false_iff, decide_eq_false_iff_not] at h
 obtain ⟨h1, h2, h3, h4, h5, h6⟩ := h
 have one : ∀ {l : List Rp}, greatL l = false → ∀ p ∈ l, p.le 12 := by
  intro l hl p hp
  obtain ⟨i, hi, rfl⟩ := List.mem_iff_getElem.1 hp
  have := anyTo_get hl hi
  rw [List.getD_eq_getElem?_getD, List.getElem?_eq_getElem hi] at this
  unfold bigP at this
  simp only [Option.getD_some, Bool.or_eq_false_iff, decide_eq_false_iff_not] at this
  exact ⟨⟨by omega, by omega⟩, ⟨by omega, by omega⟩⟩
 refine ⟨one h3, fun i hi h11 => ?_⟩
 have := anyTo_get h4 (i := i) (by omega)
 simp only [Bool.or_eq_false_iff, decide_eq_false_iff_not] at this
 exact one this.2
theorem Rt.le_mono {r : Rt} {a b : Nat} (h : r.le a) (hab : a ≤ b) : r.le b := ⟨Nat.le_trans h.1 hab, Nat.le_trans h.2 hab⟩
theorem ptV_pV {p : Rp} (h : p.x = can p.x.val ∧ p.y = can p.y.val) : ptV p.x p.y = pV ⟨p.x.val, p.y.val⟩ := by
 show ptV p.x p.y = ptV (can p.x.val) (can p.y.val)
 rw [← h.1, ← h.2]
theorem hp_raw {p : Rp} (h : p.x = can p.x.val ∧ p.y = can p.y.val) (hl : p.le 30) : hp ⟨p.x.val, p.y.val⟩ ≤ 30 := by
 have h1 := hl.1
 have h2 := hl.2
 rw [h.1] at h1
 rw [h.2] at h2
 exact hp_mk (ht_of_le h1 (by omega)) (ht_of_le h2 (by omega))
end Go.Av
namespace Go.Av
open Go.RowKit
open Go.Proofs.Tryz (prog)
theorem PC_arg2 {P : Program} {f : FuncId} {a v v' : V} {vs : List V} {r : V} (hv : ∀ I w x, VR (fun _ => none) I w v x → VR (fun _ => none) I w v' x) (h : PC P f (a :: v' :: vs) r) : PC P f (a :: v :: vs) r := fun I w xs hI hxs =>
 h I w xs hI ⟨hxs.len, fun k u x hu hx => by
  match k, hu with
  | 0, hu => exact hxs.at_ 0 u x hu hx
  | 1, hu => cases hu; exact hv I w x (hxs.at_ 1 v x rfl hx)
  | k + 2, hu => exact hxs.at_ (k + 2) u x hu hx⟩
def touchS (H : Hp) (n o k : Nat) : Option Blk → List Nat
 | some (.row _ _ es) => ((es.drop o).take k).flatMap fun e => e.flatMap (touch H n)
 | _ => []
theorem touchS_row {H : Hp} {n o k sz : Nat} {m : Bool} {es : List (List V)} : touchS H n o k (some (.row sz m es)) = ((es.drop o).take k).flatMap fun e => e.flatMap (touch H n) := rfl
theorem touch_sref {H : Hp} {n b o k c z : Nat} {fx : Bool} : touch H (n + 1) (.sref b o k c z fx) = b :: touchS H n o k (get H b) := by rw [touch]; rfl
def triL : List Pt := [⟨0, 0⟩, ⟨4, 0⟩, ⟨0, 2⟩]
def triM : List Pt := [⟨-1, 1⟩, ⟨1, 1⟩, ⟨1, 5⟩]
theorem triL_ok : chkC triL = 0 := by decide +kernel
theorem tri_img : imgL (placeA ⟨0, 1⟩ ⟨1, 1⟩) triL = triM := by decide +kernel
theorem tri_hl : hl triL (2 ^ 16) := by
 refine hl_of (by omega) fun p hp => ?_
 simp only [triL, List.mem_cons, List.not_mem_nil, or_false] at hp
 rcases hp with rfl | rfl | rfl
 ·exact ⟨0, 0, rfl, by decide, by decide⟩
 ·exact ⟨4, 0, rfl, by decide, by decide⟩
 ·exact ⟨0, 2, rfl, by decide, by decide⟩
theorem tri_map : triL.map (placeA ⟨0, 1⟩ ⟨1, 1⟩).ap = [⟨1, 1⟩, ⟨1, 5⟩, ⟨-1, 1⟩] := by decide +kernel
theorem tri_fits : Fits (placeA ⟨0, 1⟩ ⟨1, 1⟩) triL [] := by
 intro l hl
 rw [List.mem_singleton.1 hl, tri_map]
 refine hl_of (by omega) fun p hp => ?_
 simp only [List.mem_cons, List.not_mem_nil, or_false] at hp
 rcases hp with rfl | rfl | rfl
 ·exact ⟨1, 1, rfl, by decide, by decide⟩
 ·exact ⟨1, 5, rfl, by decide, by decide⟩
 ·exact ⟨-1, 1, rfl, by decide, by decide⟩
theorem tri_valid : Valid triL [] := ⟨⟨by decide, by decide, triL_ok, tri_hl⟩, fun _ h => (by cases h), by decide, fun _ h => (by cases h), fun _ h => (by cases h), List.Pairwise.nil, fun i _ hi => (by simp at hi)⟩
theorem tri_place : PC prog 22 [cgV triL [], pV ⟨0, 1⟩, pV ⟨1, 1⟩] (.tup [cgV triM [], .prim (.int .i64 (0))]) := by
 have h1 := @hp_ints 0 1 (by omega) (by omega)
 have h2 := @hp_ints 1 1 (by omega) (by omega)
 have h := place_pc tri_valid (by decide) ⟨0, 1⟩ ⟨1, 1⟩ (by unfold isRot; decide +kernel) (Nat.le_trans h1 (by omega)) (Nat.le_trans h2 (by omega)) tri_fits
 rw [tri_img] at h
 exact h
theorem awake14_pc : PC prog 17 [] (.prim (.bool true)) := by
 have v00 : PC prog 80 [.prim (.int .i64 (0)), .prim (.int .i64 (0))] (pV ⟨0, 0⟩) := vof_pc 0 0 (by omega) (by omega)
 have v40 : PC prog 80 [.prim (.int .i64 (4)), .prim (.int .i64 (0))] (pV ⟨4, 0⟩) := vof_pc 4 0 (by omega) (by omega)
 have v02 : PC prog 80 [.prim (.int .i64 (0)), .prim (.int .i64 (2))] (pV ⟨0, 2⟩) := vof_pc 0 2 (by omega) (by omega)
 have v11 : PC prog 80 [.prim (.int .i64 (1)), .prim (.int .i64 (1))] (pV ⟨1, 1⟩) := vof_pc 1 1 (by omega) (by omega)
 have vm1 : PC prog 80 [.prim (.int .i64 (-1)), .prim (.int .i64 (1))] (pV ⟨-1, 1⟩) := vof_pc (-1) 1 (by omega) (by omega)
 have v15 : PC prog 80 [.prim (.int .i64 (1)), .prim (.int .i64 (5))] (pV ⟨1, 5⟩) := vof_pc 1 5 (by omega) (by omega)
 have o1 : PC prog 43 [.prim (.int .i64 (1))] (qV 1) := ofQ_pc 1 (by omega) (by omega)
 have pl : PC prog 22 [.agg [psV triL, .prim (.slice none 0 0)], pV ⟨0, 1⟩, pV ⟨1, 1⟩] (.tup [cgV triM [], .prim (.int .i64 (0))]) := PC_nilA tri_place
 have sm : PC prog 40 [cgV triM [], .agg [psV triM, .prim (.slice none 0 0)]] (.prim (.bool true)) := PC_arg2 (fun _ _ _ h => VR_anil h) (same_pc triM [] (by decide) (by decide) (fun _ h => (by cases h)))
 have eM : cgV triM [] = .agg [psV triM, .lst 1 []] := rfl
 rw [eM] at pl sm
 have e01 : pV ⟨0, 1⟩ = .agg [.prim (.bool false), .prim (.string (bs ([]))), .prim (.string (bs ([]))), .prim (.bool (can 1).neg), .prim (.string (bs ((can 1).num))), .prim (.string (bs ((can 1).den)))] := by simp only [pV, ptV, can_zero]
 rw [e01] at pl
 refine PCi ?_
 conv in trip _ _ => cbv
 simp only [runT, RN, simprocAttr]
 simp (disch := omega) only [↓RS, RZ, simprocAttr]
 refine cX v00 ?_
 simp (disch := omega) only [↓RS, RZ, simprocAttr, pV, ptV]
 refine cX v40 ?_
 simp (disch := omega) only [↓RS, RZ, simprocAttr, pV, ptV]
 refine cX v02 ?_
 simp (disch := omega) only [↓RS, RZ, simprocAttr, pV, ptV]
 refine cX o1 ?_
 simp (disch := omega) only [↓RS, RZ, simprocAttr, qV, rV]
 refine cX v11 ?_
 simp (disch := omega) only [↓RS, RZ, simprocAttr, pV, ptV]
 refine callD_qc (.tup [.agg [psV triM, .lst 1 []], .prim (.int .i64 (0))]) (some (0, none)) ⟨rfl, rfl, ⟨_, rfl⟩, by simp [touch], by simp [hasTop, hasPtr]⟩ ?_ ?_
 ·intro H0 h0
  have q0 : get H0 0 = some (.row 6 true (triL.map pc)) := by rw [h0 0 (by simp [touch])]; rfl
  have ql := get_lt_len q0
  refine SC_freeze1 q0 ?_ pl ⟨rfl, fun c k h => h⟩
  have g : get ((List.replicate H0.length (none : Option Blk)).set 0 (some (.row 6 true (triL.map pc)))) 0 = some (.row 6 true (triL.map pc)) := get_eq (by rw [List.length_replicate]; exact ql)
  have k3 := @viewLL_prims ((List.replicate H0.length (none : Option Blk)).set 0 (some (.row 6 true (triL.map pc)))) 6 _ (pc_prims triL)
  have k1 : (triL.map pc).length = 3 := rfl
  have k2 : (triL.map pc).take 3 = triL.map pc := rfl
  simp only [viewArgs, view, view.viewL, g, Nat.zero_add, k1, Nat.le_refl, if_true, List.drop_zero, k2, k3, Option.map_some, psV, pV, ptV]
 ·simp (disch := omega) only [↓RS, RZ, simprocAttr, setO, psV, touch_sref, touchS_row]
  refine cX vm1 ?_
  simp (disch := omega) only [↓RS, RZ, simprocAttr, pV, ptV]
  refine cX v11 ?_
  simp (disch := omega) only [↓RS, RZ, simprocAttr, pV, ptV]
  refine cX v15 ?_
  simp (disch := omega) only [↓RS, RZ, simprocAttr, pV, ptV]
  refine cX sm ?_
  simp (disch := omega) only [↓RS, RZ, simprocAttr]
end Go.Av
namespace Go.Av
open Go.RowKit
open Go.Proofs.Tryz (prog)
theorem chkR_ok {l : List Rp} (h : chkR l = 0) : allOk l = true := by
 unfold chkR at h
 split at h
 ·cases h
 ·split at h
  ·assumption
  ·cases h
def Aff.le (t : Aff) (A : Nat) : Prop := ht t.a ≤ A ∧ ht t.b ≤ A ∧ ht t.c ≤ A ∧ ht t.d ≤ A ∧ ht t.e ≤ A ∧ ht t.f ≤ A
theorem hp_ap {t : Aff} {A k : Nat} (h : t.le A) {p : Pt} (hp0 : hp p ≤ k) : hp (t.ap p) ≤ 3 * A + 2 * k + 2 := by
 obtain ⟨h1, h2, h3, h4, h5, h6⟩ := h
 have x := hp_x p
 have y := hp_y p
 have m1 := ht_mul t.a p.x; have m2 := ht_mul t.b p.y; have m3 := ht_mul t.c p.x; have m4 := ht_mul t.d p.y
 have a1 := ht_add (t.a * p.x) (t.b * p.y); have a2 := ht_add (t.a * p.x + t.b * p.y) t.e
 have a3 := ht_add (t.c * p.x) (t.d * p.y); have a4 := ht_add (t.c * p.x + t.d * p.y) t.f
 exact hp_mk (by omega) (by omega)
def hlP (L : List Pt) (Hs : List (List Pt)) (k : Nat) : Prop := ∀ l ∈ L :: Hs, hl l k
theorem hlP.fits {L : List Pt} {Hs : List (List Pt)} {k A : Nat} (h : hlP L Hs k) {t : Aff} (ht : t.le A) (hk : 3 * A + 2 * k + 2 ≤ 2 ^ 16) : Fits t L Hs := by
 intro l hl p hp
 obtain ⟨q, hq, rfl⟩ := List.mem_map.1 hp
 exact Nat.le_trans (hp_ap ht (h l hl q hq)) hk
theorem ht_one : ht 1 ≤ 1 := @ht_int 1 (by omega)
theorem ht_mone : ht (-1) ≤ 1 := @ht_int (-1) (by omega)
theorem le_move {v : Pt} {A : Nat} (h : hp v ≤ A) (hA : 1 ≤ A) : (moveA v).le A := by
 have := hp_x v; have := hp_y v; have := ht_one; have := ht_zero
 exact ⟨by simp only [moveA]; omega, by simp only [moveA]; omega, by simp only [moveA]; omega, by simp only [moveA]; omega, by simp only [moveA]; omega, by simp only [moveA]; omega⟩
theorem le_place {r v : Pt} {A : Nat} (h0 : hp r ≤ A) (h : hp v ≤ A) : (placeA r v).le A := by
 have := hp_x v; have := hp_y v; have := hp_x r; have := hp_y r; have := ht_neg r.y
 exact ⟨by simp only [placeA]; omega, by simp only [placeA]; omega, by simp only [placeA]; omega, by simp only [placeA]; omega, by simp only [placeA]; omega, by simp only [placeA]; omega⟩
theorem le_mir : mirA.le 1 := by
 have := ht_one; have := ht_mone; have := ht_zero
 exact ⟨by simp only [mirA]; omega, by simp only [mirA]; omega, by simp only [mirA]; omega, by simp only [mirA]; omega, by simp only [mirA]; omega, by simp only [mirA]; omega⟩
theorem le_scale {k : Rat} {A : Nat} (h : ht k ≤ A) (hA : 1 ≤ A) : (scaleA k).le A := by
 have := ht_zero
 exact ⟨by simp only [scaleA]; omega, by simp only [scaleA]; omega, by simp only [scaleA]; omega, by simp only [scaleA]; omega, by simp only [scaleA]; omega, by simp only [scaleA]; omega⟩
theorem le_sh {k : Rat} {A : Nat} (h : ht k ≤ A) (hA : 1 ≤ A) : (shA k).le A := by
 have := ht_zero; have := ht_one
 exact ⟨by simp only [shA]; omega, by simp only [shA]; omega, by simp only [shA]; omega, by simp only [shA]; omega, by simp only [shA]; omega, by simp only [shA]; omega⟩
end Go.Av
