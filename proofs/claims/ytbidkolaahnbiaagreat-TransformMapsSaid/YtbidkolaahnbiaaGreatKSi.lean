/- Helping texts: Si, Sk, Sj. -/
import Derived.Test.YtbidkolaahnbiaaGreatKSg
import Derived.Test.YtbidkolaahnbiaaGreatKGa
import Derived.Test.YtbidkolaahnbiaaGreatKSe
set_option linter.unusedSimpArgs false
set_option linter.unusedVariables false
set_option maxRecDepth 100000
set_option maxHeartbeats 16000000
namespace Go.Av
open Go.RowKit
open Go.Proofs.Tryz (prog)
theorem ty_map : tyOf prog 101 = some ⟨18, 240, [.bool false, .string ⟨#[]⟩, .string ⟨#[]⟩, .bool false, .string ⟨#[]⟩, .string ⟨#[]⟩, .bool false, .string ⟨#[]⟩, .string ⟨#[]⟩, .bool false, .string ⟨#[]⟩, .string ⟨#[]⟩, .bool false, .string ⟨#[]⟩, .string ⟨#[]⟩, .bool false, .string ⟨#[]⟩, .string ⟨#[]⟩], .struct [(27, 0, "A"), (27, 3, "B"), (27, 6, "C"), (27, 9, "D"), (27, 12, "E"), (27, 15, "F")], false⟩ := by kernel_rfl
def mpc (t : Aff) : List V := [.prim (.bool (can t.a).neg), .prim (.string (bs ((can t.a).num))), .prim (.string (bs ((can t.a).den))), .prim (.bool (can t.b).neg), .prim (.string (bs ((can t.b).num))), .prim (.string (bs ((can t.b).den))), .prim (.bool (can t.e).neg), .prim (.string (bs ((can t.e).num))), .prim (.string (bs ((can t.e).den))),
 .prim (.bool (can t.c).neg), .prim (.string (bs ((can t.c).num))), .prim (.string (bs ((can t.c).den))), .prim (.bool (can t.d).neg), .prim (.string (bs ((can t.d).num))), .prim (.string (bs ((can t.d).den))), .prim (.bool (can t.f).neg), .prim (.string (bs ((can t.f).num))), .prim (.string (bs ((can t.f).den)))]
def mpV (t : Aff) : V := .agg (mpc t)
theorem rimage_pc (t : Aff) (p : Pt) (ht0 : t.le (2 ^ 20)) (hp0 : hp p ≤ 2 ^ 20) : PC prog 240 [mpV t, pV p] (pV (t.ap p)) := by
 obtain ⟨ka, kb, kc, kd, ke, kf⟩ := ht0
 have kx := hp_x p; have ky := hp_y p
 have l1 := ht_mul t.a p.x; have l2 := ht_mul t.b p.y; have l3 := ht_add (t.a * p.x) (t.b * p.y)
 have l4 := ht_mul t.c p.x; have l5 := ht_mul t.d p.y; have l6 := ht_add (t.c * p.x) (t.d * p.y)
 have m1 := rmulQ_pc t.a p.x (by omega) (by omega)
 have m2 := rmulQ_pc t.b p.y (by omega) (by omega)
 have a1 := raddQ_pc (t.a * p.x) (t.b * p.y) (by omega) (by omega)
 have a2 := raddQ_pc (t.a * p.x + t.b * p.y) t.e (by omega) (by omega)
 have m3 := rmulQ_pc t.c p.x (by omega) (by omega)
 have m4 := rmulQ_pc t.d p.y (by omega) (by omega)
 have a3 := raddQ_pc (t.c * p.x) (t.d * p.y) (by omega) (by omega)
 have a4 := raddQ_pc (t.c * p.x + t.d * p.y) t.f (by omega) (by omega)
 refine PCi ?_
 conv in trip _ _ => cbv
 simp only [runT, RN, simprocAttr]
 simp (disch := omega) only [↓RS, RZ, simprocAttr, mpV, mpc, pV, ptV, ty_map]
 refine cX m1 ?_
 simp (disch := omega) only [↓RS, RZ, simprocAttr, qV, rV, ty_map]
 refine cX m2 ?_
 simp (disch := omega) only [↓RS, RZ, simprocAttr, qV, rV, ty_map]
 refine cX a1 ?_
 simp (disch := omega) only [↓RS, RZ, simprocAttr, qV, rV, ty_map]
 refine cX a2 ?_
 simp (disch := omega) only [↓RS, RZ, simprocAttr, qV, rV, ty_map]
 refine cX m3 ?_
 simp (disch := omega) only [↓RS, RZ, simprocAttr, qV, rV, ty_map]
 refine cX m4 ?_
 simp (disch := omega) only [↓RS, RZ, simprocAttr, qV, rV, ty_map]
 refine cX a3 ?_
 simp (disch := omega) only [↓RS, RZ, simprocAttr, qV, rV, ty_map]
 refine cX a4 ?_
 simp (disch := omega) only [↓RS, RZ, simprocAttr, qV, rV, pV, ptV]
 try rfl
theorem rring_pc (t : Aff) (l : List Pt) (ht0 : t.le (2 ^ 20)) (hne : l ≠ []) (hn : l.length ≤ 2 ^ 20) (hl0 : hl l (2 ^ 20)) : PC prog 170 [mpV t, psV l] (psV (l.map t.ap)) := by
 have hlm : (l.map pc).length = l.length := List.length_map ..
 refine PCi ?_
 conv in trip _ _ => cbv
 simp only [runT, RN, simprocAttr]
 simp (disch := omega) only [↓RS, RZ, simprocAttr, mpV, psV, hlm, ty_map]
 refine wp_lp (fun (s : Nat × V) J => ov [(1, psV l), (2, .ptr 0 0 0), (5, s.2), (6, .prim (.int .i64 ((s.1 : Nat) : Int)))] J 0 23) (fun s H => s.1 ≤ l.length ∧ get H 0 = some (.row 18 true [mpc t]) ∧ Bufn 1 H s.2 6 (((l.take s.1).map t.ap).map pc)) (fun s => l.length - s.1) (0, .prim (.slice none 0 0)) rfl ⟨Nat.zero_le _, rfl, .nil (by simp)⟩ ?_
 rintro ⟨i, v⟩ J H ⟨hi, h0, hB⟩
 try conv in ov _ _ _ _ => simp only [ov, List.lookup, RO, simprocAttr]
 simp only at hi h0 hB ⊢
 have d1 := hB.one
 have d2 := hB.cel
 have hN := hB.1
 rcases Nat.lt_or_ge i l.length with hlt | hge
 ·have g := pc_getD hlt
  have im := rimage_pc t (l.getD i default) ht0 (hl_get hl0 hlt)
  have htl : (l.take i).length = i := by rw [List.length_take]; omega
  simp (disch := omega) only [↓RS, RZ, simprocAttr, psV, hlm, g, pc, h0, mpc, d1, d2, ty_map]
  refine cX im ?_
  simp (disch := omega) only [↓RS, RZ, simprocAttr, pV, ptV, d1, d2]
  refine Bufn.append (hB.app _) (by simp [cellV]) (by simp only [List.length_cons, List.length_nil, List.length_map, htl]; omega) (by simp only [List.length_cons, List.length_nil, List.length_map, htl]; omega) ?_
  intro v' H3 hb3 hk
  have e1 := hb3.one
  have e2 := hb3.cel
  simp (disch := omega) only [↓RS, RZ, simprocAttr, e1, e2]
  refine lp_next (i + 1, v') rfl ⟨hlt, hk 0 _ (by omega) (get_app h0), ?_⟩ (by simp only; omega)
  have e : ((l.take (i + 1)).map t.ap).map pc = ((l.take i).map t.ap).map pc ++ [pc (t.ap (l.getD i default))] := by
   rw [List.take_add_one, List.getElem?_eq_getElem hlt, List.map_append, List.map_append, List.getD_eq_getElem?_getD, List.getElem?_eq_getElem hlt]; rfl
  show Bufn 1 H3 v' 6 (((l.take (i + 1)).map t.ap).map pc)
  rw [e]
  exact hb3
 ·have hia : i = l.length := by omega
  subst hia
  rw [List.take_of_length_le (Nat.le_refl _)] at hB
  obtain ⟨b, _, rfl, hg⟩ := hB.cases (by simpa using hne)
  have hml : ((l.map t.ap).map pc).length = l.length := by rw [List.length_map, List.length_map]
  have htk : ((l.map t.ap).map pc).take l.length = (l.map t.ap).map pc := by rw [List.take_of_length_le (by omega)]
  have hvl := @viewLL_prims H 7 _ (pc_prims (l.map t.ap))
  rw [hml]
  simp (disch := omega) only [↓RS, RZ, simprocAttr, psV, hlm, hg, hml, htk, hvl]
end Go.Av
namespace Go.Av
open Go.RowKit
open Go.Proofs.Tryz (prog)
variable {L : List Pt} {Hs : List (List Pt)}
theorem Valid.rcheck_pc (h : Valid L Hs) : PC prog 75 [cgV L Hs] (.prim (.int .i64 (0))) := by
 have hf := h.fine
 have := rcheckP_pc (L.map Pt.rp) (Hs.map fun l => l.map Pt.rp) (by rw [List.length_map]; have := h.few; omega) (by rw [List.length_map]; have := h.out.hi; omega) hf.kO (fun l hl => by
  obtain ⟨m, hm, rfl⟩ := List.mem_map.1 hl
  exact ⟨by rw [List.length_map]; have := (h.holes m hm).hi; omega, (hf.kh _ hl).2⟩)
 rw [hf.chk, ← cg_pg] at this
 exact this
theorem rmapped_canon {t : Aff} (hv : Valid L Hs) (h3 : Hs.length ≤ 3) (ht : Par t) (hf : Fits t L Hs) :
 PC prog 73 [cgV (L.map t.ap) (Hs.map fun l => l.map t.ap)] (.tup [cgV (imgL t L) (imgH t Hs), .prim (.int .i64 (0))]) := by
 have e : (Hs.map fun l => l.map t.ap).map canonL = Hs.map (imgL t) := by rw [List.map_map]; rfl
 have pos : ∀ l, Ring l → 0 < l.length := fun l r => by have := r.lo; omega
 have hp : (Hs.map (imgL t)).Pairwise Sep := by
  rw [List.pairwise_map]
  exact hv.pw.imp_of_mem fun ha hb s => s.img ht (pos _ (hv.holes _ ha)) (pos _ (hv.holes _ hb))
 refine rcanonP_pc (L.map t.ap) (Hs.map fun l => l.map t.ap) (by rw [List.length_map]; omega) (hf.can ht.1 hv) (imgH t Hs) ?_ (hv.img h3 ht hf).rcheck_pc
 rw [e]
 exact ins_sort (by rw [List.length_map]; exact h3) hp fun l hl => by
  obtain ⟨x, hx, rfl⟩ := List.mem_map.1 hl
  exact pos _ ((hv.holes x hx).img ht.1 (hf x (List.mem_cons_of_mem _ hx)))
theorem rpolygon_pc {t : Aff} (hv : Valid L Hs) (h3 : Hs.length ≤ 3) (ht : Par t) (hf : Fits t L Hs) (htl : t.le (2 ^ 20)) : PC prog 84 [mpV t, cgV L Hs] (.tup [cgV (imgL t L) (imgH t Hs), .prim (.int .i64 (0))]) := by
 have cn := rmapped_canon hv h3 ht hf
 have r0 := rring_pc t L htl hv.out.ne (by have := hv.out.hi; omega) (hv.out.le (by omega))
 refine PCi ?_
 conv in trip _ _ => cbv
 simp only [runT, RN, simprocAttr]
 simp (disch := omega) only [↓RS, RZ, simprocAttr, mpV, mpc, cgV, psV, ty_map]
 refine cX r0 ?_
 simp (disch := omega) only [↓RS, RZ, simprocAttr, psV]
 refine wp_lp (fun (s : Nat × V) J => ov [(2, .ptr 0 0 0), (3, .ptr 1 0 0), (4, .ptr 2 0 0), (6, .ptr 3 0 0), (7, .prim (.int .i64 ((s.1 : Nat) : Int)))] J 0 36)
  (fun s H => s.1 ≤ Hs.length ∧ NilTo (s.1 + 1) s.2 ∧ get H 0 = some (.row 18 true [mpc t]) ∧ get H 1 = some (.row 2 true [[psV L, .lst 1 ((Hs.map psV).map fun v => [v])]]) ∧ get H 2 = some (.row 2 true [[.prim (.slice none 0 0), .prim (.slice none 0 0)]])
   ∧ get H 3 = some (.row 2 true [[psV (L.map t.ap), s.2]]) ∧ Bufn 4 H s.2 1 (((Hs.take s.1).map fun l => l.map t.ap).map hcel)) (fun s => Hs.length - s.1) (0, .prim (.slice none 0 0)) rfl
   ⟨Nat.zero_le _, fun _ => rfl, rfl, rfl, rfl, rfl, .nil (by simp)⟩ ?_
 rintro ⟨i, v⟩ J H ⟨hi, hnil, g0, g1, g2, g3, hBf⟩
 try conv in ov _ _ _ _ => simp only [ov, List.lookup, RO, simprocAttr]
 simp only at hi hnil g0 g1 g2 g3 hBf ⊢
 have hN := hBf.1
 have d1 := hBf.one
 have d2 := hBf.cel
 rcases Nat.lt_or_ge i Hs.length with hlt' | hge
 ·have g := pg_getD hlt'
  have hr := Ringside hv hlt'
  have rr := rring_pc t (Hs.getD i []) htl hr.ne (by have := hr.hi; omega) (hr.le (by omega))
  have htl2 : (Hs.take i).length = i := by rw [List.length_take]; omega
  have n3 : (H.length == 3) = false := by rw [beq_eq_false_iff_ne]; omega
  simp (disch := omega) only [↓RS, RZ, simprocAttr, g0, g1, g3, g, psV, mpc, one_length, pgs_length, d1, d2, ty_map]
  refine cX rr ?_
  simp (disch := omega) only [↓RS, RZ, simprocAttr, psV, d1, d2, n3]
  refine Bufn.append (hBf.app _) (by simp [cellV]) (by simp only [List.length_cons, List.length_nil, List.length_map, htl2]; omega) (by simp only [List.length_cons, List.length_nil, List.length_map, htl2]; omega) ?_
  intro v' H6 hb hk
  have q0 := hk 0 _ (by omega) (get_app g0)
  have q1 := hk 1 _ (by omega) (get_app g1)
  have q2 := hk 2 _ (by omega) (get_app g2)
  have q3 := hk 3 _ (by omega) (get_app g3)
  have f1 := hb.one
  have f2 := hb.cel
  have hl6 := hb.1
  simp (disch := omega) only [↓RS, RZ, simprocAttr, q3, f1, f2]
  refine lp_next (i + 1, v') rfl ⟨hlt', fun h => absurd h (by simp only; omega), ?_, ?_, ?_, ?_, ?_⟩ (by simp only; omega)
  ·rw [get_ne (by omega)]; exact q0
  ·rw [get_ne (by omega)]; exact q1
  ·rw [get_ne (by omega)]; exact q2
  ·rw [get_eq (by omega)]; rfl
  ·have e : ((Hs.take (i + 1)).map fun l => l.map t.ap).map hcel = ((Hs.take i).map fun l => l.map t.ap).map hcel ++ [[.lst 6 (((Hs.getD i []).map t.ap).map pc)]] := by
    rw [List.take_add_one, List.getElem?_eq_getElem hlt', List.map_append, List.map_append, List.getD_eq_getElem?_getD, List.getElem?_eq_getElem hlt']; rfl
   show Bufn 4 _ v' 1 (((Hs.take (i + 1)).map fun l => l.map t.ap).map hcel)
   rw [e]
   exact hb.set (by omega)
 ·have hia : i = Hs.length := by omega
  subst hia
  rw [List.take_length] at hBf
  have hml : ((Hs.map fun l => l.map t.ap).map hcel).length = Hs.length := by rw [List.length_map, List.length_map]
  by_cases hz : Hs = []
  ·subst hz
   have hnil := hnil (Nat.le_refl _)
   subst hnil
   have c3 : PC prog 73 [.agg [psV (L.map t.ap), .prim (.slice none 0 0)]] (.tup [cgV (imgL t L) (imgH t []), .prim (.int .i64 (0))]) := PC_nilA cn
   have s2 : ∀ x, get (H.set 2 x) 2 = x := fun x => get_eq (get_lt_len g2)
   simp (disch := omega) only [↓RS, RZ, simprocAttr, g1, one_length, pgs_length, g3, psV]
   refine cX c3 ?_
   simp (disch := omega) only [↓RS, RZ, simprocAttr, cgV, psV, g2, s2]
  ·obtain ⟨b, hb, rfl, hgb⟩ := hBf.cases (by intro e; rw [e] at hml; exact hz (List.length_eq_zero_iff.1 hml.symm))
   rw [hml] at g3
   have ec : cgV (L.map t.ap) (Hs.map fun l => l.map t.ap) = .agg [.lst 6 ((L.map t.ap).map pc), .lst 1 ((Hs.map fun l => l.map t.ap).map hcel)] := by
    unfold cgV; rw [List.map_map]; rfl
   rw [ec] at cn
   generalize Hs.map (fun l => l.map t.ap) = Y at *
   have hb2 := get_lt_len hgb
   simp (disch := omega) only [↓RS, RZ, simprocAttr, g1, one_length, pgs_length, g3, psV]
   refine call_sc (SC_freeze1 hgb (view_Y hb2 hml) cn ?_)
   have p2 : get (H.set b none) 2 = some (.row 2 true [[.prim (.slice none 0 0), .prim (.slice none 0 0)]]) := by rw [get_ne (by omega)]; exact g2
   generalize H.set b none = H6 at p2 ⊢
   have s2 : ∀ x, get (H6.set 2 x) 2 = x := fun x => get_eq (get_lt_len p2)
   simp (disch := omega) only [↓RS, RZ, simprocAttr, cgV, psV, p2, s2]
end Go.Av
namespace Go.Av
open Go.RowKit
open Go.Proofs.Tryz (prog)
def noV (z : Int) : V := .tup [.agg [.prim (.slice none 0 0), .prim (.slice none 0 0)], .prim (.int .i64 (z))]
structure Small (O : List Rp) (hs : List (List Rp)) : Prop where
 n : hs.length < 2 ^ 40
 nO : O.length < 2 ^ 40
 kO : ∀ p ∈ O, p.le (2 ^ 16)
 kh : ∀ l ∈ hs, l.length < 2 ^ 40 ∧ ∀ p ∈ l, p.le (2 ^ 16)
theorem Small.check {O : List Rp} {hs : List (List Rp)} (h : Small O hs) : PC prog 74 [pgV O hs] (.prim (.int .i64 (chkP O hs))) :=
 Pcheck_pc O hs (by have := h.n; omega) (by have := h.nO; omega) h.kO fun l hl => ⟨by have := (h.kh l hl).1; omega, (h.kh l hl).2⟩
theorem mappedBad_sc {O : List Rp} {hs : List (List Rp)} (h : Small O hs) (valid : Bool) (hbad : chkP O hs ≠ 0 ∨ valid = false) {F : FuncId} {caps : List V} {H : Hp} {K : V → Hp → Prop} (hK : ∀ H', Ext H H' → K (noV 1) H') :
 SC prog 81 [pgV O hs, .prim (.bool valid), .clo F [] caps] H K := by
 have ck := h.check
 unfold noV at hK
 by_cases hz : chkP O hs = 0
 ·have hf : valid = false := hbad.resolve_left (fun k => k hz)
  subst hf
  rw [hz] at ck
  refine SCi ?_
  conv in trip _ _ => cbv
  simp only [runT, RN, simprocAttr]
  simp (disch := omega) only [↓RS, RZ, simprocAttr, pgV, hsV, rpsV, get_app_len3, get_app_len2]
  refine cX ck ?_
  simp (disch := omega) only [↓RS, RZ, simprocAttr, get_app_len3, get_app_len2, get_app_len, set_app_len, set_app_len2]
  exact hK _ (((Ext.app _).trans (Ext.app _)).trans (Ext.app _))
 ·generalize chkP O hs = z at *
  refine SCi ?_
  conv in trip _ _ => cbv
  simp only [runT, RN, simprocAttr]
  simp (disch := omega) only [↓RS, RZ, simprocAttr, pgV, hsV, rpsV, get_app_len3, get_app_len2]
  refine cX ck ?_
  simp (disch := omega) only [↓RS, RZ, simprocAttr, get_app_len3, get_app_len2, get_app_len, set_app_len, set_app_len2]
  exact hK _ (((Ext.app _).trans (Ext.app _)).trans (Ext.app _))
end Go.Av
