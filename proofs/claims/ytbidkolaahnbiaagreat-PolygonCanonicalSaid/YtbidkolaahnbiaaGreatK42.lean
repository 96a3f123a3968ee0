/- Helping texts: Fa, Fs, Ft. -/
import Derived.Test.YtbidkolaahnbiaaGreatK30
import Derived.Test.YtbidkolaahnbiaaGreatK08
set_option linter.unusedSimpArgs false
set_option linter.unusedVariables false
namespace Go.Av
open Go.RowKit
open Go.Proofs.Tryz (prog)
/-- What a call that makes a list of points leads to. -/
def NewL (H : Hp) (l : List Pt) (K : V → Hp → Prop) : Prop := ∀ b H', Ext H H' → H.length ≤ b → get H' b = some (.row 6 true (l.map pc)) → K (.sref b 0 l.length l.length 6 false) H'
theorem clone_sc (l : List Pt) (hne : l ≠ []) (hn : l.length ≤ 2 ^ 30) {H : Hp} {K : V → Hp → Prop} (hK : NewL H l K) : SC prog 278 [psV l] H K := by
  obtain ⟨p, t, rfl⟩ : ∃ p t, l = p :: t := by
    cases l with
    | nil => exact absurd rfl hne
    | cons p t => exact ⟨p, t, rfl⟩
  have e : ∀ x, eqA (tyOf prog) 9 22 (.lst 6 (x :: t.map pc)) (.prim (.slice none 0 0)) = some false := by
    intro x; unfold eqA; simp only [RT]
  refine SC_intro mixed (FnD.of (by kernel_rfl)) ?_
  conv in lcOf _ _ => cbv
  conv in ntOf _ _ => cbv
  conv in rsOf _ _ => cbv
  simp only [RN, Nat.reduceAdd, Nat.reduceSub]
  simp (maxSteps := 2000000) (disch := omega) only [↓RS, RW, RB, RX, RE, RK, RT, evN, evA, evL, binV, unV, intOfV, lenV, TK.isAgg, sliceV, reduceCtorEq, Nat.reduceAdd, Nat.reduceLT, Nat.reduceLeDiff, List.reduceReplicate, elemsOf, added, view, view.viewL, view.viewLL, Nat.reducePow, Nat.reduceDiv, Nat.reduceMod, Nat.reduceEqDiff, Nat.reduceBEq, psV, List.map_cons, e]
  refine ⟨fun y hy v hv => by obtain ⟨s, _, rfl⟩ := List.mem_map.1 (show y ∈ (p :: t).map pc from hy); simp only [pc, List.mem_cons, List.not_mem_nil, or_false] at hv; rcases hv with rfl | rfl | rfl | rfl | rfl | rfl <;> rfl, ?_⟩
  simp only [get_app_len]
  have hl : ((p :: t).map pc).length = (p :: t).length := List.length_map ..
  refine ⟨trivial, by simp, .inr (.inl ⟨trivial, ?_, ?_, ?_, ?_⟩)⟩
  · show 0 < 0 + ((p :: t).map pc).length; rw [hl]; simp
  · show (0 + ((p :: t).map pc).length) * 80 ≤ _; rw [hl]; omega
  · show 0 + ((p :: t).map pc).length ≤ _; rw [hl]; omega
  have := hK (H ++ [some (Blk.row 6 true [])]).length (H ++ [some (Blk.row 6 true [])] ++ [some (Blk.row 6 true ((p :: t).map pc))]) ((Ext.app _).trans (Ext.app _)) (by rw [List.length_append]; omega) get_app_len
  have hl2 : (pc p :: List.map pc t).length = (p :: t).length := hl
  rw [hl2]
  simp only [List.map_cons] at this
  simp (maxSteps := 2000000) (disch := omega) only [↓RS, RW, RB, RX, RE, RK, RT, evN, evA, evL, binV, unV, intOfV, lenV, TK.isAgg, sliceV, reduceCtorEq, Nat.reduceAdd, Nat.reduceLT, Nat.reduceLeDiff, List.reduceReplicate, elemsOf, added, view, view.viewL, view.viewLL, Nat.reducePow, Nat.reduceDiv, Nat.reduceMod, Nat.reduceEqDiff, Nat.reduceBEq]
  exact this
end Go.Av
namespace Go.Av
open Go.RowKit
def noGo (Q : Exit → Act → World → Prop) : Exit → Act → World → Prop
  | .goto _, _, _ => False
  | e, a, w => Q e a w
theorem stepR_scope {P : Program} {b : Frame} {a : Act} {k : List Item} {cs : List Frame} {w : World} {c : Code} :
    step P (lone (b.atR a (.code (.scope c) :: k)) cs w) = .next (lone (b.atR a (.code c :: .inScope c :: k)) cs w) :=
  step_lone_go (by simp [stepG, stepG.exec, Frame.atR])
theorem stepR_inScope {P : Program} {b : Frame} {a : Act} {k : List Item} {cs : List Frame} {w : World} {c : Code} :
    step P (lone (b.atR a (.inScope c :: k)) cs w) = .next (lone (b.atR a k) cs w) :=
  step_lone_go (by simp [stepG, stepG.exec, Frame.atR])
theorem wpIn_scope {F : Fence} {n : Nat} {P : Program} {Q : Exit → Act → World → Prop} {a : Act} {w : World} {c : Code} (h : c.wpIn F n P (noGo Q) a w) : (Code.scope c).wpIn F n P Q a w := by
  intro b k cs hro hb hr
  have h0 : (lone (b.atR a (.code (.scope c) :: k)) cs w).fenced P F := fenced_calm hb hr rfl
  obtain ⟨e, a₁, w₁, hq, harr⟩ := h b (.inScope c :: k) cs hro hb hr
  cases e with
  | normal => exact ⟨.normal, a₁, w₁, hq, .head h0 stepR_scope (StepsIn.trans harr (.one (fenced_calm hb hr rfl) stepR_inScope))⟩
  | exit id =>
    have hx : exitTo id (.inScope c :: k) = exitTo id k := by simp [exitTo]
    exact ⟨.exit id, a₁, w₁, hq, fun k' hk => .head h0 stepR_scope (harr.1 k' (by rw [hx]; exact hk)),
      fun hr' hk => let ⟨k₁, h1, h2⟩ := harr.2 hr' (by rw [hx]; exact hk); ⟨k₁, h1, .head h0 stepR_scope h2⟩⟩
  | goto l => exact hq.elim
  | ret => exact ⟨_, a₁, w₁, hq, .of_steps (.one h0 stepR_scope) harr⟩
  | panic ch => exact ⟨_, a₁, w₁, hq, .of_steps (.one h0 stepR_scope) harr⟩
  | outgrown => exact ⟨_, a₁, w₁, hq, .of_steps (.one h0 stepR_scope) harr⟩

variable {P : Program} {H : Hp}
structure FnS (P : Program) (f : FuncId) (k : Nat) (rs : List ResultVar) (lc : LC) : Prop where
  ex : ∃ fn c d x y, P.funcs[f]? = some fn ∧ fn.body = some (.seq c (.scope d)) ∧ lite c = some x ∧ lite d = some y ∧ rfOk c = true ∧ rfOk d = true ∧ (fn.name == "runtime.NumGoroutine") = false ∧ fn.ntmps = k ∧ fn.results.toList = rs ∧ lc = .seq x y
theorem FnS.call {f : FuncId} {k : Nat} {rs : List ResultVar} {lc : LC} (h : FnS P f k rs lc) (xs : Array Value) (W : World) : (callFunc f xs).run P W = .ok (.enter f xs) W := by
  obtain ⟨fn, c, d, x, y, h1, h2, _, _, _, _, h5, _⟩ := h.ex
  simp [callFunc, Sem.run_bind, h1, h2]
  simpa using h5
theorem SC_introS (hm : P.follows .mixedOrders = true) {f : FuncId} {k : Nat} {rs : List ResultVar} {lc : LC} (hf : FnS P f k rs lc) {args : List V} {Q : V → Hp → Prop} (h : wpL P lc (entryT k args) H (retP P rs Q)) : SC P f args H Q := by
  intro φ I w xs hS hxs
  refine ⟨hf.call xs, (callsIn_wide (n := 0)).1 ?_⟩
  obtain ⟨fn, c, d, x, y, h1, h2, h3, h3', h4, h4', h5, h6, h7, rfl⟩ := hf.ex
  refine callsIn_of_wp_marks h1 h2 trivial ?_
  have hW : Within w.heap.size φ I H w φ I (entryT k args) H w ⟨xs ++ Array.replicate (fn.ntmps - xs.size) undef, []⟩ := by
    refine ⟨⟨?_, fun i v x hv hx => ?_⟩, hS, Step.refl, ⟨[], List.nodup_nil, rfl, by simp⟩, Nat.le_refl _⟩
    · simp [entryT, hxs.len, h6]
    · simp only [entryT] at hv
      rw [List.getElem?_append] at hv
      rw [Array.getElem?_append] at hx
      rw [hxs.len] at hv
      split at hv
      · rename_i hlt; rw [if_pos hlt] at hx; exact hxs.at_ i v x hv hx
      · rename_i hlt; rw [if_neg hlt] at hx
        rw [List.getElem?_replicate] at hv
        split at hv
        · cases hv
          rw [Array.getElem?_replicate] at hx
          split at hx
          · cases hx; exact undef_VR
          · cases hx
        · cases hv
  have fin : ∀ {φ' I' T' H'} {a' : Act} {w' : World}, Within w.heap.size φ I H w φ' I' T' H' w' a' → (∃ vs, resVs (tyOf P) T' H' fn.results.toList = some vs ∧ Q (retV vs) H') → LeavesInM Fence.wide 0 P fn a'.tmps (Ends φ I H w Q) a'.defers .returning w' := by
    rintro φ' I' T' H' a' w' hW' ⟨vs, hv, hq⟩
    obtain ⟨Ds, q1, q2, q3⟩ := hW'.d
    have e : a' = ⟨a'.tmps, Ds.map mark⟩ := by rw [← q2]
    rw [q2]
    exact leave_sound rfl hv hq Ds w' (by rw [e] at hW'; exact hW')
  rw [h7] at fin
  have h : wpL P x (entryT k args) H (fun z T H => match z with | .normal => wpL P y T H (retP P rs Q) | z => retP P rs Q z T H) := h
  refine wpIn_seq (wpIn_mono (code_sound hm (ro := none) (n := 0) c x h3 h4 (.inl rfl) hW h) ?_)
  rintro e a' w' ⟨z, rfl, φ', I', T', H', hW', hq⟩
  cases z with
  | normal =>
    refine wpIn_scope (wpIn_mono (code_sound hm (ro := none) (n := 0) d y h3' h4' (.inl rfl) hW' hq) ?_)
    rintro e a' w' ⟨z, rfl, φ', I', T', H', hW', hq⟩
    unfold retP at hq
    cases z with
    | normal =>
      simp only at hq
      split at hq
      · rename_i vs hv; exact fin hW' ⟨vs, hv, hq⟩
      · exact hq.elim
    | ret =>
      simp only at hq
      split at hq
      · rename_i vs hv; exact fin hW' ⟨vs, hv, hq⟩
      · exact hq.elim
    | exit id => exact hq.elim
    | goto l => exact hq.elim
  | ret =>
    unfold retP at hq
    simp only at hq
    split at hq
    · rename_i vs hv; exact fin hW' ⟨vs, hv, hq⟩
    · exact hq.elim
  | exit id => unfold retP at hq; exact hq.elim
  | goto l => unfold retP at hq; exact hq.elim
def lcS (P : Program) (f : FuncId) : LC := match P.funcs[f]? with
  | some fn => match fn.body with
    | some (.seq c (.scope d)) => .seq (liteF c) (liteF d)
    | _ => .skip
  | none => .skip
def fnS (P : Program) (f : FuncId) : Bool := match P.funcs[f]? with
  | some fn => match fn.body with
    | some (.seq c (.scope d)) => (lite c).isSome && (lite d).isSome && rfOk c && rfOk d && !(fn.name == "runtime.NumGoroutine")
    | _ => false
  | none => false
theorem FnS.of {f : FuncId} (h : fnS P f = true) : FnS P f (ntOf P f) (rsOf P f) (lcS P f) := by
  unfold fnS at h
  split at h
  · rename_i fn h1
    unfold ntOf rsOf lcS
    rw [h1]
    split at h
    · rename_i c d h2
      simp only [Bool.and_eq_true, Bool.not_eq_true'] at h
      obtain ⟨⟨⟨⟨p1, p2⟩, p3⟩, p4⟩, p5⟩ := h
      obtain ⟨x, hx⟩ := Option.isSome_iff_exists.1 p1
      obtain ⟨y, hy⟩ := Option.isSome_iff_exists.1 p2
      refine ⟨fn, c, d, x, y, h1, h2, hx, hy, p3, p4, p5, rfl, rfl, ?_⟩
      simp only [h2, liteF_eq c x hx, liteF_eq d y hy]
    · cases h
  · cases h
end Go.Av
namespace Go.Av
open Go.RowKit
variable {P : Program} {H : Hp}
theorem SC_freeze1 {f : FuncId} {args us : List V} {r : V} {K : V → Hp → Prop} {b sz : Nat} {es : List (List V)} (hb : get H b = some (.row sz true es))
    (hv : viewArgs ((List.replicate H.length none).set b (some (.row sz true es))) args = some us) (hp : PC P f us r) (hK : K r (H.set b none)) : SC P f args H K := by
  intro φ I w xs hS hxs
  have hbl := get_lt hb
  have gM : ∀ c k, get ((List.replicate H.length none).set b (some (.row sz true es))) c = some k → c = b ∧ k = .row sz true es := by
    intro c k h
    unfold get at h
    rw [List.getElem?_set] at h
    split at h
    · rename_i e
      rw [if_pos (by rw [List.length_replicate]; exact hbl)] at h
      exact ⟨e.symm, by cases h; rfl⟩
    · rw [List.getElem?_replicate] at h
      split at h <;> cases h
  have hM : SR φ I ((List.replicate H.length none).set b (some (.row sz true es))) w := by
    refine ⟨fun c L h => ⟨by simpa using (hS.dom c L h).1, (hS.dom c L h).2⟩, hS.imm, fun c L k h hk => ?_, fun c c' L L' k k' _ _ h3 h4 _ _ _ => ?_⟩
    · obtain ⟨rfl, rfl⟩ := gM c k hk
      exact hS.blk c L _ h hb
    · rw [(gM c k h3).1, (gM c' k' h4).1]
  obtain ⟨q1, q2⟩ := viewArgs_get hv
  have key : ∀ J : Nat → Prop, SR φ J (H.set b none) w → Step φ I H w φ J (H.set b none) w → (∀ B, I B → J B) → (∀ L, φ b = some L → J L.B) →
      (∀ W, (callFunc f xs).run P W = .ok (.enter f xs) W) ∧ Calls P f xs w (Ends φ I H w K) := by
    intro J hJ hst hIJ hJb
    have hargs : VRs (fun _ => none) J w us xs := ⟨by rw [q1, hxs.len], fun k v x h1 h2 => by
      obtain ⟨v1, hv1, hvv⟩ := get_back q1 q2 h1
      refine view_VR hIJ hM 9 v1 v x hvv (hxs.at_ k v1 x hv1 h2) (.inr fun c L k h hk => ?_)
      obtain ⟨rfl, _⟩ := gM c k hk
      exact hJb L h⟩
    obtain ⟨h1, h2⟩ := hp J w xs hJ.imm hargs
    refine ⟨h1, h2.mono ?_⟩
    rintro e w' ⟨x, rfl, hx, hbelow⟩
    obtain ⟨p1, p2⟩ := hJ.below (I' := fun B => J B ∨ (w.heap.size ≤ B ∧ B < w'.heap.size)) hbelow (fun _ h => .inl h) (fun _ h => h)
    exact ⟨x, r, _, φ, _, rfl, hK, hx.any, p1, hst.trans p2⟩
  cases hφ : φ b with
  | none =>
    have hse : H.set b none = setH H b none := (setH_lt _ hbl).symm
    obtain ⟨k1, k2⟩ := hS.kill hbl
    rw [← hse] at k1 k2
    exact key I k1 k2 (fun _ h => h) (fun L h => by rw [hφ] at h; cases h)
  | some L =>
    obtain ⟨k1, k2⟩ := hS.freeze hφ hb
    exact key _ k1 k2 (fun _ h => .inl h) (fun L' h => by rw [hφ] at h; cases h; exact .inr rfl)
end Go.Av
