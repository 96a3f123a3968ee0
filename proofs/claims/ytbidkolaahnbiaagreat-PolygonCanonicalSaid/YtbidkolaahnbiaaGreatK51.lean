/- PolygonCanonical answers true for every input: a valid polygon is its own canonical form; beginning rings with other vertices, turning them round and exchanging holes changes nothing. No condition. -/
import Derived.Test.YtbidkolaahnbiaaGreatRows
import Derived.Test.YtbidkolaahnbiaaGreatK49
import Derived.Test.YtbidkolaahnbiaaGreatK25
import Derived.Test.YtbidkolaahnbiaaGreatK50
import Derived.ProofKit
set_option linter.unusedSimpArgs false
set_option linter.unusedVariables false
namespace Go.Av
end Go.Av
namespace Go.Proofs.YtbidkolaahnbiaaGreat
open Go.ChangeShapes Go.WideShapes Go.ChangeAt Go.RowKit
theorem Tryz.own : ownKnob Tryz.prog.godebug = none := by kernel_rfl
theorem Tryz.laidOut : laidOutB Tryz.prog = true := by kernel_rfl

set_option maxRecDepth 100000 in
theorem polygonCanonical_lifted (os : Os) (started : os.Started) (H : Type) (enc : TypeId × Value → H) :
    ReturnsInHanded {} Tryz.checked os 15 .any (Rows.polygonCanonicalSpec.pre6 enc Tryz.prog Tryz.f15 Rows.polygonCanonicalRow.domain false) (Rows.polygonCanonicalSpec.post enc Tryz.prog Tryz.f15 false true false false) := by
  refine returnsInHanded_of_change (C := Tryz.checked) Tryz.own started (by kernel_rfl) Tryz.func15
    (ChangeSpec.witness6 (enc := enc) (C := Tryz.checked) false ⟨#[], #[.agg #[.slice none 0 0, .slice none 0 0], .int .u8 0, .bool false, .bool false], []⟩ 8 (by kernel_rfl) (by kernel_rfl) (by kernel_rfl) (by kernel_rfl)) ?_
  intro W base args ds gs before hval0 hW hcnd _
  have hval : ∀ (j : Nat) t v, Tryz.f15.params[j]? = some t → args[j]? = some v → Value.okWide Tryz.prog W .any base t v := hval0
  have hW' := hW
  obtain ⟨p, q, hA0, hV, rfl, hfz, hnd⟩ := hW
  have hA : DataW.TrodAll enc Tryz.prog W 0 (fun _ => true) true Tryz.f15.params.toList args.toList ds p := hA0
  rw [Tryz.params15] at hA hval
  obtain ⟨v0, v1, v2, v3, d0, d1, d2, d3, p0, p1, p2, p3, rfl, rfl, rfl, h0, h1, h2, h3⟩ := trodAll_four hA
  obtain ⟨rfl, rfl⟩ := trodVars_none hV
  have h0k := h0
  obtain ⟨n1, rfl, rfl, rfl, w1⟩ := open_int Tryz.underlying5 (hval 1 5 v1 rfl rfl) h1
  obtain ⟨y2, rfl, rfl, rfl⟩ := open_bool Tryz.underlying4 (hval 2 4 v2 rfl rfl) h2
  obtain ⟨y3, rfl, rfl, rfl⟩ := open_bool Tryz.underlying4 (hval 3 4 v3 rfl rfl) h3
  obtain ⟨fuel, h0f⟩ := h0
  obtain ⟨O, hs, hvr, hO, hs1, hs2⟩ := Go.Av.trod_pg h0f
  have b1 : 0 ≤ n1 ∧ n1 < 256 := by
    have h : IntKind.min .u8 ≤ n1 ∧ n1 ≤ IntKind.max .u8 := by have h := w1; simp only [Lit.wf, Bool.and_eq_true, decide_eq_true_eq] at h; exact h
    have e1 : IntKind.min .u8 = 0 := by decide
    have e2 : IntKind.max .u8 = 255 := by decide
    omega
  obtain ⟨i, rfl⟩ : ∃ i : Nat, n1 = i := ⟨n1.toNat, by omega⟩
  clear hA0 hval0
  simp only [List.append_nil] at hW' hfz
  have hlt : ∀ x ∈ p0, x.block < W.heap.size := fun x hx => by simpa using hW'.lt x (by simpa using hx)
  have hpc := Go.Av.polygonCanonical_pc O hs i y2 y3 ⟨hO, hs1, hs2⟩ (by omega)
  obtain ⟨_, hcalls⟩ := hpc (fun B => B < W.heap.size) W #[v0, .int .u8 i, .bool y2, .bool y3] (fun _ h => h) ⟨rfl, fun j u x hk hx => by
    match j with
    | 0 => simp at hk hx; subst hk; subst hx; exact hvr
    | 1 => simp at hk hx; subst hk; subst hx; exact .prim rfl
    | 2 => simp at hk hx; subst hk; subst hx; exact .prim rfl
    | 3 => simp at hk hx; subst hk; subst hx; exact .prim rfl
    | j + 4 => simp at hk⟩
  refine hcalls.mono ?_
  rintro e W' ⟨x, rfl, hx, hb⟩
  obtain ⟨rfl, _⟩ := hx.prim_inv
  refine ⟨_, rfl, [d0, .lit (.int .u8 i), .lit (.bool y2), .lit (.bool y3)], [], _, [], p0 ++ ([] ++ ([] ++ [])), [], hW', ?_, ?_, rfl, hb.frame _, fun h => by cases h⟩
  · exact trodAll_mk1 (shut_bool Tryz.underlying4 _)
  · exact trodAll_mk4 (Below.trod Tryz.laidOut (by kernel_rfl) (of_decide_eq_true (by kernel_rfl)) h0k hb (fun x hx => hlt x hx)) (shut_int Tryz.underlying5 w1) (shut_bool Tryz.underlying4 _) (shut_bool Tryz.underlying4 _)

theorem polygonCanonical_holds : Rows.PolygonCanonicalSaid :=
  OpenClaim.holds_of_wide 15 Tryz.f15 rfl rfl rfl rfl rfl rfl rfl ⟨rfl, rfl, rfl, rfl, rfl⟩ rfl rfl rfl rfl rfl namedCan Tryz.func15 closedCan
    instCan wrapCan
    (fun os started H enc _ => polygonCanonical_lifted os started H enc)
end Go.Proofs.YtbidkolaahnbiaaGreat
