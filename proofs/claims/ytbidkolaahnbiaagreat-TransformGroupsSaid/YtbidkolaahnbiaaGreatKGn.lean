/- TransformGroups answers true for every input: translations and rotations compose, flipping, mirroring and shears lead back, placing is turning and then moving. No condition. -/
import Derived.Test.YtbidkolaahnbiaaGreatRows
import Derived.Test.YtbidkolaahnbiaaGreatKDa
import Derived.Test.YtbidkolaahnbiaaGreatKGl
import Derived.Test.YtbidkolaahnbiaaGreatKGn0
import Derived.ProofKit
set_option linter.unusedSimpArgs false
set_option linter.unusedVariables false
set_option maxRecDepth 100000
set_option maxHeartbeats 16000000
namespace Go.Proofs.YtbidkolaahnbiaaGreat
open Go.ChangeShapes Go.WideShapes Go.ChangeAt Go.RowKit
theorem Tryz.own : ownKnob Tryz.prog.godebug = none := by kernel_rfl
theorem Tryz.laidOut : laidOutB Tryz.prog = true := by kernel_rfl

theorem transformGroups_lifted (os : Os) (started : os.Started) (H : Type) (enc : TypeId × Value → H) :
    ReturnsInHanded {} Tryz.checked os 6 .any (Rows.transformGroupsSpec.pre6 enc Tryz.prog Tryz.f6 Rows.transformGroupsRow.domain false) (Rows.transformGroupsSpec.post enc Tryz.prog Tryz.f6 false true false false) := by
  refine returnsInHanded_of_change (C := Tryz.checked) Tryz.own started (by kernel_rfl) Tryz.func6
    (ChangeSpec.witness6 (enc := enc) (C := Tryz.checked) false ⟨#[], #[.agg #[.slice none 0 0, .slice none 0 0], .agg #[.bool false, .string ⟨#[]⟩, .string ⟨#[]⟩, .bool false, .string ⟨#[]⟩, .string ⟨#[]⟩], .agg #[.bool false, .string ⟨#[]⟩, .string ⟨#[]⟩, .bool false, .string ⟨#[]⟩, .string ⟨#[]⟩], .agg #[.bool false, .string ⟨#[]⟩, .string ⟨#[]⟩, .bool false, .string ⟨#[]⟩, .string ⟨#[]⟩], .agg #[.bool false, .string ⟨#[]⟩, .string ⟨#[]⟩, .bool false, .string ⟨#[]⟩, .string ⟨#[]⟩]], []⟩ 8 (by kernel_rfl) (by kernel_rfl) (by kernel_rfl) (by kernel_rfl)) ?_
  intro W base args ds gs before hval0 hW hcnd _
  have hval : ∀ (j : Nat) t v, Tryz.f6.params[j]? = some t → args[j]? = some v → Value.okWide Tryz.prog W .any base t v := hval0
  have hW' := hW
  obtain ⟨p, q, hA0, hV, rfl, hfz, hnd⟩ := hW
  have hA : DataW.TrodAll enc Tryz.prog W 0 (fun _ => true) true Tryz.f6.params.toList args.toList ds p := hA0
  rw [Tryz.params6] at hA hval
  obtain ⟨v0, v1, v2, v3, v4, d0, d1, d2, d3, d4, p0, p1, p2, p3, p4, rfl, rfl, rfl, h0, h1, h2, h3, h4⟩ := Go.Av.trodAll_five hA
  obtain ⟨rfl, rfl⟩ := trodVars_none hV
  have h0k := h0
  obtain ⟨fuel0, h0f⟩ := h0
  obtain ⟨O0, hs0, hvr0, hO0, hq0, hr0⟩ := Go.Av.trod_pg h0f
  have h1k := h1
  obtain ⟨fuel1, h1f⟩ := h1
  obtain ⟨r1, hvr1, hr1⟩ := Go.Av.trod_rotV h1f
  have h2k := h2
  obtain ⟨fuel2, h2f⟩ := h2
  obtain ⟨r2, hvr2, hr2⟩ := Go.Av.trod_rotV h2f
  have h3k := h3
  obtain ⟨fuel3, h3f⟩ := h3
  obtain ⟨r3, hvr3, hr3⟩ := Go.Av.trod_ptV h3f
  have h4k := h4
  obtain ⟨fuel4, h4f⟩ := h4
  obtain ⟨r4, hvr4, hr4⟩ := Go.Av.trod_ptV h4f
  clear hA0 hval0
  simp only [List.append_nil] at hW' hfz
  have hlt0 : ∀ x ∈ p0, x.block < W.heap.size := fun x hx => by simpa using hW'.lt x (by simp [hx])
  have hlt1 : ∀ x ∈ p1, x.block < W.heap.size := fun x hx => by simpa using hW'.lt x (by simp [hx])
  have hlt2 : ∀ x ∈ p2, x.block < W.heap.size := fun x hx => by simpa using hW'.lt x (by simp [hx])
  have hlt3 : ∀ x ∈ p3, x.block < W.heap.size := fun x hx => by simpa using hW'.lt x (by simp [hx])
  have hlt4 : ∀ x ∈ p4, x.block < W.heap.size := fun x hx => by simpa using hW'.lt x (by simp [hx])
  have hpc := Go.Av.transformGroups_pc O0 hs0 r1 r2 r3 r4 ⟨hO0, hq0, hr0⟩ hr1 hr2 hr3 hr4
  obtain ⟨_, hcalls⟩ := hpc (fun B => B < W.heap.size) W #[v0, v1, v2, v3, v4] (fun _ h => h) ⟨rfl, fun j u x hk hx => by
    match j with
    | 0 => simp at hk hx; subst hk; subst hx; exact hvr0
    | 1 => simp at hk hx; subst hk; subst hx; exact hvr1
    | 2 => simp at hk hx; subst hk; subst hx; exact hvr2
    | 3 => simp at hk hx; subst hk; subst hx; exact hvr3
    | 4 => simp at hk hx; subst hk; subst hx; exact hvr4
    | j + 5 => simp at hk⟩
  refine hcalls.mono ?_
  rintro e W' ⟨x, rfl, hx, hb⟩
  obtain ⟨rfl, _⟩ := hx.prim_inv
  refine ⟨_, rfl, [d0, d1, d2, d3, d4], [], _, [], p0 ++ (p1 ++ (p2 ++ (p3 ++ (p4)))), [], hW', ?_, ?_, rfl, hb.frame _, fun h => by cases h⟩
  · exact trodAll_mk1 (shut_bool Tryz.underlying4 _)
  · exact Go.Av.trodAll_mk5 (Below.trod Tryz.laidOut (by kernel_rfl) (of_decide_eq_true (by kernel_rfl)) h0k hb (fun x hx => hlt0 x hx)) (Below.trod Tryz.laidOut (by kernel_rfl) (of_decide_eq_true (by kernel_rfl)) h1k hb (fun x hx => hlt1 x hx)) (Below.trod Tryz.laidOut (by kernel_rfl) (of_decide_eq_true (by kernel_rfl)) h2k hb (fun x hx => hlt2 x hx)) (Below.trod Tryz.laidOut (by kernel_rfl) (of_decide_eq_true (by kernel_rfl)) h3k hb (fun x hx => hlt3 x hx)) (Below.trod Tryz.laidOut (by kernel_rfl) (of_decide_eq_true (by kernel_rfl)) h4k hb (fun x hx => hlt4 x hx))

theorem transformGroups_holds : Rows.TransformGroupsSaid :=
  OpenClaim.holds_of_wide 6 Tryz.f6 rfl rfl rfl rfl rfl rfl rfl ⟨rfl, rfl, rfl, rfl, rfl⟩ rfl rfl rfl rfl rfl namedTransformGroups Tryz.func6 closedTransformGroups
    instTransformGroups wrapTransformGroups
    (fun os started H enc _ => transformGroups_lifted os started H enc)
end Go.Proofs.YtbidkolaahnbiaaGreat
