/- PolygonEdges answers true for every input and leaves it as it was; no conditions. -/
import Derived.Test.YtpieniemfcclhaaGreatRows
import Derived.Test.YtpieniemfcclhaaGreatK25
import Derived.Test.YtpieniemfcclhaaGreatK41
import Derived.ProofKit
set_option linter.unusedSimpArgs false
set_option linter.unusedVariables false
/- PolygonEdges answers true for every input. -/
namespace Go.Proofs.YtpieniemfcclhaaGreat
open Go.ChangeShapes Go.WideShapes Go.ChangeAt Go.RowKit

theorem Tryz.own : ownKnob Tryz.prog.godebug = none := by kernel_rfl
theorem Tryz.laidOut : laidOutB Tryz.prog = true := by kernel_rfl

set_option maxRecDepth 100000 in
theorem polygonEdges_lifted (os : Os) (started : os.Started) (H : Type) (enc : TypeId × Value → H) :
    ReturnsInHanded {} Tryz.checked os 7 .any (Rows.polygonEdgesSpec.pre6 enc Tryz.prog Tryz.f7 Rows.polygonEdgesRow.domain false) (Rows.polygonEdgesSpec.post enc Tryz.prog Tryz.f7 false true false false) := by
  refine returnsInHanded_of_change (C := Tryz.checked) Tryz.own started (by kernel_rfl) Tryz.func7
    (ChangeSpec.witness6 (enc := enc) (C := Tryz.checked) false ⟨#[], #[.agg #[.slice none 0 0, .slice none 0 0]], []⟩ 8 (by kernel_rfl) (by kernel_rfl) (by kernel_rfl) (by kernel_rfl)) ?_
  intro W base args ds gs before hval0 hW hcnd _
  have hW' := hW
  obtain ⟨p, q, hA0, hV, rfl, hfz, hnd⟩ := hW
  have hA : DataW.TrodAll enc Tryz.prog W 0 (fun _ => true) true Tryz.f7.params.toList args.toList ds p := hA0
  rw [Tryz.params7] at hA
  obtain ⟨v0, d0, rfl, rfl, h0⟩ := trodAll_one hA
  obtain ⟨rfl, rfl⟩ := trodVars_none hV
  have h0k := h0
  obtain ⟨fuel, h0f⟩ := h0
  obtain ⟨O, hs, hvr, hO, hs1, hs2⟩ := Go.Av.trod_pg h0f
  clear hA0 hval0
  simp only [List.append_nil] at hW' hfz
  have hlt : ∀ x ∈ p, x.block < W.heap.size := fun x hx => by simpa using hW'.lt x hx
  have hpc := Go.Av.polygonEdges_pc O hs ⟨hO, hs1, hs2⟩
  obtain ⟨_, hcalls⟩ := hpc (fun B => B < W.heap.size) W #[v0] (fun _ h => h) ⟨rfl, fun k u x hk hx => by
    match k with
    | 0 => simp at hk hx; subst hk; subst hx; exact hvr
    | k + 1 => simp at hk⟩
  refine hcalls.mono ?_
  rintro e W' ⟨x, rfl, hx, hb⟩
  obtain ⟨rfl, _⟩ := hx.prim_inv
  refine ⟨_, rfl, [d0], [], p, [], p, [], hW', ?_, ?_, rfl, hb.frame _, fun h => by cases h⟩
  · exact trodAll_mk1 (shut_bool Tryz.underlying4 _)
  · have := Below.trod Tryz.laidOut (by kernel_rfl) (of_decide_eq_true (by kernel_rfl)) h0k hb hlt
    exact ⟨p, [], this, rfl, by simp⟩

theorem polygonEdges_holds : Rows.PolygonEdgesSaid :=
  OpenClaim.holds_of_wide 7 Tryz.f7 rfl rfl rfl rfl rfl rfl rfl ⟨rfl, rfl, rfl, rfl, rfl⟩ rfl rfl rfl rfl rfl (by kernel_rfl) Tryz.func7 (by kernel_rfl)
    (of_decide_eq_true (by kernel_rfl)) (by unfold Func.isWrapper; first | (rw [if_pos (by decide +kernel)]; kernel_rfl) | (rw [if_neg (by decide +kernel)]; exact ⟨rfl, rfl⟩))
    (fun os started H enc _ => polygonEdges_lifted os started H enc)
end Go.Proofs.YtpieniemfcclhaaGreat
