/- PolygonDiagonals answers true for every input and leaves it as it was; no conditions. -/
import Derived.Test.YtpieniemfcclhaaGreatRows
import Derived.Test.YtpieniemfcclhaaGreatK25
import Derived.Test.YtpieniemfcclhaaGreatK44
import Derived.ProofKit
set_option linter.unusedSimpArgs false
set_option linter.unusedVariables false
/- PolygonDiagonals answers true for every input. -/
namespace Go.Av
open Go.RowKit
open Go.Proofs.Tryz (prog)
theorem cells_agg' {t : Nat} {v : Value} (h : v.cells.toList.length = t) (ht : 1 < t) : ∃ xs, v = .agg xs := by
  cases v <;> simp [Value.cells] at h <;> first | omega | exact ⟨_, rfl⟩
/-- A number as an argument. -/
theorem trod_ratV {H : Type} {enc : TypeId × Value → H} {W : World} {base : Nat} {spare : Nat → Bool} {held : Bool} {fuel : Nat} {v : Value} {x : DataW H × List MemPlace} (h : DataW.trod enc prog W base spare held fuel 29 v.cells.toList = some x) :
    ∃ r : Rt, VR (fun _ => none) (fun B => B < W.heap.size) W (rV r) v ∧ r.fit := by
  obtain ⟨r, e, hf⟩ := trod_rat h
  obtain ⟨xs, rfl⟩ := cells_agg' (v := v) (t := 3) (by rw [e]; rfl) (by omega)
  refine ⟨r, ?_, hf⟩
  have e : xs = (ratCells r).toArray := by
    have e2 : xs.toList = ratCells r := e
    rw [← e2]
  subst e
  unfold rV
  refine .agg rfl ?_
  intro k u y hk hy
  match k with
  | 0 | 1 | 2 => simp [ratCells] at hk hy; subst hk; subst hy; exact .prim rfl
  | k + 3 => simp at hk
end Go.Av
namespace Go.Proofs.YtpieniemfcclhaaGreat
open Go.ChangeShapes Go.WideShapes Go.ChangeAt Go.RowKit

theorem Tryz.own : ownKnob Tryz.prog.godebug = none := by kernel_rfl
theorem Tryz.laidOut : laidOutB Tryz.prog = true := by kernel_rfl

set_option maxRecDepth 100000 in
theorem polygonDiagonals_lifted (os : Os) (started : os.Started) (H : Type) (enc : TypeId × Value → H) :
    ReturnsInHanded {} Tryz.checked os 6 .any (Rows.polygonDiagonalsSpec.pre6 enc Tryz.prog Tryz.f6 Rows.polygonDiagonalsRow.domain false) (Rows.polygonDiagonalsSpec.post enc Tryz.prog Tryz.f6 false true false false) := by
  refine returnsInHanded_of_change (C := Tryz.checked) Tryz.own started (by kernel_rfl) Tryz.func6
    (ChangeSpec.witness6 (enc := enc) (C := Tryz.checked) false ⟨#[], #[.agg #[.slice none 0 0, .slice none 0 0], .int .u8 0, .int .u8 0, .agg #[.bool false, .string ⟨#[]⟩, .string ⟨#[]⟩]], []⟩ 8 (by kernel_rfl) (by kernel_rfl) (by kernel_rfl) (by kernel_rfl)) ?_
  intro W base args ds gs before hval0 hW hcnd _
  have hval : ∀ (j : Nat) t v, Tryz.f6.params[j]? = some t → args[j]? = some v → Value.okWide Tryz.prog W .any base t v := hval0
  have hW' := hW
  obtain ⟨p, q, hA0, hV, rfl, hfz, hnd⟩ := hW
  have hA : DataW.TrodAll enc Tryz.prog W 0 (fun _ => true) true Tryz.f6.params.toList args.toList ds p := hA0
  rw [Tryz.params6] at hA hval
  obtain ⟨v0, v1, v2, v3, d0, d1, d2, d3, p0, p1, p2, p3, rfl, rfl, rfl, h0, h1, h2, h3⟩ := trodAll_four hA
  obtain ⟨rfl, rfl⟩ := trodVars_none hV
  have h0k := h0
  have h3k := h3
  obtain ⟨n1, rfl, rfl, rfl, w1⟩ := open_int Tryz.underlying5 (hval 1 5 v1 rfl rfl) h1
  obtain ⟨n2, rfl, rfl, rfl, w2⟩ := open_int Tryz.underlying5 (hval 2 5 v2 rfl rfl) h2
  obtain ⟨fuel, h0f⟩ := h0
  obtain ⟨fuel3, h3f⟩ := h3
  obtain ⟨O, hs, hvr, hO, hs1, hs2⟩ := Go.Av.trod_pg h0f
  obtain ⟨r, hvr3, hr⟩ := Go.Av.trod_ratV h3f
  have b1 : 0 ≤ n1 ∧ n1 < 256 := by
    have h : IntKind.min .u8 ≤ n1 ∧ n1 ≤ IntKind.max .u8 := by have h := w1; simp only [Lit.wf, Bool.and_eq_true, decide_eq_true_eq] at h; exact h
    have e1 : IntKind.min .u8 = 0 := by decide
    have e2 : IntKind.max .u8 = 255 := by decide
    omega
  have b2 : 0 ≤ n2 ∧ n2 < 256 := by
    have h : IntKind.min .u8 ≤ n2 ∧ n2 ≤ IntKind.max .u8 := by have h := w2; simp only [Lit.wf, Bool.and_eq_true, decide_eq_true_eq] at h; exact h
    have e1 : IntKind.min .u8 = 0 := by decide
    have e2 : IntKind.max .u8 = 255 := by decide
    omega
  obtain ⟨i, rfl⟩ : ∃ i : Nat, n1 = i := ⟨n1.toNat, by omega⟩
  obtain ⟨k, rfl⟩ : ∃ k : Nat, n2 = k := ⟨n2.toNat, by omega⟩
  clear hA0 hval0
  simp only [List.append_nil] at hW' hfz
  have hlt : ∀ x ∈ p0 ++ p3, x.block < W.heap.size := fun x hx => by simpa using hW'.lt x (by simpa using hx)
  have hpc := Go.Av.polygonDiagonals_pc O hs i k r ⟨hO, hs1, hs2⟩ (by omega) (by omega) hr
  obtain ⟨_, hcalls⟩ := hpc (fun B => B < W.heap.size) W #[v0, .int .u8 i, .int .u8 k, v3] (fun _ h => h) ⟨rfl, fun j u x hk hx => by
    match j with
    | 0 => simp at hk hx; subst hk; subst hx; exact hvr
    | 1 => simp at hk hx; subst hk; subst hx; exact .prim rfl
    | 2 => simp at hk hx; subst hk; subst hx; exact .prim rfl
    | 3 => simp at hk hx; subst hk; subst hx; exact hvr3
    | j + 4 => simp at hk⟩
  refine hcalls.mono ?_
  rintro e W' ⟨x, rfl, hx, hb⟩
  obtain ⟨rfl, _⟩ := hx.prim_inv
  refine ⟨_, rfl, [d0, .lit (.int .u8 i), .lit (.int .u8 k), d3], [], _, [], p0 ++ ([] ++ ([] ++ p3)), [], hW', ?_, ?_, rfl, hb.frame _, fun h => by cases h⟩
  · exact trodAll_mk1 (shut_bool Tryz.underlying4 _)
  · exact trodAll_mk4 (Below.trod Tryz.laidOut (by kernel_rfl) (of_decide_eq_true (by kernel_rfl)) h0k hb (fun x hx => hlt x (List.mem_append_left _ hx))) (shut_int Tryz.underlying5 w1) (shut_int Tryz.underlying5 w2)
      (Below.trod Tryz.laidOut (by kernel_rfl) (of_decide_eq_true (by kernel_rfl)) h3k hb (fun x hx => hlt x (List.mem_append_right _ hx)))

theorem polygonDiagonals_holds : Rows.PolygonDiagonalsSaid :=
  OpenClaim.holds_of_wide 6 Tryz.f6 rfl rfl rfl rfl rfl rfl rfl ⟨rfl, rfl, rfl, rfl, rfl⟩ rfl rfl rfl rfl rfl (by kernel_rfl) Tryz.func6 (by kernel_rfl)
    (of_decide_eq_true (by kernel_rfl)) (by unfold Func.isWrapper; first | (rw [if_pos (by decide +kernel)]; kernel_rfl) | (rw [if_neg (by decide +kernel)]; exact ⟨rfl, rfl⟩))
    (fun os started H enc _ => polygonDiagonals_lifted os started H enc)
end Go.Proofs.YtpieniemfcclhaaGreat
