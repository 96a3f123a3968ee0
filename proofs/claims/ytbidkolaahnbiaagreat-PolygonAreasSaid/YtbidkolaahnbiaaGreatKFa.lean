/- Helping texts: Fa, Fs, Fb, Fc. -/
import Derived.Test.YtbidkolaahnbiaaGreatKDj
import Derived.Test.YtbidkolaahnbiaaGreatKAx
import Derived.Test.YtbidkolaahnbiaaGreatKDs
import Derived.Test.YtbidkolaahnbiaaGreatKMe
set_option linter.unusedSimpArgs false
set_option linter.unusedVariables false
namespace Go.Av
open Go.RowKit
open Go.Proofs.Tryz (prog)
end Go.Av
namespace Go.Av
open Go.RowKit
variable {P : Program} {H : Hp}
structure FnS (P : Program) (f : FuncId) (k : Nat) (rs : List ResultVar) (lc : LC) : Prop where
  ex : ∃ fn c d x y, P.funcs[f]? = some fn ∧ fn.body = some (.seq c (.scope d)) ∧ lite c = some x ∧ lite d = some y ∧ rfOk c = true ∧ rfOk d = true ∧ (fn.name == "runtime.NumGoroutine") = false ∧ fn.ntmps = k ∧ fn.results.toList = rs ∧ lc = .seq x y
theorem FnS.call {f : FuncId} {k : Nat} {rs : List ResultVar} {lc : LC} (h : FnS P f k rs lc) (xs : Array Value) (W : World) : (callFunc f xs).run P W = .ok (.enter f xs) W := by
  obtain ⟨fn, c, d, x, y, h1, h2, _, _, _, _, h5, _⟩ := h.ex
  simp [callFunc, Sem.run_bind, h1, h2]
  simpa using h5
def lcS (P : Program) (f : FuncId) : LC := match P.funcs[f]? with
  | some fn => match fn.body with
    | some (.seq c (.scope d)) => .seq (liteF c) (liteF d)
    | _ => .skip
  | none => .skip
def fnS (P : Program) (f : FuncId) : Bool := match P.funcs[f]? with
  | some fn => match fn.body with
    | some (.seq c (.scope d)) => (lite c).isSome && (lite d).isSome && rfOk c && rfOk d && !(fn.name == "runtime.NumGoroutine")
    | _ => false
  | none => false
theorem FnS.of {f : FuncId} (h : fnS P f = true) : FnS P f (ntOf P f) (rsOf P f) (lcS P f) := by
  unfold fnS at h
  split at h
  · rename_i fn h1
    unfold ntOf rsOf lcS
    rw [h1]
    split at h
    · rename_i c d h2
      simp only [Bool.and_eq_true, Bool.not_eq_true'] at h
      obtain ⟨⟨⟨⟨p1, p2⟩, p3⟩, p4⟩, p5⟩ := h
      obtain ⟨x, hx⟩ := Option.isSome_iff_exists.1 p1
      obtain ⟨y, hy⟩ := Option.isSome_iff_exists.1 p2
      refine ⟨fn, c, d, x, y, h1, h2, hx, hy, p3, p4, p5, rfl, rfl, ?_⟩
      simp only [h2, liteF_eq c x hx, liteF_eq d y hy]
    · cases h
  · cases h
end Go.Av
namespace Go.Av
open Go.RowKit
open Go.Proofs.Tryz (prog)
end Go.Av
namespace Go.Av
open Go.RowKit
open Go.Proofs.Tryz (prog)
end Go.Av
