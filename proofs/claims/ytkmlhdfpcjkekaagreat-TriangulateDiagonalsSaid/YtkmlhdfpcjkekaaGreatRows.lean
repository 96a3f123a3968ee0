/-
  No cell of these rows narrows 'for every input' (looked for: loops, veiled, ifaces, maps, wideKeys, modest, calm, conditions, laid).
  DERIVED. THE GIVEN ROWS OF THIS SEAT. 6 by the template 'for every input the law returns true; each argument reads behind the call as it read before'; 0 by the template 'total and deterministic' (their statements: YtkmlhdfpcjkekaaGreatTotals.lean).
  GIVEN WITH THE SEED: the statements are not yours to turn. If you find one false, say at which input.
  Laid BY PROGRAM, IN A SANDBOX (cutbox-rows.mjs): the forced cells as the released guide's own fill.sh prints them over the translation 04021f435c3d712d… (all of the seat's roots in one cut). By AI agents, Wed Nov 11 2026. No macro, syntax, notation, axiom, sorry.
-/
import Derived.Test.YtkmlhdfpcjkekaaGreatChecked
import GoSem.Claim
import GoSem.ClaimJoined
import GoSem.ClaimMapViews
import Derived.JoinedTies
import Derived.KernelRfl
namespace Go.Proofs.YtkmlhdfpcjkekaaGreat
/- THE CELL 'sum', in the pinned program and in every row, IS THE sha256 OF THE DUMP (.gsa) THAT YtkmlhdfpcjkekaaGreatProg.lean LOADS. Nothing in Lean hashes anything: it is a label: what it is worth is what the hold of that sum in a sandbox is worth. -/
noncomputable def Tryz.pinned : Pinned := { name := "ytkmlhdfpcjkekaagreat", sum := "04021f435c3d712dfcc009320ab95023f7f9cc8caa939a8f6444bd6f74f08ae6", checked := Tryz.checked }
namespace Rows
def none {H : Type} : Left H := { results := [], args := [] }

/-- 'narrowslaw22.TriangulateDiagonals': WHATEVER THE INPUT: true; the input reads as it did. -/
def triangulateDiagonalsSpec : ChangeSpec := { name := "triangulateDiagonals", fn := fun _ => fun
  | [d] => { results := [.lit (.bool true)], args := [d] }
  | _ => none }
def triangulateDiagonalsRow : OpenClaim := { program := "ytkmlhdfpcjkekaagreat", sum := "04021f435c3d712dfcc009320ab95023f7f9cc8caa939a8f6444bd6f74f08ae6", func := "narrows/narrowslaw22.TriangulateDiagonals", spec := "triangulateDiagonals", unfollowed := true, recurses := true, named := ["math/bits.overflowError"], plainKeys := false, apart := false }
def TriangulateDiagonalsSaid : Prop := triangulateDiagonalsRow.holds Tryz.pinned (OpenSpec.ofChange triangulateDiagonalsSpec)

/-- ITS FALSE NEIGHBOUR: 'it returns false'. Refute it at one input. -/
def triangulateDiagonalsWrong : ChangeSpec := { name := "triangulateDiagonals", fn := fun _ => fun
  | [d] => { results := [.lit (.bool false)], args := [d] }
  | _ => none }
def TriangulateDiagonalsWrongFalsely : Prop := triangulateDiagonalsRow.holds Tryz.pinned (OpenSpec.ofChange triangulateDiagonalsWrong)

/-- 'narrowslaw22.TriangulateBuild': WHATEVER THE INPUT: true; the input reads as it did. -/
def triangulateBuildSpec : ChangeSpec := { name := "triangulateBuild", fn := fun _ => fun
  | [d] => { results := [.lit (.bool true)], args := [d] }
  | _ => none }
def triangulateBuildRow : OpenClaim := { program := "ytkmlhdfpcjkekaagreat", sum := "04021f435c3d712dfcc009320ab95023f7f9cc8caa939a8f6444bd6f74f08ae6", func := "narrows/narrowslaw22.TriangulateBuild", spec := "triangulateBuild", unfollowed := true, recurses := true, named := ["math/bits.overflowError"], plainKeys := false, apart := false }
def TriangulateBuildSaid : Prop := triangulateBuildRow.holds Tryz.pinned (OpenSpec.ofChange triangulateBuildSpec)

/-- ITS FALSE NEIGHBOUR: 'it returns false'. Refute it at one input. -/
def triangulateBuildWrong : ChangeSpec := { name := "triangulateBuild", fn := fun _ => fun
  | [d] => { results := [.lit (.bool false)], args := [d] }
  | _ => none }
def TriangulateBuildWrongFalsely : Prop := triangulateBuildRow.holds Tryz.pinned (OpenSpec.ofChange triangulateBuildWrong)

/-- 'narrowslaw22.TriangulatePoints': WHATEVER THE INPUT: true; the input reads as it did. -/
def triangulatePointsSpec : ChangeSpec := { name := "triangulatePoints", fn := fun _ => fun
  | [d1, d2] => { results := [.lit (.bool true)], args := [d1, d2] }
  | _ => none }
def triangulatePointsRow : OpenClaim := { program := "ytkmlhdfpcjkekaagreat", sum := "04021f435c3d712dfcc009320ab95023f7f9cc8caa939a8f6444bd6f74f08ae6", func := "narrows/narrowslaw22.TriangulatePoints", spec := "triangulatePoints", unfollowed := true, recurses := true, named := ["math/bits.overflowError"], plainKeys := false, apart := false }
def TriangulatePointsSaid : Prop := triangulatePointsRow.holds Tryz.pinned (OpenSpec.ofChange triangulatePointsSpec)

/-- ITS FALSE NEIGHBOUR: 'it returns false'. Refute it at one input. -/
def triangulatePointsWrong : ChangeSpec := { name := "triangulatePoints", fn := fun _ => fun
  | [d1, d2] => { results := [.lit (.bool false)], args := [d1, d2] }
  | _ => none }
def TriangulatePointsWrongFalsely : Prop := triangulatePointsRow.holds Tryz.pinned (OpenSpec.ofChange triangulatePointsWrong)

/-- 'narrowslaw22.TriangulateSides': WHATEVER THE INPUT: true; the input reads as it did. -/
def triangulateSidesSpec : ChangeSpec := { name := "triangulateSides", fn := fun _ => fun
  | [d] => { results := [.lit (.bool true)], args := [d] }
  | _ => none }
def triangulateSidesRow : OpenClaim := { program := "ytkmlhdfpcjkekaagreat", sum := "04021f435c3d712dfcc009320ab95023f7f9cc8caa939a8f6444bd6f74f08ae6", func := "narrows/narrowslaw22.TriangulateSides", spec := "triangulateSides", unfollowed := true, recurses := true, named := ["math/bits.overflowError"], plainKeys := false, apart := false }
def TriangulateSidesSaid : Prop := triangulateSidesRow.holds Tryz.pinned (OpenSpec.ofChange triangulateSidesSpec)

/-- ITS FALSE NEIGHBOUR: 'it returns false'. Refute it at one input. -/
def triangulateSidesWrong : ChangeSpec := { name := "triangulateSides", fn := fun _ => fun
  | [d] => { results := [.lit (.bool false)], args := [d] }
  | _ => none }
def TriangulateSidesWrongFalsely : Prop := triangulateSidesRow.holds Tryz.pinned (OpenSpec.ofChange triangulateSidesWrong)

/-- 'narrowslaw22.TriangulateNeighbours': WHATEVER THE INPUT: true; the input reads as it did. -/
def triangulateNeighboursSpec : ChangeSpec := { name := "triangulateNeighbours", fn := fun _ => fun
  | [d] => { results := [.lit (.bool true)], args := [d] }
  | _ => none }
def triangulateNeighboursRow : OpenClaim := { program := "ytkmlhdfpcjkekaagreat", sum := "04021f435c3d712dfcc009320ab95023f7f9cc8caa939a8f6444bd6f74f08ae6", func := "narrows/narrowslaw22.TriangulateNeighbours", spec := "triangulateNeighbours", unfollowed := true, recurses := true, named := ["math/bits.overflowError"], plainKeys := false, apart := false }
def TriangulateNeighboursSaid : Prop := triangulateNeighboursRow.holds Tryz.pinned (OpenSpec.ofChange triangulateNeighboursSpec)

/-- ITS FALSE NEIGHBOUR: 'it returns false'. Refute it at one input. -/
def triangulateNeighboursWrong : ChangeSpec := { name := "triangulateNeighbours", fn := fun _ => fun
  | [d] => { results := [.lit (.bool false)], args := [d] }
  | _ => none }
def TriangulateNeighboursWrongFalsely : Prop := triangulateNeighboursRow.holds Tryz.pinned (OpenSpec.ofChange triangulateNeighboursWrong)

/-- 'narrowslaw22.TriangulateValid': WHATEVER THE INPUT: true; the input reads as it did. -/
def triangulateValidSpec : ChangeSpec := { name := "triangulateValid", fn := fun _ => fun
  | [d1, d2] => { results := [.lit (.bool true)], args := [d1, d2] }
  | _ => none }
def triangulateValidRow : OpenClaim := { program := "ytkmlhdfpcjkekaagreat", sum := "04021f435c3d712dfcc009320ab95023f7f9cc8caa939a8f6444bd6f74f08ae6", func := "narrows/narrowslaw22.TriangulateValid", spec := "triangulateValid", inPlace := ["slices.overlaps[narrows/api.Triangle]"], unfollowed := true, recurses := true, named := ["math/bits.overflowError"], plainKeys := false, apart := false }
def TriangulateValidSaid : Prop := triangulateValidRow.holds Tryz.pinned (OpenSpec.ofChange triangulateValidSpec)

/-- ITS FALSE NEIGHBOUR: 'it returns false'. Refute it at one input. -/
def triangulateValidWrong : ChangeSpec := { name := "triangulateValid", fn := fun _ => fun
  | [d1, d2] => { results := [.lit (.bool false)], args := [d1, d2] }
  | _ => none }
def TriangulateValidWrongFalsely : Prop := triangulateValidRow.holds Tryz.pinned (OpenSpec.ofChange triangulateValidWrong)

/- THE SECOND FORM. 'bulk': how many values and letters a reading holds, each counted each time it is reached (what is shared counts as often as it is met; a slice's spare places count too). A statement '..UptoSaid' is the law's where the arguments, and the package variables that the reading takes, are together of bulk at most 1048576: NARROWER than '..Said'. Prove '..Said' where nothing that the law and all that it calls make is longer than what came in: it says more and counts as full. Else prove '..UptoSaid'. A law counts once. -/
mutual
def uptoBulk {H : Type} : DataW H → Nat
  | .lit (.string bytes) => bytes.length + 1
  | .lit _ => 1
  | .nil => 1
  | .ptr d => uptoBulk d + 1
  | .slice elems spare => uptoBulkAll elems + uptoBulkAll spare + 1
  | .agg parts => uptoBulkAll parts + 1
  | .iface _ d => uptoBulk d + 1
  | .map entries => uptoBulkEntries entries + 1
  | .held _ => 1
def uptoBulkAll {H : Type} : List (DataW H) → Nat
  | [] => 0
  | d :: r => uptoBulk d + uptoBulkAll r
def uptoBulkEntries {H : Type} : List (Lit × DataW H) → Nat
  | [] => 0
  | x :: r => uptoBulkEntry x + uptoBulkEntries r
def uptoBulkEntry {H : Type} : Lit × DataW H → Nat
  | (.string bytes, d) => bytes.length + uptoBulk d + 1
  | (_, d) => uptoBulk d + 1
 end
def uptoSmall : (H : Type) → List (DataW H) → Bool := fun _ ds => decide (uptoBulkAll ds ≤ 1048576)
def OpenSpec.upto (s : _root_.Go.ChangeSpec) : _root_.Go.OpenSpec := { _root_.Go.OpenSpec.ofChange s with cond := some uptoSmall }

/-- 'narrowslaw22.TriangulateDiagonals', WHERE WHAT IT READS IS OF BULK AT MOST 1048576: true; the input reads as it did. -/
def triangulateDiagonalsUptoRow : OpenClaim := { program := "ytkmlhdfpcjkekaagreat", sum := "04021f435c3d712dfcc009320ab95023f7f9cc8caa939a8f6444bd6f74f08ae6", func := "narrows/narrowslaw22.TriangulateDiagonals", spec := "triangulateDiagonals", unfollowed := true, recurses := true, named := ["math/bits.overflowError"], plainKeys := false, apart := false, narrowed := true }
def TriangulateDiagonalsUptoSaid : Prop := triangulateDiagonalsUptoRow.holds Tryz.pinned (OpenSpec.upto triangulateDiagonalsSpec)

/-- 'narrowslaw22.TriangulateBuild', WHERE WHAT IT READS IS OF BULK AT MOST 1048576: true; the input reads as it did. -/
def triangulateBuildUptoRow : OpenClaim := { program := "ytkmlhdfpcjkekaagreat", sum := "04021f435c3d712dfcc009320ab95023f7f9cc8caa939a8f6444bd6f74f08ae6", func := "narrows/narrowslaw22.TriangulateBuild", spec := "triangulateBuild", unfollowed := true, recurses := true, named := ["math/bits.overflowError"], plainKeys := false, apart := false, narrowed := true }
def TriangulateBuildUptoSaid : Prop := triangulateBuildUptoRow.holds Tryz.pinned (OpenSpec.upto triangulateBuildSpec)

/-- 'narrowslaw22.TriangulatePoints', WHERE WHAT IT READS IS OF BULK AT MOST 1048576: true; the input reads as it did. -/
def triangulatePointsUptoRow : OpenClaim := { program := "ytkmlhdfpcjkekaagreat", sum := "04021f435c3d712dfcc009320ab95023f7f9cc8caa939a8f6444bd6f74f08ae6", func := "narrows/narrowslaw22.TriangulatePoints", spec := "triangulatePoints", unfollowed := true, recurses := true, named := ["math/bits.overflowError"], plainKeys := false, apart := false, narrowed := true }
def TriangulatePointsUptoSaid : Prop := triangulatePointsUptoRow.holds Tryz.pinned (OpenSpec.upto triangulatePointsSpec)

/-- 'narrowslaw22.TriangulateSides', WHERE WHAT IT READS IS OF BULK AT MOST 1048576: true; the input reads as it did. -/
def triangulateSidesUptoRow : OpenClaim := { program := "ytkmlhdfpcjkekaagreat", sum := "04021f435c3d712dfcc009320ab95023f7f9cc8caa939a8f6444bd6f74f08ae6", func := "narrows/narrowslaw22.TriangulateSides", spec := "triangulateSides", unfollowed := true, recurses := true, named := ["math/bits.overflowError"], plainKeys := false, apart := false, narrowed := true }
def TriangulateSidesUptoSaid : Prop := triangulateSidesUptoRow.holds Tryz.pinned (OpenSpec.upto triangulateSidesSpec)

/-- 'narrowslaw22.TriangulateNeighbours', WHERE WHAT IT READS IS OF BULK AT MOST 1048576: true; the input reads as it did. -/
def triangulateNeighboursUptoRow : OpenClaim := { program := "ytkmlhdfpcjkekaagreat", sum := "04021f435c3d712dfcc009320ab95023f7f9cc8caa939a8f6444bd6f74f08ae6", func := "narrows/narrowslaw22.TriangulateNeighbours", spec := "triangulateNeighbours", unfollowed := true, recurses := true, named := ["math/bits.overflowError"], plainKeys := false, apart := false, narrowed := true }
def TriangulateNeighboursUptoSaid : Prop := triangulateNeighboursUptoRow.holds Tryz.pinned (OpenSpec.upto triangulateNeighboursSpec)

/-- 'narrowslaw22.TriangulateValid', WHERE WHAT IT READS IS OF BULK AT MOST 1048576: true; the input reads as it did. -/
def triangulateValidUptoRow : OpenClaim := { program := "ytkmlhdfpcjkekaagreat", sum := "04021f435c3d712dfcc009320ab95023f7f9cc8caa939a8f6444bd6f74f08ae6", func := "narrows/narrowslaw22.TriangulateValid", spec := "triangulateValid", inPlace := ["slices.overlaps[narrows/api.Triangle]"], unfollowed := true, recurses := true, named := ["math/bits.overflowError"], plainKeys := false, apart := false, narrowed := true }
def TriangulateValidUptoSaid : Prop := triangulateValidUptoRow.holds Tryz.pinned (OpenSpec.upto triangulateValidSpec)

end Rows
end Go.Proofs.YtkmlhdfpcjkekaaGreat
