/-
  No cell of these rows narrows 'for every input' (looked for: loops, veiled, ifaces, maps, wideKeys, modest, calm, conditions, laid).
  DERIVED. THE GIVEN ROWS OF THIS SEAT. 13 by the template 'for every input the law returns true; each argument reads behind the call as it read before'; 0 by the template 'total and deterministic' (their statements: YtbidkolaahnbiaaGreatTotals.lean).
  GIVEN WITH THE SEED: the statements are not yours to turn. If you find one false, say at which input.
  Laid BY PROGRAM, IN A SANDBOX (cutbox-rows.mjs): the forced cells as the released guide's own fill.sh prints them over the translation ed12d2d9b0e848d6… (all of the seat's roots in one cut). By AI agents, Wed Nov 11 2026. No macro, syntax, notation, axiom, sorry.
-/
import Derived.Test.YtbidkolaahnbiaaGreatChecked
import GoSem.Claim
import GoSem.ClaimJoined
import GoSem.ClaimMapViews
import Derived.JoinedTies
import Derived.KernelRfl
namespace Go.Proofs.YtbidkolaahnbiaaGreat
/- THE CELL 'sum', in the pinned program and in every row, IS THE sha256 OF THE DUMP (.gsa) THAT YtbidkolaahnbiaaGreatProg.lean LOADS. Nothing in Lean hashes anything: it is a label: what it is worth is what the hold of that sum in a sandbox is worth. -/
noncomputable def Tryz.pinned : Pinned := { name := "ytbidkolaahnbiaagreat", sum := "ed12d2d9b0e848d62e164464bd6227176b53e9c9a18a31c551fb4a4eb69c67e1", checked := Tryz.checked }
namespace Rows
def none {H : Type} : Left H := { results := [], args := [] }

/-- 'narrowslaw14.TransformMoves': WHATEVER THE INPUT: true; the input reads as it did. -/
def transformMovesSpec : ChangeSpec := { name := "transformMoves", fn := fun _ => fun
  | [d1, d2, d3] => { results := [.lit (.bool true)], args := [d1, d2, d3] }
  | _ => none }
def transformMovesRow : OpenClaim := { program := "ytbidkolaahnbiaagreat", sum := "ed12d2d9b0e848d62e164464bd6227176b53e9c9a18a31c551fb4a4eb69c67e1", func := "narrows/narrowslaw14.TransformMoves", spec := "transformMoves", unfollowed := true, recurses := true, named := ["math/bits.overflowError"], apart := false }
def TransformMovesSaid : Prop := transformMovesRow.holds Tryz.pinned (OpenSpec.ofChange transformMovesSpec)

/-- ITS FALSE NEIGHBOUR: 'it returns false'. Refute it at one input. -/
def transformMovesWrong : ChangeSpec := { name := "transformMoves", fn := fun _ => fun
  | [d1, d2, d3] => { results := [.lit (.bool false)], args := [d1, d2, d3] }
  | _ => none }
def TransformMovesWrongFalsely : Prop := transformMovesRow.holds Tryz.pinned (OpenSpec.ofChange transformMovesWrong)

/-- 'narrowslaw14.TransformMaps': WHATEVER THE INPUT: true; the input reads as it did. -/
def transformMapsSpec : ChangeSpec := { name := "transformMaps", fn := fun _ => fun
  | [d1, d2] => { results := [.lit (.bool true)], args := [d1, d2] }
  | _ => none }
def transformMapsRow : OpenClaim := { program := "ytbidkolaahnbiaagreat", sum := "ed12d2d9b0e848d62e164464bd6227176b53e9c9a18a31c551fb4a4eb69c67e1", func := "narrows/narrowslaw14.TransformMaps", spec := "transformMaps", unfollowed := true, recurses := true, named := ["math/bits.overflowError"], apart := false }
def TransformMapsSaid : Prop := transformMapsRow.holds Tryz.pinned (OpenSpec.ofChange transformMapsSpec)

/-- ITS FALSE NEIGHBOUR: 'it returns false'. Refute it at one input. -/
def transformMapsWrong : ChangeSpec := { name := "transformMaps", fn := fun _ => fun
  | [d1, d2] => { results := [.lit (.bool false)], args := [d1, d2] }
  | _ => none }
def TransformMapsWrongFalsely : Prop := transformMapsRow.holds Tryz.pinned (OpenSpec.ofChange transformMapsWrong)

/-- 'narrowslaw14.TransformAreas': WHATEVER THE INPUT: true; the input reads as it did. -/
def transformAreasSpec : ChangeSpec := { name := "transformAreas", fn := fun _ => fun
  | [d1, d2, d3, d4] => { results := [.lit (.bool true)], args := [d1, d2, d3, d4] }
  | _ => none }
def transformAreasRow : OpenClaim := { program := "ytbidkolaahnbiaagreat", sum := "ed12d2d9b0e848d62e164464bd6227176b53e9c9a18a31c551fb4a4eb69c67e1", func := "narrows/narrowslaw14.TransformAreas", spec := "transformAreas", unfollowed := true, recurses := true, named := ["math/bits.overflowError"], apart := false }
def TransformAreasSaid : Prop := transformAreasRow.holds Tryz.pinned (OpenSpec.ofChange transformAreasSpec)

/-- ITS FALSE NEIGHBOUR: 'it returns false'. Refute it at one input. -/
def transformAreasWrong : ChangeSpec := { name := "transformAreas", fn := fun _ => fun
  | [d1, d2, d3, d4] => { results := [.lit (.bool false)], args := [d1, d2, d3, d4] }
  | _ => none }
def TransformAreasWrongFalsely : Prop := transformAreasRow.holds Tryz.pinned (OpenSpec.ofChange transformAreasWrong)

/-- 'narrowslaw14.TransformGroups': WHATEVER THE INPUT: true; the input reads as it did. -/
def transformGroupsSpec : ChangeSpec := { name := "transformGroups", fn := fun _ => fun
  | [d1, d2, d3, d4, d5] => { results := [.lit (.bool true)], args := [d1, d2, d3, d4, d5] }
  | _ => none }
def transformGroupsRow : OpenClaim := { program := "ytbidkolaahnbiaagreat", sum := "ed12d2d9b0e848d62e164464bd6227176b53e9c9a18a31c551fb4a4eb69c67e1", func := "narrows/narrowslaw14.TransformGroups", spec := "transformGroups", unfollowed := true, recurses := true, named := ["math/bits.overflowError"], apart := false }
def TransformGroupsSaid : Prop := transformGroupsRow.holds Tryz.pinned (OpenSpec.ofChange transformGroupsSpec)

/-- ITS FALSE NEIGHBOUR: 'it returns false'. Refute it at one input. -/
def transformGroupsWrong : ChangeSpec := { name := "transformGroups", fn := fun _ => fun
  | [d1, d2, d3, d4, d5] => { results := [.lit (.bool false)], args := [d1, d2, d3, d4, d5] }
  | _ => none }
def TransformGroupsWrongFalsely : Prop := transformGroupsRow.holds Tryz.pinned (OpenSpec.ofChange transformGroupsWrong)

/-- 'narrowslaw14.TransformPoints': WHATEVER THE INPUT: true; the input reads as it did. -/
def transformPointsSpec : ChangeSpec := { name := "transformPoints", fn := fun _ => fun
  | [d1, d2, d3, d4, d5] => { results := [.lit (.bool true)], args := [d1, d2, d3, d4, d5] }
  | _ => none }
def transformPointsRow : OpenClaim := { program := "ytbidkolaahnbiaagreat", sum := "ed12d2d9b0e848d62e164464bd6227176b53e9c9a18a31c551fb4a4eb69c67e1", func := "narrows/narrowslaw14.TransformPoints", spec := "transformPoints", unfollowed := true, recurses := true, named := ["math/bits.overflowError"], apart := false }
def TransformPointsSaid : Prop := transformPointsRow.holds Tryz.pinned (OpenSpec.ofChange transformPointsSpec)

/-- ITS FALSE NEIGHBOUR: 'it returns false'. Refute it at one input. -/
def transformPointsWrong : ChangeSpec := { name := "transformPoints", fn := fun _ => fun
  | [d1, d2, d3, d4, d5] => { results := [.lit (.bool false)], args := [d1, d2, d3, d4, d5] }
  | _ => none }
def TransformPointsWrongFalsely : Prop := transformPointsRow.holds Tryz.pinned (OpenSpec.ofChange transformPointsWrong)

/-- 'narrowslaw14.TransformLengths': WHATEVER THE INPUT: true; the input reads as it did. -/
def transformLengthsSpec : ChangeSpec := { name := "transformLengths", fn := fun _ => fun
  | [d1, d2, d3] => { results := [.lit (.bool true)], args := [d1, d2, d3] }
  | _ => none }
def transformLengthsRow : OpenClaim := { program := "ytbidkolaahnbiaagreat", sum := "ed12d2d9b0e848d62e164464bd6227176b53e9c9a18a31c551fb4a4eb69c67e1", func := "narrows/narrowslaw14.TransformLengths", spec := "transformLengths", unfollowed := true, recurses := true, named := ["math/bits.overflowError"], apart := false }
def TransformLengthsSaid : Prop := transformLengthsRow.holds Tryz.pinned (OpenSpec.ofChange transformLengthsSpec)

/-- ITS FALSE NEIGHBOUR: 'it returns false'. Refute it at one input. -/
def transformLengthsWrong : ChangeSpec := { name := "transformLengths", fn := fun _ => fun
  | [d1, d2, d3] => { results := [.lit (.bool false)], args := [d1, d2, d3] }
  | _ => none }
def TransformLengthsWrongFalsely : Prop := transformLengthsRow.holds Tryz.pinned (OpenSpec.ofChange transformLengthsWrong)

/-- 'narrowslaw11.PolygonAreas': WHATEVER THE INPUT: true; the input reads as it did. -/
def polygonAreasSpec : ChangeSpec := { name := "polygonAreas", fn := fun _ => fun
  | [d] => { results := [.lit (.bool true)], args := [d] }
  | _ => none }
def polygonAreasRow : OpenClaim := { program := "ytbidkolaahnbiaagreat", sum := "ed12d2d9b0e848d62e164464bd6227176b53e9c9a18a31c551fb4a4eb69c67e1", func := "narrows/narrowslaw11.PolygonAreas", spec := "polygonAreas", unfollowed := true, recurses := true, named := ["math/bits.overflowError"], apart := false }
def PolygonAreasSaid : Prop := polygonAreasRow.holds Tryz.pinned (OpenSpec.ofChange polygonAreasSpec)

/-- ITS FALSE NEIGHBOUR: 'it returns false'. Refute it at one input. -/
def polygonAreasWrong : ChangeSpec := { name := "polygonAreas", fn := fun _ => fun
  | [d] => { results := [.lit (.bool false)], args := [d] }
  | _ => none }
def PolygonAreasWrongFalsely : Prop := polygonAreasRow.holds Tryz.pinned (OpenSpec.ofChange polygonAreasWrong)

/-- 'narrowslaw11.PolygonInner': WHATEVER THE INPUT: true; the input reads as it did. -/
def polygonInnerSpec : ChangeSpec := { name := "polygonInner", fn := fun _ => fun
  | [d] => { results := [.lit (.bool true)], args := [d] }
  | _ => none }
def polygonInnerRow : OpenClaim := { program := "ytbidkolaahnbiaagreat", sum := "ed12d2d9b0e848d62e164464bd6227176b53e9c9a18a31c551fb4a4eb69c67e1", func := "narrows/narrowslaw11.PolygonInner", spec := "polygonInner", unfollowed := true, recurses := true, named := ["math/bits.overflowError"], apart := false }
def PolygonInnerSaid : Prop := polygonInnerRow.holds Tryz.pinned (OpenSpec.ofChange polygonInnerSpec)

/-- ITS FALSE NEIGHBOUR: 'it returns false'. Refute it at one input. -/
def polygonInnerWrong : ChangeSpec := { name := "polygonInner", fn := fun _ => fun
  | [d] => { results := [.lit (.bool false)], args := [d] }
  | _ => none }
def PolygonInnerWrongFalsely : Prop := polygonInnerRow.holds Tryz.pinned (OpenSpec.ofChange polygonInnerWrong)

/-- 'narrowslaw11.PolygonSides': WHATEVER THE INPUT: true; the input reads as it did. -/
def polygonSidesSpec : ChangeSpec := { name := "polygonSides", fn := fun _ => fun
  | [d1, d2] => { results := [.lit (.bool true)], args := [d1, d2] }
  | _ => none }
def polygonSidesRow : OpenClaim := { program := "ytbidkolaahnbiaagreat", sum := "ed12d2d9b0e848d62e164464bd6227176b53e9c9a18a31c551fb4a4eb69c67e1", func := "narrows/narrowslaw11.PolygonSides", spec := "polygonSides", unfollowed := true, recurses := true, named := ["math/bits.overflowError"], apart := false }
def PolygonSidesSaid : Prop := polygonSidesRow.holds Tryz.pinned (OpenSpec.ofChange polygonSidesSpec)

/-- ITS FALSE NEIGHBOUR: 'it returns false'. Refute it at one input. -/
def polygonSidesWrong : ChangeSpec := { name := "polygonSides", fn := fun _ => fun
  | [d1, d2] => { results := [.lit (.bool false)], args := [d1, d2] }
  | _ => none }
def PolygonSidesWrongFalsely : Prop := polygonSidesRow.holds Tryz.pinned (OpenSpec.ofChange polygonSidesWrong)

/-- 'narrowslaw11.PolygonReads': WHATEVER THE INPUT: true; the input reads as it did. -/
def polygonReadsSpec : ChangeSpec := { name := "polygonReads", fn := fun _ => fun
  | [d1, d2] => { results := [.lit (.bool true)], args := [d1, d2] }
  | _ => none }
def polygonReadsRow : OpenClaim := { program := "ytbidkolaahnbiaagreat", sum := "ed12d2d9b0e848d62e164464bd6227176b53e9c9a18a31c551fb4a4eb69c67e1", func := "narrows/narrowslaw11.PolygonReads", spec := "polygonReads", unfollowed := true, recurses := true, named := ["math/bits.overflowError"], apart := false }
def PolygonReadsSaid : Prop := polygonReadsRow.holds Tryz.pinned (OpenSpec.ofChange polygonReadsSpec)

/-- ITS FALSE NEIGHBOUR: 'it returns false'. Refute it at one input. -/
def polygonReadsWrong : ChangeSpec := { name := "polygonReads", fn := fun _ => fun
  | [d1, d2] => { results := [.lit (.bool false)], args := [d1, d2] }
  | _ => none }
def PolygonReadsWrongFalsely : Prop := polygonReadsRow.holds Tryz.pinned (OpenSpec.ofChange polygonReadsWrong)

/-- 'narrowslaw11.PolygonDiagonal': WHATEVER THE INPUT: true; the input reads as it did. -/
def polygonDiagonalSpec : ChangeSpec := { name := "polygonDiagonal", fn := fun _ => fun
  | [d1, d2, d3] => { results := [.lit (.bool true)], args := [d1, d2, d3] }
  | _ => none }
def polygonDiagonalRow : OpenClaim := { program := "ytbidkolaahnbiaagreat", sum := "ed12d2d9b0e848d62e164464bd6227176b53e9c9a18a31c551fb4a4eb69c67e1", func := "narrows/narrowslaw11.PolygonDiagonal", spec := "polygonDiagonal", unfollowed := true, recurses := true, named := ["math/bits.overflowError"], apart := false }
def PolygonDiagonalSaid : Prop := polygonDiagonalRow.holds Tryz.pinned (OpenSpec.ofChange polygonDiagonalSpec)

/-- ITS FALSE NEIGHBOUR: 'it returns false'. Refute it at one input. -/
def polygonDiagonalWrong : ChangeSpec := { name := "polygonDiagonal", fn := fun _ => fun
  | [d1, d2, d3] => { results := [.lit (.bool false)], args := [d1, d2, d3] }
  | _ => none }
def PolygonDiagonalWrongFalsely : Prop := polygonDiagonalRow.holds Tryz.pinned (OpenSpec.ofChange polygonDiagonalWrong)

/-- 'narrowslaw11.PolygonCheck': WHATEVER THE INPUT: true; the input reads as it did. -/
def polygonCheckSpec : ChangeSpec := { name := "polygonCheck", fn := fun _ => fun
  | [d] => { results := [.lit (.bool true)], args := [d] }
  | _ => none }
def polygonCheckRow : OpenClaim := { program := "ytbidkolaahnbiaagreat", sum := "ed12d2d9b0e848d62e164464bd6227176b53e9c9a18a31c551fb4a4eb69c67e1", func := "narrows/narrowslaw11.PolygonCheck", spec := "polygonCheck", unfollowed := true, recurses := true, named := ["math/bits.overflowError"], apart := false }
def PolygonCheckSaid : Prop := polygonCheckRow.holds Tryz.pinned (OpenSpec.ofChange polygonCheckSpec)

/-- ITS FALSE NEIGHBOUR: 'it returns false'. Refute it at one input. -/
def polygonCheckWrong : ChangeSpec := { name := "polygonCheck", fn := fun _ => fun
  | [d] => { results := [.lit (.bool false)], args := [d] }
  | _ => none }
def PolygonCheckWrongFalsely : Prop := polygonCheckRow.holds Tryz.pinned (OpenSpec.ofChange polygonCheckWrong)

/-- 'narrowslaw11.PolygonCanonical': WHATEVER THE INPUT: true; the input reads as it did. -/
def polygonCanonicalSpec : ChangeSpec := { name := "polygonCanonical", fn := fun _ => fun
  | [d1, d2, d3, d4] => { results := [.lit (.bool true)], args := [d1, d2, d3, d4] }
  | _ => none }
def polygonCanonicalRow : OpenClaim := { program := "ytbidkolaahnbiaagreat", sum := "ed12d2d9b0e848d62e164464bd6227176b53e9c9a18a31c551fb4a4eb69c67e1", func := "narrows/narrowslaw11.PolygonCanonical", spec := "polygonCanonical", unfollowed := true, recurses := true, named := ["math/bits.overflowError"], apart := false }
def PolygonCanonicalSaid : Prop := polygonCanonicalRow.holds Tryz.pinned (OpenSpec.ofChange polygonCanonicalSpec)

/-- ITS FALSE NEIGHBOUR: 'it returns false'. Refute it at one input. -/
def polygonCanonicalWrong : ChangeSpec := { name := "polygonCanonical", fn := fun _ => fun
  | [d1, d2, d3, d4] => { results := [.lit (.bool false)], args := [d1, d2, d3, d4] }
  | _ => none }
def PolygonCanonicalWrongFalsely : Prop := polygonCanonicalRow.holds Tryz.pinned (OpenSpec.ofChange polygonCanonicalWrong)

/- THE SECOND FORM. 'bulk': how many values and letters a reading holds, each counted each time it is reached (what is shared counts as often as it is met; a slice's spare places count too). A statement '..UptoSaid' is the law's where the arguments, and the package variables that the reading takes, are together of bulk at most 1048576: NARROWER than '..Said'. Prove '..Said' where nothing that the law and all that it calls make is longer than what came in: it says more and counts as full. Else prove '..UptoSaid'. A law counts once. -/
mutual
def uptoBulk {H : Type} : DataW H → Nat
  | .lit (.string bytes) => bytes.length + 1
  | .lit _ => 1
  | .nil => 1
  | .ptr d => uptoBulk d + 1
  | .slice elems spare => uptoBulkAll elems + uptoBulkAll spare + 1
  | .agg parts => uptoBulkAll parts + 1
  | .iface _ d => uptoBulk d + 1
  | .map entries => uptoBulkEntries entries + 1
  | .held _ => 1
def uptoBulkAll {H : Type} : List (DataW H) → Nat
  | [] => 0
  | d :: r => uptoBulk d + uptoBulkAll r
def uptoBulkEntries {H : Type} : List (Lit × DataW H) → Nat
  | [] => 0
  | x :: r => uptoBulkEntry x + uptoBulkEntries r
def uptoBulkEntry {H : Type} : Lit × DataW H → Nat
  | (.string bytes, d) => bytes.length + uptoBulk d + 1
  | (_, d) => uptoBulk d + 1
 end
def uptoSmall : (H : Type) → List (DataW H) → Bool := fun _ ds => decide (uptoBulkAll ds ≤ 1048576)
def OpenSpec.upto (s : _root_.Go.ChangeSpec) : _root_.Go.OpenSpec := { _root_.Go.OpenSpec.ofChange s with cond := some uptoSmall }

/-- 'narrowslaw14.TransformMoves', WHERE WHAT IT READS IS OF BULK AT MOST 1048576: true; the input reads as it did. -/
def transformMovesUptoRow : OpenClaim := { program := "ytbidkolaahnbiaagreat", sum := "ed12d2d9b0e848d62e164464bd6227176b53e9c9a18a31c551fb4a4eb69c67e1", func := "narrows/narrowslaw14.TransformMoves", spec := "transformMoves", unfollowed := true, recurses := true, named := ["math/bits.overflowError"], apart := false, narrowed := true }
def TransformMovesUptoSaid : Prop := transformMovesUptoRow.holds Tryz.pinned (OpenSpec.upto transformMovesSpec)

/-- 'narrowslaw14.TransformMaps', WHERE WHAT IT READS IS OF BULK AT MOST 1048576: true; the input reads as it did. -/
def transformMapsUptoRow : OpenClaim := { program := "ytbidkolaahnbiaagreat", sum := "ed12d2d9b0e848d62e164464bd6227176b53e9c9a18a31c551fb4a4eb69c67e1", func := "narrows/narrowslaw14.TransformMaps", spec := "transformMaps", unfollowed := true, recurses := true, named := ["math/bits.overflowError"], apart := false, narrowed := true }
def TransformMapsUptoSaid : Prop := transformMapsUptoRow.holds Tryz.pinned (OpenSpec.upto transformMapsSpec)

/-- 'narrowslaw14.TransformAreas', WHERE WHAT IT READS IS OF BULK AT MOST 1048576: true; the input reads as it did. -/
def transformAreasUptoRow : OpenClaim := { program := "ytbidkolaahnbiaagreat", sum := "ed12d2d9b0e848d62e164464bd6227176b53e9c9a18a31c551fb4a4eb69c67e1", func := "narrows/narrowslaw14.TransformAreas", spec := "transformAreas", unfollowed := true, recurses := true, named := ["math/bits.overflowError"], apart := false, narrowed := true }
def TransformAreasUptoSaid : Prop := transformAreasUptoRow.holds Tryz.pinned (OpenSpec.upto transformAreasSpec)

/-- 'narrowslaw14.TransformGroups', WHERE WHAT IT READS IS OF BULK AT MOST 1048576: true; the input reads as it did. -/
def transformGroupsUptoRow : OpenClaim := { program := "ytbidkolaahnbiaagreat", sum := "ed12d2d9b0e848d62e164464bd6227176b53e9c9a18a31c551fb4a4eb69c67e1", func := "narrows/narrowslaw14.TransformGroups", spec := "transformGroups", unfollowed := true, recurses := true, named := ["math/bits.overflowError"], apart := false, narrowed := true }
def TransformGroupsUptoSaid : Prop := transformGroupsUptoRow.holds Tryz.pinned (OpenSpec.upto transformGroupsSpec)

/-- 'narrowslaw14.TransformPoints', WHERE WHAT IT READS IS OF BULK AT MOST 1048576: true; the input reads as it did. -/
def transformPointsUptoRow : OpenClaim := { program := "ytbidkolaahnbiaagreat", sum := "ed12d2d9b0e848d62e164464bd6227176b53e9c9a18a31c551fb4a4eb69c67e1", func := "narrows/narrowslaw14.TransformPoints", spec := "transformPoints", unfollowed := true, recurses := true, named := ["math/bits.overflowError"], apart := false, narrowed := true }
def TransformPointsUptoSaid : Prop := transformPointsUptoRow.holds Tryz.pinned (OpenSpec.upto transformPointsSpec)

/-- 'narrowslaw14.TransformLengths', WHERE WHAT IT READS IS OF BULK AT MOST 1048576: true; the input reads as it did. -/
def transformLengthsUptoRow : OpenClaim := { program := "ytbidkolaahnbiaagreat", sum := "ed12d2d9b0e848d62e164464bd6227176b53e9c9a18a31c551fb4a4eb69c67e1", func := "narrows/narrowslaw14.TransformLengths", spec := "transformLengths", unfollowed := true, recurses := true, named := ["math/bits.overflowError"], apart := false, narrowed := true }
def TransformLengthsUptoSaid : Prop := transformLengthsUptoRow.holds Tryz.pinned (OpenSpec.upto transformLengthsSpec)

/-- 'narrowslaw11.PolygonAreas', WHERE WHAT IT READS IS OF BULK AT MOST 1048576: true; the input reads as it did. -/
def polygonAreasUptoRow : OpenClaim := { program := "ytbidkolaahnbiaagreat", sum := "ed12d2d9b0e848d62e164464bd6227176b53e9c9a18a31c551fb4a4eb69c67e1", func := "narrows/narrowslaw11.PolygonAreas", spec := "polygonAreas", unfollowed := true, recurses := true, named := ["math/bits.overflowError"], apart := false, narrowed := true }
def PolygonAreasUptoSaid : Prop := polygonAreasUptoRow.holds Tryz.pinned (OpenSpec.upto polygonAreasSpec)

/-- 'narrowslaw11.PolygonInner', WHERE WHAT IT READS IS OF BULK AT MOST 1048576: true; the input reads as it did. -/
def polygonInnerUptoRow : OpenClaim := { program := "ytbidkolaahnbiaagreat", sum := "ed12d2d9b0e848d62e164464bd6227176b53e9c9a18a31c551fb4a4eb69c67e1", func := "narrows/narrowslaw11.PolygonInner", spec := "polygonInner", unfollowed := true, recurses := true, named := ["math/bits.overflowError"], apart := false, narrowed := true }
def PolygonInnerUptoSaid : Prop := polygonInnerUptoRow.holds Tryz.pinned (OpenSpec.upto polygonInnerSpec)

/-- 'narrowslaw11.PolygonSides', WHERE WHAT IT READS IS OF BULK AT MOST 1048576: true; the input reads as it did. -/
def polygonSidesUptoRow : OpenClaim := { program := "ytbidkolaahnbiaagreat", sum := "ed12d2d9b0e848d62e164464bd6227176b53e9c9a18a31c551fb4a4eb69c67e1", func := "narrows/narrowslaw11.PolygonSides", spec := "polygonSides", unfollowed := true, recurses := true, named := ["math/bits.overflowError"], apart := false, narrowed := true }
def PolygonSidesUptoSaid : Prop := polygonSidesUptoRow.holds Tryz.pinned (OpenSpec.upto polygonSidesSpec)

/-- 'narrowslaw11.PolygonReads', WHERE WHAT IT READS IS OF BULK AT MOST 1048576: true; the input reads as it did. -/
def polygonReadsUptoRow : OpenClaim := { program := "ytbidkolaahnbiaagreat", sum := "ed12d2d9b0e848d62e164464bd6227176b53e9c9a18a31c551fb4a4eb69c67e1", func := "narrows/narrowslaw11.PolygonReads", spec := "polygonReads", unfollowed := true, recurses := true, named := ["math/bits.overflowError"], apart := false, narrowed := true }
def PolygonReadsUptoSaid : Prop := polygonReadsUptoRow.holds Tryz.pinned (OpenSpec.upto polygonReadsSpec)

/-- 'narrowslaw11.PolygonDiagonal', WHERE WHAT IT READS IS OF BULK AT MOST 1048576: true; the input reads as it did. -/
def polygonDiagonalUptoRow : OpenClaim := { program := "ytbidkolaahnbiaagreat", sum := "ed12d2d9b0e848d62e164464bd6227176b53e9c9a18a31c551fb4a4eb69c67e1", func := "narrows/narrowslaw11.PolygonDiagonal", spec := "polygonDiagonal", unfollowed := true, recurses := true, named := ["math/bits.overflowError"], apart := false, narrowed := true }
def PolygonDiagonalUptoSaid : Prop := polygonDiagonalUptoRow.holds Tryz.pinned (OpenSpec.upto polygonDiagonalSpec)

/-- 'narrowslaw11.PolygonCheck', WHERE WHAT IT READS IS OF BULK AT MOST 1048576: true; the input reads as it did. -/
def polygonCheckUptoRow : OpenClaim := { program := "ytbidkolaahnbiaagreat", sum := "ed12d2d9b0e848d62e164464bd6227176b53e9c9a18a31c551fb4a4eb69c67e1", func := "narrows/narrowslaw11.PolygonCheck", spec := "polygonCheck", unfollowed := true, recurses := true, named := ["math/bits.overflowError"], apart := false, narrowed := true }
def PolygonCheckUptoSaid : Prop := polygonCheckUptoRow.holds Tryz.pinned (OpenSpec.upto polygonCheckSpec)

/-- 'narrowslaw11.PolygonCanonical', WHERE WHAT IT READS IS OF BULK AT MOST 1048576: true; the input reads as it did. -/
def polygonCanonicalUptoRow : OpenClaim := { program := "ytbidkolaahnbiaagreat", sum := "ed12d2d9b0e848d62e164464bd6227176b53e9c9a18a31c551fb4a4eb69c67e1", func := "narrows/narrowslaw11.PolygonCanonical", spec := "polygonCanonical", unfollowed := true, recurses := true, named := ["math/bits.overflowError"], apart := false, narrowed := true }
def PolygonCanonicalUptoSaid : Prop := polygonCanonicalUptoRow.holds Tryz.pinned (OpenSpec.upto polygonCanonicalSpec)

end Rows
end Go.Proofs.YtbidkolaahnbiaaGreat
