/-
  No cell of these rows narrows 'for every input' (looked for: loops, veiled, ifaces, maps, wideKeys, modest, calm, conditions, laid).
  DERIVED. THE GIVEN ROWS OF THIS SEAT. 11 by the template 'for every input the law returns true; each argument reads behind the call as it read before'; 0 by the template 'total and deterministic' (their statements: YtbkgmegpgnmlpaaTotals.lean).
  GIVEN WITH THE SEED: the statements are not yours to turn. If you find one false, say at which input.
  Laid BY PROGRAM, IN A SANDBOX (cutbox-rows.mjs): the forced cells as the released guide's own fill.sh prints them over the translation 3fe061ee24dda4d6… (all of the seat's roots in one cut). By AI agents, Wed Nov 11 2026. No macro, syntax, notation, axiom, sorry.
-/
import Derived.Test.YtbkgmegpgnmlpaaChecked
import GoSem.Claim
import GoSem.ClaimJoined
import GoSem.ClaimMapViews
import Derived.JoinedTies
import Derived.KernelRfl
namespace Go.Proofs.Ytbkgmegpgnmlpaa
/- THE CELL 'sum', in the pinned program and in every row, IS THE sha256 OF THE DUMP (.gsa) THAT YtbkgmegpgnmlpaaProg.lean LOADS. Nothing in Lean hashes anything: it is a label: what it is worth is what the hold of that sum in a sandbox is worth. -/
noncomputable def Try.pinned : Pinned := { name := "ytbkgmegpgnmlpaa", sum := "3fe061ee24dda4d6d69dd18e7a53688d3528b0424231fd3d32643e29b18a07bf", checked := Try.checked }
namespace Rows
def none {H : Type} : Left H := { results := [], args := [] }

/-- 'laws.FnCurves': WHATEVER THE INPUT: true; the input reads as it did. -/
def fnCurvesSpec : ChangeSpec := { name := "fnCurves", fn := fun _ => fun
  | [d1, d2] => { results := [.lit (.bool true)], args := [d1, d2] }
  | _ => none }
def fnCurvesRow : OpenClaim := { program := "ytbkgmegpgnmlpaa", sum := "3fe061ee24dda4d6d69dd18e7a53688d3528b0424231fd3d32643e29b18a07bf", func := "loop.example/g01165/laws.FnCurves", spec := "fnCurves", recurses := true, apart := false }
def FnCurvesSaid : Prop := fnCurvesRow.holds Try.pinned (OpenSpec.ofChange fnCurvesSpec)

/-- ITS FALSE NEIGHBOUR: 'it returns false'. Refute it at one input. -/
def fnCurvesWrong : ChangeSpec := { name := "fnCurves", fn := fun _ => fun
  | [d1, d2] => { results := [.lit (.bool false)], args := [d1, d2] }
  | _ => none }
def FnCurvesWrongFalsely : Prop := fnCurvesRow.holds Try.pinned (OpenSpec.ofChange fnCurvesWrong)

/-- 'laws.FnExactSpotAt': WHATEVER THE INPUT: true; the input reads as it did. -/
def fnExactSpotAtSpec : ChangeSpec := { name := "fnExactSpotAt", fn := fun _ => fun
  | [d1, d2, d3] => { results := [.lit (.bool true)], args := [d1, d2, d3] }
  | _ => none }
def fnExactSpotAtRow : OpenClaim := { program := "ytbkgmegpgnmlpaa", sum := "3fe061ee24dda4d6d69dd18e7a53688d3528b0424231fd3d32643e29b18a07bf", func := "loop.example/g01165/laws.FnExactSpotAt", spec := "fnExactSpotAt", recurses := true, apart := false }
def FnExactSpotAtSaid : Prop := fnExactSpotAtRow.holds Try.pinned (OpenSpec.ofChange fnExactSpotAtSpec)

/-- ITS FALSE NEIGHBOUR: 'it returns false'. Refute it at one input. -/
def fnExactSpotAtWrong : ChangeSpec := { name := "fnExactSpotAt", fn := fun _ => fun
  | [d1, d2, d3] => { results := [.lit (.bool false)], args := [d1, d2, d3] }
  | _ => none }
def FnExactSpotAtWrongFalsely : Prop := fnExactSpotAtRow.holds Try.pinned (OpenSpec.ofChange fnExactSpotAtWrong)

/-- 'laws.FnExactLongestJump': WHATEVER THE INPUT: true; the input reads as it did. -/
def fnExactLongestJumpSpec : ChangeSpec := { name := "fnExactLongestJump", fn := fun _ => fun
  | [d1, d2] => { results := [.lit (.bool true)], args := [d1, d2] }
  | _ => none }
def fnExactLongestJumpRow : OpenClaim := { program := "ytbkgmegpgnmlpaa", sum := "3fe061ee24dda4d6d69dd18e7a53688d3528b0424231fd3d32643e29b18a07bf", func := "loop.example/g01165/laws.FnExactLongestJump", spec := "fnExactLongestJump", recurses := true, apart := false }
def FnExactLongestJumpSaid : Prop := fnExactLongestJumpRow.holds Try.pinned (OpenSpec.ofChange fnExactLongestJumpSpec)

/-- ITS FALSE NEIGHBOUR: 'it returns false'. Refute it at one input. -/
def fnExactLongestJumpWrong : ChangeSpec := { name := "fnExactLongestJump", fn := fun _ => fun
  | [d1, d2] => { results := [.lit (.bool false)], args := [d1, d2] }
  | _ => none }
def FnExactLongestJumpWrongFalsely : Prop := fnExactLongestJumpRow.holds Try.pinned (OpenSpec.ofChange fnExactLongestJumpWrong)

/-- 'laws.FnExactIntervalsOfSize': WHATEVER THE INPUT: true; the input reads as it did. -/
def fnExactIntervalsOfSizeSpec : ChangeSpec := { name := "fnExactIntervalsOfSize", fn := fun _ => fun
  | [d1, d2, d3, d4] => { results := [.lit (.bool true)], args := [d1, d2, d3, d4] }
  | _ => none }
def fnExactIntervalsOfSizeRow : OpenClaim := { program := "ytbkgmegpgnmlpaa", sum := "3fe061ee24dda4d6d69dd18e7a53688d3528b0424231fd3d32643e29b18a07bf", func := "loop.example/g01165/laws.FnExactIntervalsOfSize", spec := "fnExactIntervalsOfSize", recurses := true, apart := false }
def FnExactIntervalsOfSizeSaid : Prop := fnExactIntervalsOfSizeRow.holds Try.pinned (OpenSpec.ofChange fnExactIntervalsOfSizeSpec)

/-- ITS FALSE NEIGHBOUR: 'it returns false'. Refute it at one input. -/
def fnExactIntervalsOfSizeWrong : ChangeSpec := { name := "fnExactIntervalsOfSize", fn := fun _ => fun
  | [d1, d2, d3, d4] => { results := [.lit (.bool false)], args := [d1, d2, d3, d4] }
  | _ => none }
def FnExactIntervalsOfSizeWrongFalsely : Prop := fnExactIntervalsOfSizeRow.holds Try.pinned (OpenSpec.ofChange fnExactIntervalsOfSizeWrong)

/-- 'laws.FnExactNextInBox': WHATEVER THE INPUT: true; the input reads as it did. -/
def fnExactNextInBoxSpec : ChangeSpec := { name := "fnExactNextInBox", fn := fun _ => fun
  | [d1, d2, d3, d4, d5] => { results := [.lit (.bool true)], args := [d1, d2, d3, d4, d5] }
  | _ => none }
def fnExactNextInBoxRow : OpenClaim := { program := "ytbkgmegpgnmlpaa", sum := "3fe061ee24dda4d6d69dd18e7a53688d3528b0424231fd3d32643e29b18a07bf", func := "loop.example/g01165/laws.FnExactNextInBox", spec := "fnExactNextInBox", recurses := true, apart := false }
def FnExactNextInBoxSaid : Prop := fnExactNextInBoxRow.holds Try.pinned (OpenSpec.ofChange fnExactNextInBoxSpec)

/-- ITS FALSE NEIGHBOUR: 'it returns false'. Refute it at one input. -/
def fnExactNextInBoxWrong : ChangeSpec := { name := "fnExactNextInBox", fn := fun _ => fun
  | [d1, d2, d3, d4, d5] => { results := [.lit (.bool false)], args := [d1, d2, d3, d4, d5] }
  | _ => none }
def FnExactNextInBoxWrongFalsely : Prop := fnExactNextInBoxRow.holds Try.pinned (OpenSpec.ofChange fnExactNextInBoxWrong)

/-- 'laws.FnExactIntervalsOf': WHATEVER THE INPUT: true; the input reads as it did. -/
def fnExactIntervalsOfSpec : ChangeSpec := { name := "fnExactIntervalsOf", fn := fun _ => fun
  | [d1, d2, d3, d4] => { results := [.lit (.bool true)], args := [d1, d2, d3, d4] }
  | _ => none }
def fnExactIntervalsOfRow : OpenClaim := { program := "ytbkgmegpgnmlpaa", sum := "3fe061ee24dda4d6d69dd18e7a53688d3528b0424231fd3d32643e29b18a07bf", func := "loop.example/g01165/laws.FnExactIntervalsOf", spec := "fnExactIntervalsOf", recurses := true, apart := false }
def FnExactIntervalsOfSaid : Prop := fnExactIntervalsOfRow.holds Try.pinned (OpenSpec.ofChange fnExactIntervalsOfSpec)

/-- ITS FALSE NEIGHBOUR: 'it returns false'. Refute it at one input. -/
def fnExactIntervalsOfWrong : ChangeSpec := { name := "fnExactIntervalsOf", fn := fun _ => fun
  | [d1, d2, d3, d4] => { results := [.lit (.bool false)], args := [d1, d2, d3, d4] }
  | _ => none }
def FnExactIntervalsOfWrongFalsely : Prop := fnExactIntervalsOfRow.holds Try.pinned (OpenSpec.ofChange fnExactIntervalsOfWrong)

/-- 'laws.FnExactSortAlong': WHATEVER THE INPUT: true; the input reads as it did. -/
def fnExactSortAlongSpec : ChangeSpec := { name := "fnExactSortAlong", fn := fun _ => fun
  | [d1, d2, d3] => { results := [.lit (.bool true)], args := [d1, d2, d3] }
  | _ => none }
def fnExactSortAlongRow : OpenClaim := { program := "ytbkgmegpgnmlpaa", sum := "3fe061ee24dda4d6d69dd18e7a53688d3528b0424231fd3d32643e29b18a07bf", func := "loop.example/g01165/laws.FnExactSortAlong", spec := "fnExactSortAlong", unfollowed := true, recurses := true, apart := false }
def FnExactSortAlongSaid : Prop := fnExactSortAlongRow.holds Try.pinned (OpenSpec.ofChange fnExactSortAlongSpec)

/-- ITS FALSE NEIGHBOUR: 'it returns false'. Refute it at one input. -/
def fnExactSortAlongWrong : ChangeSpec := { name := "fnExactSortAlong", fn := fun _ => fun
  | [d1, d2, d3] => { results := [.lit (.bool false)], args := [d1, d2, d3] }
  | _ => none }
def FnExactSortAlongWrongFalsely : Prop := fnExactSortAlongRow.holds Try.pinned (OpenSpec.ofChange fnExactSortAlongWrong)

/-- 'laws.FnExactWayAlong': WHATEVER THE INPUT: true; the input reads as it did. -/
def fnExactWayAlongSpec : ChangeSpec := { name := "fnExactWayAlong", fn := fun _ => fun
  | [d1, d2, d3] => { results := [.lit (.bool true)], args := [d1, d2, d3] }
  | _ => none }
def fnExactWayAlongRow : OpenClaim := { program := "ytbkgmegpgnmlpaa", sum := "3fe061ee24dda4d6d69dd18e7a53688d3528b0424231fd3d32643e29b18a07bf", func := "loop.example/g01165/laws.FnExactWayAlong", spec := "fnExactWayAlong", unfollowed := true, recurses := true, apart := false }
def FnExactWayAlongSaid : Prop := fnExactWayAlongRow.holds Try.pinned (OpenSpec.ofChange fnExactWayAlongSpec)

/-- ITS FALSE NEIGHBOUR: 'it returns false'. Refute it at one input. -/
def fnExactWayAlongWrong : ChangeSpec := { name := "fnExactWayAlong", fn := fun _ => fun
  | [d1, d2, d3] => { results := [.lit (.bool false)], args := [d1, d2, d3] }
  | _ => none }
def FnExactWayAlongWrongFalsely : Prop := fnExactWayAlongRow.holds Try.pinned (OpenSpec.ofChange fnExactWayAlongWrong)

/-- 'laws.FnExactCloseAlong': WHATEVER THE INPUT: true; the input reads as it did. -/
def fnExactCloseAlongSpec : ChangeSpec := { name := "fnExactCloseAlong", fn := fun _ => fun
  | [d1, d2, d3, d4] => { results := [.lit (.bool true)], args := [d1, d2, d3, d4] }
  | _ => none }
def fnExactCloseAlongRow : OpenClaim := { program := "ytbkgmegpgnmlpaa", sum := "3fe061ee24dda4d6d69dd18e7a53688d3528b0424231fd3d32643e29b18a07bf", func := "loop.example/g01165/laws.FnExactCloseAlong", spec := "fnExactCloseAlong", unfollowed := true, recurses := true, apart := false }
def FnExactCloseAlongSaid : Prop := fnExactCloseAlongRow.holds Try.pinned (OpenSpec.ofChange fnExactCloseAlongSpec)

/-- ITS FALSE NEIGHBOUR: 'it returns false'. Refute it at one input. -/
def fnExactCloseAlongWrong : ChangeSpec := { name := "fnExactCloseAlong", fn := fun _ => fun
  | [d1, d2, d3, d4] => { results := [.lit (.bool false)], args := [d1, d2, d3, d4] }
  | _ => none }
def FnExactCloseAlongWrongFalsely : Prop := fnExactCloseAlongRow.holds Try.pinned (OpenSpec.ofChange fnExactCloseAlongWrong)

/-- 'laws.FnIntervals': WHATEVER THE INPUT: true; the input reads as it did. -/
def fnIntervalsSpec : ChangeSpec := { name := "fnIntervals", fn := fun _ => fun
  | [d1, d2] => { results := [.lit (.bool true)], args := [d1, d2] }
  | _ => none }
def fnIntervalsRow : OpenClaim := { program := "ytbkgmegpgnmlpaa", sum := "3fe061ee24dda4d6d69dd18e7a53688d3528b0424231fd3d32643e29b18a07bf", func := "loop.example/g01165/laws.FnIntervals", spec := "fnIntervals", recurses := true, apart := false }
def FnIntervalsSaid : Prop := fnIntervalsRow.holds Try.pinned (OpenSpec.ofChange fnIntervalsSpec)

/-- ITS FALSE NEIGHBOUR: 'it returns false'. Refute it at one input. -/
def fnIntervalsWrong : ChangeSpec := { name := "fnIntervals", fn := fun _ => fun
  | [d1, d2] => { results := [.lit (.bool false)], args := [d1, d2] }
  | _ => none }
def FnIntervalsWrongFalsely : Prop := fnIntervalsRow.holds Try.pinned (OpenSpec.ofChange fnIntervalsWrong)

/-- 'laws.FnSortedSpots': WHATEVER THE INPUT: true; the input reads as it did. -/
def fnSortedSpotsSpec : ChangeSpec := { name := "fnSortedSpots", fn := fun _ => fun
  | [d1, d2] => { results := [.lit (.bool true)], args := [d1, d2] }
  | _ => none }
def fnSortedSpotsRow : OpenClaim := { program := "ytbkgmegpgnmlpaa", sum := "3fe061ee24dda4d6d69dd18e7a53688d3528b0424231fd3d32643e29b18a07bf", func := "loop.example/g01165/laws.FnSortedSpots", spec := "fnSortedSpots", unfollowed := true, recurses := true, apart := false }
def FnSortedSpotsSaid : Prop := fnSortedSpotsRow.holds Try.pinned (OpenSpec.ofChange fnSortedSpotsSpec)

/-- ITS FALSE NEIGHBOUR: 'it returns false'. Refute it at one input. -/
def fnSortedSpotsWrong : ChangeSpec := { name := "fnSortedSpots", fn := fun _ => fun
  | [d1, d2] => { results := [.lit (.bool false)], args := [d1, d2] }
  | _ => none }
def FnSortedSpotsWrongFalsely : Prop := fnSortedSpotsRow.holds Try.pinned (OpenSpec.ofChange fnSortedSpotsWrong)

/- THE SECOND FORM. 'bulk': how many values and letters a reading holds, each counted each time it is reached (what is shared counts as often as it is met; a slice's spare places count too). A statement '..UptoSaid' is the law's where the arguments, and the package variables that the reading takes, are together of bulk at most 1048576: NARROWER than '..Said'. Prove '..Said' where nothing that the law and all that it calls make is longer than what came in: it says more and counts as full. Else prove '..UptoSaid'. A law counts once. -/
mutual
def uptoBulk {H : Type} : DataW H → Nat
  | .lit (.string bytes) => bytes.length + 1
  | .lit _ => 1
  | .nil => 1
  | .ptr d => uptoBulk d + 1
  | .slice elems spare => uptoBulkAll elems + uptoBulkAll spare + 1
  | .agg parts => uptoBulkAll parts + 1
  | .iface _ d => uptoBulk d + 1
  | .map entries => uptoBulkEntries entries + 1
  | .held _ => 1
def uptoBulkAll {H : Type} : List (DataW H) → Nat
  | [] => 0
  | d :: r => uptoBulk d + uptoBulkAll r
def uptoBulkEntries {H : Type} : List (Lit × DataW H) → Nat
  | [] => 0
  | x :: r => uptoBulkEntry x + uptoBulkEntries r
def uptoBulkEntry {H : Type} : Lit × DataW H → Nat
  | (.string bytes, d) => bytes.length + uptoBulk d + 1
  | (_, d) => uptoBulk d + 1
 end
def uptoSmall : (H : Type) → List (DataW H) → Bool := fun _ ds => decide (uptoBulkAll ds ≤ 1048576)
def OpenSpec.upto (s : _root_.Go.ChangeSpec) : _root_.Go.OpenSpec := { _root_.Go.OpenSpec.ofChange s with cond := some uptoSmall }

/-- 'laws.FnCurves', WHERE WHAT IT READS IS OF BULK AT MOST 1048576: true; the input reads as it did. -/
def fnCurvesUptoRow : OpenClaim := { program := "ytbkgmegpgnmlpaa", sum := "3fe061ee24dda4d6d69dd18e7a53688d3528b0424231fd3d32643e29b18a07bf", func := "loop.example/g01165/laws.FnCurves", spec := "fnCurves", recurses := true, apart := false, narrowed := true }
def FnCurvesUptoSaid : Prop := fnCurvesUptoRow.holds Try.pinned (OpenSpec.upto fnCurvesSpec)

/-- 'laws.FnExactSpotAt', WHERE WHAT IT READS IS OF BULK AT MOST 1048576: true; the input reads as it did. -/
def fnExactSpotAtUptoRow : OpenClaim := { program := "ytbkgmegpgnmlpaa", sum := "3fe061ee24dda4d6d69dd18e7a53688d3528b0424231fd3d32643e29b18a07bf", func := "loop.example/g01165/laws.FnExactSpotAt", spec := "fnExactSpotAt", recurses := true, apart := false, narrowed := true }
def FnExactSpotAtUptoSaid : Prop := fnExactSpotAtUptoRow.holds Try.pinned (OpenSpec.upto fnExactSpotAtSpec)

/-- 'laws.FnExactLongestJump', WHERE WHAT IT READS IS OF BULK AT MOST 1048576: true; the input reads as it did. -/
def fnExactLongestJumpUptoRow : OpenClaim := { program := "ytbkgmegpgnmlpaa", sum := "3fe061ee24dda4d6d69dd18e7a53688d3528b0424231fd3d32643e29b18a07bf", func := "loop.example/g01165/laws.FnExactLongestJump", spec := "fnExactLongestJump", recurses := true, apart := false, narrowed := true }
def FnExactLongestJumpUptoSaid : Prop := fnExactLongestJumpUptoRow.holds Try.pinned (OpenSpec.upto fnExactLongestJumpSpec)

/-- 'laws.FnExactIntervalsOfSize', WHERE WHAT IT READS IS OF BULK AT MOST 1048576: true; the input reads as it did. -/
def fnExactIntervalsOfSizeUptoRow : OpenClaim := { program := "ytbkgmegpgnmlpaa", sum := "3fe061ee24dda4d6d69dd18e7a53688d3528b0424231fd3d32643e29b18a07bf", func := "loop.example/g01165/laws.FnExactIntervalsOfSize", spec := "fnExactIntervalsOfSize", recurses := true, apart := false, narrowed := true }
def FnExactIntervalsOfSizeUptoSaid : Prop := fnExactIntervalsOfSizeUptoRow.holds Try.pinned (OpenSpec.upto fnExactIntervalsOfSizeSpec)

/-- 'laws.FnExactNextInBox', WHERE WHAT IT READS IS OF BULK AT MOST 1048576: true; the input reads as it did. -/
def fnExactNextInBoxUptoRow : OpenClaim := { program := "ytbkgmegpgnmlpaa", sum := "3fe061ee24dda4d6d69dd18e7a53688d3528b0424231fd3d32643e29b18a07bf", func := "loop.example/g01165/laws.FnExactNextInBox", spec := "fnExactNextInBox", recurses := true, apart := false, narrowed := true }
def FnExactNextInBoxUptoSaid : Prop := fnExactNextInBoxUptoRow.holds Try.pinned (OpenSpec.upto fnExactNextInBoxSpec)

/-- 'laws.FnExactIntervalsOf', WHERE WHAT IT READS IS OF BULK AT MOST 1048576: true; the input reads as it did. -/
def fnExactIntervalsOfUptoRow : OpenClaim := { program := "ytbkgmegpgnmlpaa", sum := "3fe061ee24dda4d6d69dd18e7a53688d3528b0424231fd3d32643e29b18a07bf", func := "loop.example/g01165/laws.FnExactIntervalsOf", spec := "fnExactIntervalsOf", recurses := true, apart := false, narrowed := true }
def FnExactIntervalsOfUptoSaid : Prop := fnExactIntervalsOfUptoRow.holds Try.pinned (OpenSpec.upto fnExactIntervalsOfSpec)

/-- 'laws.FnExactSortAlong', WHERE WHAT IT READS IS OF BULK AT MOST 1048576: true; the input reads as it did. -/
def fnExactSortAlongUptoRow : OpenClaim := { program := "ytbkgmegpgnmlpaa", sum := "3fe061ee24dda4d6d69dd18e7a53688d3528b0424231fd3d32643e29b18a07bf", func := "loop.example/g01165/laws.FnExactSortAlong", spec := "fnExactSortAlong", unfollowed := true, recurses := true, apart := false, narrowed := true }
def FnExactSortAlongUptoSaid : Prop := fnExactSortAlongUptoRow.holds Try.pinned (OpenSpec.upto fnExactSortAlongSpec)

/-- 'laws.FnExactWayAlong', WHERE WHAT IT READS IS OF BULK AT MOST 1048576: true; the input reads as it did. -/
def fnExactWayAlongUptoRow : OpenClaim := { program := "ytbkgmegpgnmlpaa", sum := "3fe061ee24dda4d6d69dd18e7a53688d3528b0424231fd3d32643e29b18a07bf", func := "loop.example/g01165/laws.FnExactWayAlong", spec := "fnExactWayAlong", unfollowed := true, recurses := true, apart := false, narrowed := true }
def FnExactWayAlongUptoSaid : Prop := fnExactWayAlongUptoRow.holds Try.pinned (OpenSpec.upto fnExactWayAlongSpec)

/-- 'laws.FnExactCloseAlong', WHERE WHAT IT READS IS OF BULK AT MOST 1048576: true; the input reads as it did. -/
def fnExactCloseAlongUptoRow : OpenClaim := { program := "ytbkgmegpgnmlpaa", sum := "3fe061ee24dda4d6d69dd18e7a53688d3528b0424231fd3d32643e29b18a07bf", func := "loop.example/g01165/laws.FnExactCloseAlong", spec := "fnExactCloseAlong", unfollowed := true, recurses := true, apart := false, narrowed := true }
def FnExactCloseAlongUptoSaid : Prop := fnExactCloseAlongUptoRow.holds Try.pinned (OpenSpec.upto fnExactCloseAlongSpec)

/-- 'laws.FnIntervals', WHERE WHAT IT READS IS OF BULK AT MOST 1048576: true; the input reads as it did. -/
def fnIntervalsUptoRow : OpenClaim := { program := "ytbkgmegpgnmlpaa", sum := "3fe061ee24dda4d6d69dd18e7a53688d3528b0424231fd3d32643e29b18a07bf", func := "loop.example/g01165/laws.FnIntervals", spec := "fnIntervals", recurses := true, apart := false, narrowed := true }
def FnIntervalsUptoSaid : Prop := fnIntervalsUptoRow.holds Try.pinned (OpenSpec.upto fnIntervalsSpec)

/-- 'laws.FnSortedSpots', WHERE WHAT IT READS IS OF BULK AT MOST 1048576: true; the input reads as it did. -/
def fnSortedSpotsUptoRow : OpenClaim := { program := "ytbkgmegpgnmlpaa", sum := "3fe061ee24dda4d6d69dd18e7a53688d3528b0424231fd3d32643e29b18a07bf", func := "loop.example/g01165/laws.FnSortedSpots", spec := "fnSortedSpots", unfollowed := true, recurses := true, apart := false, narrowed := true }
def FnSortedSpotsUptoSaid : Prop := fnSortedSpotsUptoRow.holds Try.pinned (OpenSpec.upto fnSortedSpotsSpec)

end Rows
end Go.Proofs.Ytbkgmegpgnmlpaa
