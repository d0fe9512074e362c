/-
  No cell of these rows narrows 'for every input' (looked for: loops, veiled, ifaces, maps, wideKeys, modest, calm, conditions, laid).
  DERIVED. THE GIVEN ROWS OF THIS SEAT. 12 by the template 'for every input the law returns true; each argument reads behind the call as it read before'; 0 by the template 'total and deterministic' (their statements: YtajepoopicoodaaTotals.lean).
  GIVEN WITH THE SEED: the statements are not yours to turn. If you find one false, say at which input.
  Laid BY PROGRAM, IN A SANDBOX (cutbox-rows.mjs): the forced cells as the released guide's own fill.sh prints them over the translation c1d855012a740e5e… (all of the seat's roots in one cut). By AI agents, Wed Nov 11 2026. No macro, syntax, notation, axiom, sorry.
-/
import Derived.Test.YtajepoopicoodaaChecked
import GoSem.Claim
import GoSem.ClaimJoined
import GoSem.ClaimMapViews
import Derived.JoinedTies
import Derived.KernelRfl
namespace Go.Proofs.Ytajepoopicoodaa
/- THE CELL 'sum', in the pinned program and in every row, IS THE sha256 OF THE DUMP (.gsa) THAT YtajepoopicoodaaProg.lean LOADS. Nothing in Lean hashes anything: it is a label: what it is worth is what the hold of that sum in a sandbox is worth. -/
noncomputable def Try.pinned : Pinned := { name := "ytajepoopicoodaa", sum := "c1d855012a740e5e99068ab8efb67cfdf75a95da35ddd14c9b39486acbcdbafd", checked := Try.checked }
namespace Rows
def none {H : Type} : Left H := { results := [], args := [] }

/-- 'laws.FnExactEndOfWay': WHATEVER THE INPUT: true; the input reads as it did. -/
def fnExactEndOfWaySpec : ChangeSpec := { name := "fnExactEndOfWay", fn := fun _ => fun
  | [d1, d2, d3] => { results := [.lit (.bool true)], args := [d1, d2, d3] }
  | _ => none }
def fnExactEndOfWayRow : OpenClaim := { program := "ytajepoopicoodaa", sum := "c1d855012a740e5e99068ab8efb67cfdf75a95da35ddd14c9b39486acbcdbafd", func := "loop.example/g01165/laws.FnExactEndOfWay", spec := "fnExactEndOfWay", inPlace := ["internal/bytealg.IndexByteString"], unfollowed := true, recurses := true, plainKeys := false, apart := false }
def FnExactEndOfWaySaid : Prop := fnExactEndOfWayRow.holds Try.pinned (OpenSpec.ofChange fnExactEndOfWaySpec)

/-- ITS FALSE NEIGHBOUR: 'it returns false'. Refute it at one input. -/
def fnExactEndOfWayWrong : ChangeSpec := { name := "fnExactEndOfWay", fn := fun _ => fun
  | [d1, d2, d3] => { results := [.lit (.bool false)], args := [d1, d2, d3] }
  | _ => none }
def FnExactEndOfWayWrongFalsely : Prop := fnExactEndOfWayRow.holds Try.pinned (OpenSpec.ofChange fnExactEndOfWayWrong)

/-- 'laws.FnExactPassBetween': WHATEVER THE INPUT: true; the input reads as it did. -/
def fnExactPassBetweenSpec : ChangeSpec := { name := "fnExactPassBetween", fn := fun _ => fun
  | [d1, d2, d3] => { results := [.lit (.bool true)], args := [d1, d2, d3] }
  | _ => none }
def fnExactPassBetweenRow : OpenClaim := { program := "ytajepoopicoodaa", sum := "c1d855012a740e5e99068ab8efb67cfdf75a95da35ddd14c9b39486acbcdbafd", func := "loop.example/g01165/laws.FnExactPassBetween", spec := "fnExactPassBetween", unfollowed := true, recurses := true, plainKeys := false, apart := false }
def FnExactPassBetweenSaid : Prop := fnExactPassBetweenRow.holds Try.pinned (OpenSpec.ofChange fnExactPassBetweenSpec)

/-- ITS FALSE NEIGHBOUR: 'it returns false'. Refute it at one input. -/
def fnExactPassBetweenWrong : ChangeSpec := { name := "fnExactPassBetween", fn := fun _ => fun
  | [d1, d2, d3] => { results := [.lit (.bool false)], args := [d1, d2, d3] }
  | _ => none }
def FnExactPassBetweenWrongFalsely : Prop := fnExactPassBetweenRow.holds Try.pinned (OpenSpec.ofChange fnExactPassBetweenWrong)

/-- 'laws.FnExactDepthAt': WHATEVER THE INPUT: true; the input reads as it did. -/
def fnExactDepthAtSpec : ChangeSpec := { name := "fnExactDepthAt", fn := fun _ => fun
  | [d1, d2] => { results := [.lit (.bool true)], args := [d1, d2] }
  | _ => none }
def fnExactDepthAtRow : OpenClaim := { program := "ytajepoopicoodaa", sum := "c1d855012a740e5e99068ab8efb67cfdf75a95da35ddd14c9b39486acbcdbafd", func := "loop.example/g01165/laws.FnExactDepthAt", spec := "fnExactDepthAt", unfollowed := true, recurses := true, plainKeys := false, apart := false }
def FnExactDepthAtSaid : Prop := fnExactDepthAtRow.holds Try.pinned (OpenSpec.ofChange fnExactDepthAtSpec)

/-- ITS FALSE NEIGHBOUR: 'it returns false'. Refute it at one input. -/
def fnExactDepthAtWrong : ChangeSpec := { name := "fnExactDepthAt", fn := fun _ => fun
  | [d1, d2] => { results := [.lit (.bool false)], args := [d1, d2] }
  | _ => none }
def FnExactDepthAtWrongFalsely : Prop := fnExactDepthAtRow.holds Try.pinned (OpenSpec.ofChange fnExactDepthAtWrong)

/-- 'laws.FnExactSpillAt': WHATEVER THE INPUT: true; the input reads as it did. -/
def fnExactSpillAtSpec : ChangeSpec := { name := "fnExactSpillAt", fn := fun _ => fun
  | [d1, d2] => { results := [.lit (.bool true)], args := [d1, d2] }
  | _ => none }
def fnExactSpillAtRow : OpenClaim := { program := "ytajepoopicoodaa", sum := "c1d855012a740e5e99068ab8efb67cfdf75a95da35ddd14c9b39486acbcdbafd", func := "loop.example/g01165/laws.FnExactSpillAt", spec := "fnExactSpillAt", unfollowed := true, recurses := true, plainKeys := false, apart := false }
def FnExactSpillAtSaid : Prop := fnExactSpillAtRow.holds Try.pinned (OpenSpec.ofChange fnExactSpillAtSpec)

/-- ITS FALSE NEIGHBOUR: 'it returns false'. Refute it at one input. -/
def fnExactSpillAtWrong : ChangeSpec := { name := "fnExactSpillAt", fn := fun _ => fun
  | [d1, d2] => { results := [.lit (.bool false)], args := [d1, d2] }
  | _ => none }
def FnExactSpillAtWrongFalsely : Prop := fnExactSpillAtRow.holds Try.pinned (OpenSpec.ofChange fnExactSpillAtWrong)

/-- 'laws.FnExactWaterLevels': WHATEVER THE INPUT: true; the input reads as it did. -/
def fnExactWaterLevelsSpec : ChangeSpec := { name := "fnExactWaterLevels", fn := fun _ => fun
  | [d] => { results := [.lit (.bool true)], args := [d] }
  | _ => none }
def fnExactWaterLevelsRow : OpenClaim := { program := "ytajepoopicoodaa", sum := "c1d855012a740e5e99068ab8efb67cfdf75a95da35ddd14c9b39486acbcdbafd", func := "loop.example/g01165/laws.FnExactWaterLevels", spec := "fnExactWaterLevels", unfollowed := true, recurses := true, plainKeys := false, apart := false }
def FnExactWaterLevelsSaid : Prop := fnExactWaterLevelsRow.holds Try.pinned (OpenSpec.ofChange fnExactWaterLevelsSpec)

/-- ITS FALSE NEIGHBOUR: 'it returns false'. Refute it at one input. -/
def fnExactWaterLevelsWrong : ChangeSpec := { name := "fnExactWaterLevels", fn := fun _ => fun
  | [d] => { results := [.lit (.bool false)], args := [d] }
  | _ => none }
def FnExactWaterLevelsWrongFalsely : Prop := fnExactWaterLevelsRow.holds Try.pinned (OpenSpec.ofChange fnExactWaterLevelsWrong)

/-- 'laws.FnExactWaterOf': WHATEVER THE INPUT: true; the input reads as it did. -/
def fnExactWaterOfSpec : ChangeSpec := { name := "fnExactWaterOf", fn := fun _ => fun
  | [d] => { results := [.lit (.bool true)], args := [d] }
  | _ => none }
def fnExactWaterOfRow : OpenClaim := { program := "ytajepoopicoodaa", sum := "c1d855012a740e5e99068ab8efb67cfdf75a95da35ddd14c9b39486acbcdbafd", func := "loop.example/g01165/laws.FnExactWaterOf", spec := "fnExactWaterOf", unfollowed := true, recurses := true, plainKeys := false, apart := false }
def FnExactWaterOfSaid : Prop := fnExactWaterOfRow.holds Try.pinned (OpenSpec.ofChange fnExactWaterOfSpec)

/-- ITS FALSE NEIGHBOUR: 'it returns false'. Refute it at one input. -/
def fnExactWaterOfWrong : ChangeSpec := { name := "fnExactWaterOf", fn := fun _ => fun
  | [d] => { results := [.lit (.bool false)], args := [d] }
  | _ => none }
def FnExactWaterOfWrongFalsely : Prop := fnExactWaterOfRow.holds Try.pinned (OpenSpec.ofChange fnExactWaterOfWrong)

/-- 'laws.FnExactWayBetween': WHATEVER THE INPUT: true; the input reads as it did. -/
def fnExactWayBetweenSpec : ChangeSpec := { name := "fnExactWayBetween", fn := fun _ => fun
  | [d1, d2, d3] => { results := [.lit (.bool true)], args := [d1, d2, d3] }
  | _ => none }
def fnExactWayBetweenRow : OpenClaim := { program := "ytajepoopicoodaa", sum := "c1d855012a740e5e99068ab8efb67cfdf75a95da35ddd14c9b39486acbcdbafd", func := "loop.example/g01165/laws.FnExactWayBetween", spec := "fnExactWayBetween", unfollowed := true, recurses := true, plainKeys := false, apart := false }
def FnExactWayBetweenSaid : Prop := fnExactWayBetweenRow.holds Try.pinned (OpenSpec.ofChange fnExactWayBetweenSpec)

/-- ITS FALSE NEIGHBOUR: 'it returns false'. Refute it at one input. -/
def fnExactWayBetweenWrong : ChangeSpec := { name := "fnExactWayBetween", fn := fun _ => fun
  | [d1, d2, d3] => { results := [.lit (.bool false)], args := [d1, d2, d3] }
  | _ => none }
def FnExactWayBetweenWrongFalsely : Prop := fnExactWayBetweenRow.holds Try.pinned (OpenSpec.ofChange fnExactWayBetweenWrong)

/-- 'laws.FnExactCountBelow': WHATEVER THE INPUT: true; the input reads as it did. -/
def fnExactCountBelowSpec : ChangeSpec := { name := "fnExactCountBelow", fn := fun _ => fun
  | [d1, d2] => { results := [.lit (.bool true)], args := [d1, d2] }
  | _ => none }
def fnExactCountBelowRow : OpenClaim := { program := "ytajepoopicoodaa", sum := "c1d855012a740e5e99068ab8efb67cfdf75a95da35ddd14c9b39486acbcdbafd", func := "loop.example/g01165/laws.FnExactCountBelow", spec := "fnExactCountBelow", unfollowed := true, recurses := true, plainKeys := false, apart := false }
def FnExactCountBelowSaid : Prop := fnExactCountBelowRow.holds Try.pinned (OpenSpec.ofChange fnExactCountBelowSpec)

/-- ITS FALSE NEIGHBOUR: 'it returns false'. Refute it at one input. -/
def fnExactCountBelowWrong : ChangeSpec := { name := "fnExactCountBelow", fn := fun _ => fun
  | [d1, d2] => { results := [.lit (.bool false)], args := [d1, d2] }
  | _ => none }
def FnExactCountBelowWrongFalsely : Prop := fnExactCountBelowRow.holds Try.pinned (OpenSpec.ofChange fnExactCountBelowWrong)

/-- 'laws.FnExactLevelCounts': WHATEVER THE INPUT: true; the input reads as it did. -/
def fnExactLevelCountsSpec : ChangeSpec := { name := "fnExactLevelCounts", fn := fun _ => fun
  | [d] => { results := [.lit (.bool true)], args := [d] }
  | _ => none }
def fnExactLevelCountsRow : OpenClaim := { program := "ytajepoopicoodaa", sum := "c1d855012a740e5e99068ab8efb67cfdf75a95da35ddd14c9b39486acbcdbafd", func := "loop.example/g01165/laws.FnExactLevelCounts", spec := "fnExactLevelCounts", unfollowed := true, recurses := true, plainKeys := false, apart := false }
def FnExactLevelCountsSaid : Prop := fnExactLevelCountsRow.holds Try.pinned (OpenSpec.ofChange fnExactLevelCountsSpec)

/-- ITS FALSE NEIGHBOUR: 'it returns false'. Refute it at one input. -/
def fnExactLevelCountsWrong : ChangeSpec := { name := "fnExactLevelCounts", fn := fun _ => fun
  | [d] => { results := [.lit (.bool false)], args := [d] }
  | _ => none }
def FnExactLevelCountsWrongFalsely : Prop := fnExactLevelCountsRow.holds Try.pinned (OpenSpec.ofChange fnExactLevelCountsWrong)

/-- 'laws.FnPasses': WHATEVER THE INPUT: true; the input reads as it did. -/
def fnPassesSpec : ChangeSpec := { name := "fnPasses", fn := fun _ => fun
  | [d1, d2] => { results := [.lit (.bool true)], args := [d1, d2] }
  | _ => none }
def fnPassesRow : OpenClaim := { program := "ytajepoopicoodaa", sum := "c1d855012a740e5e99068ab8efb67cfdf75a95da35ddd14c9b39486acbcdbafd", func := "loop.example/g01165/laws.FnPasses", spec := "fnPasses", inPlace := ["internal/bytealg.IndexByteString"], unfollowed := true, recurses := true, plainKeys := false, apart := false }
def FnPassesSaid : Prop := fnPassesRow.holds Try.pinned (OpenSpec.ofChange fnPassesSpec)

/-- ITS FALSE NEIGHBOUR: 'it returns false'. Refute it at one input. -/
def fnPassesWrong : ChangeSpec := { name := "fnPasses", fn := fun _ => fun
  | [d1, d2] => { results := [.lit (.bool false)], args := [d1, d2] }
  | _ => none }
def FnPassesWrongFalsely : Prop := fnPassesRow.holds Try.pinned (OpenSpec.ofChange fnPassesWrong)

/-- 'laws.FnWater': WHATEVER THE INPUT: true; the input reads as it did. -/
def fnWaterSpec : ChangeSpec := { name := "fnWater", fn := fun _ => fun
  | [d1, d2] => { results := [.lit (.bool true)], args := [d1, d2] }
  | _ => none }
def fnWaterRow : OpenClaim := { program := "ytajepoopicoodaa", sum := "c1d855012a740e5e99068ab8efb67cfdf75a95da35ddd14c9b39486acbcdbafd", func := "loop.example/g01165/laws.FnWater", spec := "fnWater", inPlace := ["internal/bytealg.IndexByteString"], unfollowed := true, recurses := true, plainKeys := false, apart := false }
def FnWaterSaid : Prop := fnWaterRow.holds Try.pinned (OpenSpec.ofChange fnWaterSpec)

/-- ITS FALSE NEIGHBOUR: 'it returns false'. Refute it at one input. -/
def fnWaterWrong : ChangeSpec := { name := "fnWater", fn := fun _ => fun
  | [d1, d2] => { results := [.lit (.bool false)], args := [d1, d2] }
  | _ => none }
def FnWaterWrongFalsely : Prop := fnWaterRow.holds Try.pinned (OpenSpec.ofChange fnWaterWrong)

/-- 'laws.FnFloods': WHATEVER THE INPUT: true; the input reads as it did. -/
def fnFloodsSpec : ChangeSpec := { name := "fnFloods", fn := fun _ => fun
  | [d1, d2] => { results := [.lit (.bool true)], args := [d1, d2] }
  | _ => none }
def fnFloodsRow : OpenClaim := { program := "ytajepoopicoodaa", sum := "c1d855012a740e5e99068ab8efb67cfdf75a95da35ddd14c9b39486acbcdbafd", func := "loop.example/g01165/laws.FnFloods", spec := "fnFloods", unfollowed := true, recurses := true, plainKeys := false, apart := false }
def FnFloodsSaid : Prop := fnFloodsRow.holds Try.pinned (OpenSpec.ofChange fnFloodsSpec)

/-- ITS FALSE NEIGHBOUR: 'it returns false'. Refute it at one input. -/
def fnFloodsWrong : ChangeSpec := { name := "fnFloods", fn := fun _ => fun
  | [d1, d2] => { results := [.lit (.bool false)], args := [d1, d2] }
  | _ => none }
def FnFloodsWrongFalsely : Prop := fnFloodsRow.holds Try.pinned (OpenSpec.ofChange fnFloodsWrong)

/- THE SECOND FORM. 'bulk': how many values and letters a reading holds, each counted each time it is reached (what is shared counts as often as it is met; a slice's spare places count too). A statement '..UptoSaid' is the law's where the arguments, and the package variables that the reading takes, are together of bulk at most 1048576: NARROWER than '..Said'. Prove '..Said' where nothing that the law and all that it calls make is longer than what came in: it says more and counts as full. Else prove '..UptoSaid'. A law counts once. -/
mutual
def uptoBulk {H : Type} : DataW H → Nat
  | .lit (.string bytes) => bytes.length + 1
  | .lit _ => 1
  | .nil => 1
  | .ptr d => uptoBulk d + 1
  | .slice elems spare => uptoBulkAll elems + uptoBulkAll spare + 1
  | .agg parts => uptoBulkAll parts + 1
  | .iface _ d => uptoBulk d + 1
  | .map entries => uptoBulkEntries entries + 1
  | .held _ => 1
def uptoBulkAll {H : Type} : List (DataW H) → Nat
  | [] => 0
  | d :: r => uptoBulk d + uptoBulkAll r
def uptoBulkEntries {H : Type} : List (Lit × DataW H) → Nat
  | [] => 0
  | x :: r => uptoBulkEntry x + uptoBulkEntries r
def uptoBulkEntry {H : Type} : Lit × DataW H → Nat
  | (.string bytes, d) => bytes.length + uptoBulk d + 1
  | (_, d) => uptoBulk d + 1
 end
def uptoSmall : (H : Type) → List (DataW H) → Bool := fun _ ds => decide (uptoBulkAll ds ≤ 1048576)
def OpenSpec.upto (s : _root_.Go.ChangeSpec) : _root_.Go.OpenSpec := { _root_.Go.OpenSpec.ofChange s with cond := some uptoSmall }

/-- 'laws.FnExactEndOfWay', WHERE WHAT IT READS IS OF BULK AT MOST 1048576: true; the input reads as it did. -/
def fnExactEndOfWayUptoRow : OpenClaim := { program := "ytajepoopicoodaa", sum := "c1d855012a740e5e99068ab8efb67cfdf75a95da35ddd14c9b39486acbcdbafd", func := "loop.example/g01165/laws.FnExactEndOfWay", spec := "fnExactEndOfWay", inPlace := ["internal/bytealg.IndexByteString"], unfollowed := true, recurses := true, plainKeys := false, apart := false, narrowed := true }
def FnExactEndOfWayUptoSaid : Prop := fnExactEndOfWayUptoRow.holds Try.pinned (OpenSpec.upto fnExactEndOfWaySpec)

/-- 'laws.FnExactPassBetween', WHERE WHAT IT READS IS OF BULK AT MOST 1048576: true; the input reads as it did. -/
def fnExactPassBetweenUptoRow : OpenClaim := { program := "ytajepoopicoodaa", sum := "c1d855012a740e5e99068ab8efb67cfdf75a95da35ddd14c9b39486acbcdbafd", func := "loop.example/g01165/laws.FnExactPassBetween", spec := "fnExactPassBetween", unfollowed := true, recurses := true, plainKeys := false, apart := false, narrowed := true }
def FnExactPassBetweenUptoSaid : Prop := fnExactPassBetweenUptoRow.holds Try.pinned (OpenSpec.upto fnExactPassBetweenSpec)

/-- 'laws.FnExactDepthAt', WHERE WHAT IT READS IS OF BULK AT MOST 1048576: true; the input reads as it did. -/
def fnExactDepthAtUptoRow : OpenClaim := { program := "ytajepoopicoodaa", sum := "c1d855012a740e5e99068ab8efb67cfdf75a95da35ddd14c9b39486acbcdbafd", func := "loop.example/g01165/laws.FnExactDepthAt", spec := "fnExactDepthAt", unfollowed := true, recurses := true, plainKeys := false, apart := false, narrowed := true }
def FnExactDepthAtUptoSaid : Prop := fnExactDepthAtUptoRow.holds Try.pinned (OpenSpec.upto fnExactDepthAtSpec)

/-- 'laws.FnExactSpillAt', WHERE WHAT IT READS IS OF BULK AT MOST 1048576: true; the input reads as it did. -/
def fnExactSpillAtUptoRow : OpenClaim := { program := "ytajepoopicoodaa", sum := "c1d855012a740e5e99068ab8efb67cfdf75a95da35ddd14c9b39486acbcdbafd", func := "loop.example/g01165/laws.FnExactSpillAt", spec := "fnExactSpillAt", unfollowed := true, recurses := true, plainKeys := false, apart := false, narrowed := true }
def FnExactSpillAtUptoSaid : Prop := fnExactSpillAtUptoRow.holds Try.pinned (OpenSpec.upto fnExactSpillAtSpec)

/-- 'laws.FnExactWaterLevels', WHERE WHAT IT READS IS OF BULK AT MOST 1048576: true; the input reads as it did. -/
def fnExactWaterLevelsUptoRow : OpenClaim := { program := "ytajepoopicoodaa", sum := "c1d855012a740e5e99068ab8efb67cfdf75a95da35ddd14c9b39486acbcdbafd", func := "loop.example/g01165/laws.FnExactWaterLevels", spec := "fnExactWaterLevels", unfollowed := true, recurses := true, plainKeys := false, apart := false, narrowed := true }
def FnExactWaterLevelsUptoSaid : Prop := fnExactWaterLevelsUptoRow.holds Try.pinned (OpenSpec.upto fnExactWaterLevelsSpec)

/-- 'laws.FnExactWaterOf', WHERE WHAT IT READS IS OF BULK AT MOST 1048576: true; the input reads as it did. -/
def fnExactWaterOfUptoRow : OpenClaim := { program := "ytajepoopicoodaa", sum := "c1d855012a740e5e99068ab8efb67cfdf75a95da35ddd14c9b39486acbcdbafd", func := "loop.example/g01165/laws.FnExactWaterOf", spec := "fnExactWaterOf", unfollowed := true, recurses := true, plainKeys := false, apart := false, narrowed := true }
def FnExactWaterOfUptoSaid : Prop := fnExactWaterOfUptoRow.holds Try.pinned (OpenSpec.upto fnExactWaterOfSpec)

/-- 'laws.FnExactWayBetween', WHERE WHAT IT READS IS OF BULK AT MOST 1048576: true; the input reads as it did. -/
def fnExactWayBetweenUptoRow : OpenClaim := { program := "ytajepoopicoodaa", sum := "c1d855012a740e5e99068ab8efb67cfdf75a95da35ddd14c9b39486acbcdbafd", func := "loop.example/g01165/laws.FnExactWayBetween", spec := "fnExactWayBetween", unfollowed := true, recurses := true, plainKeys := false, apart := false, narrowed := true }
def FnExactWayBetweenUptoSaid : Prop := fnExactWayBetweenUptoRow.holds Try.pinned (OpenSpec.upto fnExactWayBetweenSpec)

/-- 'laws.FnExactCountBelow', WHERE WHAT IT READS IS OF BULK AT MOST 1048576: true; the input reads as it did. -/
def fnExactCountBelowUptoRow : OpenClaim := { program := "ytajepoopicoodaa", sum := "c1d855012a740e5e99068ab8efb67cfdf75a95da35ddd14c9b39486acbcdbafd", func := "loop.example/g01165/laws.FnExactCountBelow", spec := "fnExactCountBelow", unfollowed := true, recurses := true, plainKeys := false, apart := false, narrowed := true }
def FnExactCountBelowUptoSaid : Prop := fnExactCountBelowUptoRow.holds Try.pinned (OpenSpec.upto fnExactCountBelowSpec)

/-- 'laws.FnExactLevelCounts', WHERE WHAT IT READS IS OF BULK AT MOST 1048576: true; the input reads as it did. -/
def fnExactLevelCountsUptoRow : OpenClaim := { program := "ytajepoopicoodaa", sum := "c1d855012a740e5e99068ab8efb67cfdf75a95da35ddd14c9b39486acbcdbafd", func := "loop.example/g01165/laws.FnExactLevelCounts", spec := "fnExactLevelCounts", unfollowed := true, recurses := true, plainKeys := false, apart := false, narrowed := true }
def FnExactLevelCountsUptoSaid : Prop := fnExactLevelCountsUptoRow.holds Try.pinned (OpenSpec.upto fnExactLevelCountsSpec)

/-- 'laws.FnPasses', WHERE WHAT IT READS IS OF BULK AT MOST 1048576: true; the input reads as it did. -/
def fnPassesUptoRow : OpenClaim := { program := "ytajepoopicoodaa", sum := "c1d855012a740e5e99068ab8efb67cfdf75a95da35ddd14c9b39486acbcdbafd", func := "loop.example/g01165/laws.FnPasses", spec := "fnPasses", inPlace := ["internal/bytealg.IndexByteString"], unfollowed := true, recurses := true, plainKeys := false, apart := false, narrowed := true }
def FnPassesUptoSaid : Prop := fnPassesUptoRow.holds Try.pinned (OpenSpec.upto fnPassesSpec)

/-- 'laws.FnWater', WHERE WHAT IT READS IS OF BULK AT MOST 1048576: true; the input reads as it did. -/
def fnWaterUptoRow : OpenClaim := { program := "ytajepoopicoodaa", sum := "c1d855012a740e5e99068ab8efb67cfdf75a95da35ddd14c9b39486acbcdbafd", func := "loop.example/g01165/laws.FnWater", spec := "fnWater", inPlace := ["internal/bytealg.IndexByteString"], unfollowed := true, recurses := true, plainKeys := false, apart := false, narrowed := true }
def FnWaterUptoSaid : Prop := fnWaterUptoRow.holds Try.pinned (OpenSpec.upto fnWaterSpec)

/-- 'laws.FnFloods', WHERE WHAT IT READS IS OF BULK AT MOST 1048576: true; the input reads as it did. -/
def fnFloodsUptoRow : OpenClaim := { program := "ytajepoopicoodaa", sum := "c1d855012a740e5e99068ab8efb67cfdf75a95da35ddd14c9b39486acbcdbafd", func := "loop.example/g01165/laws.FnFloods", spec := "fnFloods", unfollowed := true, recurses := true, plainKeys := false, apart := false, narrowed := true }
def FnFloodsUptoSaid : Prop := fnFloodsUptoRow.holds Try.pinned (OpenSpec.upto fnFloodsSpec)

end Rows
end Go.Proofs.Ytajepoopicoodaa
