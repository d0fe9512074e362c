/-
  No cell of these rows narrows 'for every input' (looked for: loops, veiled, ifaces, maps, wideKeys, modest, calm, conditions, laid).
  DERIVED. THE GIVEN ROWS OF THIS SEAT. 6 by the template 'for every input the law returns true; each argument reads behind the call as it read before'; 0 by the template 'total and deterministic' (their statements: YtkamkjbllmgifaaTotals.lean).
  GIVEN WITH THE SEED: the statements are not yours to turn. If you find one false, say at which input.
  Laid BY PROGRAM, IN A SANDBOX (cutbox-rows.mjs): the forced cells as the released guide's own fill.sh prints them over the translation f2e073fa1be9b360… (all of the seat's roots in one cut). By AI agents, Wed Nov 11 2026. No macro, syntax, notation, axiom, sorry.
-/
import Derived.Test.YtkamkjbllmgifaaChecked
import GoSem.Claim
import GoSem.ClaimJoined
import GoSem.ClaimMapViews
import Derived.JoinedTies
import Derived.KernelRfl
namespace Go.Proofs.Ytkamkjbllmgifaa
/- THE CELL 'sum', in the pinned program and in every row, IS THE sha256 OF THE DUMP (.gsa) THAT YtkamkjbllmgifaaProg.lean LOADS. Nothing in Lean hashes anything: it is a label: what it is worth is what the hold of that sum in a sandbox is worth. -/
noncomputable def Try.pinned : Pinned := { name := "ytkamkjbllmgifaa", sum := "f2e073fa1be9b3607eff3946e239d7a4690cf923f6e14c7858d60bdfb5cb0ba4", checked := Try.checked }
namespace Rows
def none {H : Type} : Left H := { results := [], args := [] }

/-- 'laws.FnFilledValleys': WHATEVER THE INPUT: true; the input reads as it did. -/
def fnFilledValleysSpec : ChangeSpec := { name := "fnFilledValleys", fn := fun _ => fun
  | [d1, d2] => { results := [.lit (.bool true)], args := [d1, d2] }
  | _ => none }
def fnFilledValleysRow : OpenClaim := { program := "ytkamkjbllmgifaa", sum := "f2e073fa1be9b3607eff3946e239d7a4690cf923f6e14c7858d60bdfb5cb0ba4", func := "loop.example/g01165/laws.FnFilledValleys", spec := "fnFilledValleys", unfollowed := true, recurses := true, plainKeys := false, apart := false }
def FnFilledValleysSaid : Prop := fnFilledValleysRow.holds Try.pinned (OpenSpec.ofChange fnFilledValleysSpec)

/-- ITS FALSE NEIGHBOUR: 'it returns false'. Refute it at one input. -/
def fnFilledValleysWrong : ChangeSpec := { name := "fnFilledValleys", fn := fun _ => fun
  | [d1, d2] => { results := [.lit (.bool false)], args := [d1, d2] }
  | _ => none }
def FnFilledValleysWrongFalsely : Prop := fnFilledValleysRow.holds Try.pinned (OpenSpec.ofChange fnFilledValleysWrong)

/-- 'laws.FnFloods': WHATEVER THE INPUT: true; the input reads as it did. -/
def fnFloodsSpec : ChangeSpec := { name := "fnFloods", fn := fun _ => fun
  | [d1, d2] => { results := [.lit (.bool true)], args := [d1, d2] }
  | _ => none }
def fnFloodsRow : OpenClaim := { program := "ytkamkjbllmgifaa", sum := "f2e073fa1be9b3607eff3946e239d7a4690cf923f6e14c7858d60bdfb5cb0ba4", func := "loop.example/g01165/laws.FnFloods", spec := "fnFloods", unfollowed := true, recurses := true, plainKeys := false, apart := false }
def FnFloodsSaid : Prop := fnFloodsRow.holds Try.pinned (OpenSpec.ofChange fnFloodsSpec)

/-- ITS FALSE NEIGHBOUR: 'it returns false'. Refute it at one input. -/
def fnFloodsWrong : ChangeSpec := { name := "fnFloods", fn := fun _ => fun
  | [d1, d2] => { results := [.lit (.bool false)], args := [d1, d2] }
  | _ => none }
def FnFloodsWrongFalsely : Prop := fnFloodsRow.holds Try.pinned (OpenSpec.ofChange fnFloodsWrong)

/-- 'laws.FnValleys': WHATEVER THE INPUT: true; the input reads as it did. -/
def fnValleysSpec : ChangeSpec := { name := "fnValleys", fn := fun _ => fun
  | [d1, d2] => { results := [.lit (.bool true)], args := [d1, d2] }
  | _ => none }
def fnValleysRow : OpenClaim := { program := "ytkamkjbllmgifaa", sum := "f2e073fa1be9b3607eff3946e239d7a4690cf923f6e14c7858d60bdfb5cb0ba4", func := "loop.example/g01165/laws.FnValleys", spec := "fnValleys", unfollowed := true, recurses := true, plainKeys := false, apart := false }
def FnValleysSaid : Prop := fnValleysRow.holds Try.pinned (OpenSpec.ofChange fnValleysSpec)

/-- ITS FALSE NEIGHBOUR: 'it returns false'. Refute it at one input. -/
def fnValleysWrong : ChangeSpec := { name := "fnValleys", fn := fun _ => fun
  | [d1, d2] => { results := [.lit (.bool false)], args := [d1, d2] }
  | _ => none }
def FnValleysWrongFalsely : Prop := fnValleysRow.holds Try.pinned (OpenSpec.ofChange fnValleysWrong)

/-- 'laws.FnExactValleysOf': WHATEVER THE INPUT: true; the input reads as it did. -/
def fnExactValleysOfSpec : ChangeSpec := { name := "fnExactValleysOf", fn := fun _ => fun
  | [d] => { results := [.lit (.bool true)], args := [d] }
  | _ => none }
def fnExactValleysOfRow : OpenClaim := { program := "ytkamkjbllmgifaa", sum := "f2e073fa1be9b3607eff3946e239d7a4690cf923f6e14c7858d60bdfb5cb0ba4", func := "loop.example/g01165/laws.FnExactValleysOf", spec := "fnExactValleysOf", unfollowed := true, recurses := true, plainKeys := false, apart := false }
def FnExactValleysOfSaid : Prop := fnExactValleysOfRow.holds Try.pinned (OpenSpec.ofChange fnExactValleysOfSpec)

/-- ITS FALSE NEIGHBOUR: 'it returns false'. Refute it at one input. -/
def fnExactValleysOfWrong : ChangeSpec := { name := "fnExactValleysOf", fn := fun _ => fun
  | [d] => { results := [.lit (.bool false)], args := [d] }
  | _ => none }
def FnExactValleysOfWrongFalsely : Prop := fnExactValleysOfRow.holds Try.pinned (OpenSpec.ofChange fnExactValleysOfWrong)

/-- 'laws.FnExactSameValleys': WHATEVER THE INPUT: true; the input reads as it did. -/
def fnExactSameValleysSpec : ChangeSpec := { name := "fnExactSameValleys", fn := fun _ => fun
  | [d1, d2] => { results := [.lit (.bool true)], args := [d1, d2] }
  | _ => none }
def fnExactSameValleysRow : OpenClaim := { program := "ytkamkjbllmgifaa", sum := "f2e073fa1be9b3607eff3946e239d7a4690cf923f6e14c7858d60bdfb5cb0ba4", func := "loop.example/g01165/laws.FnExactSameValleys", spec := "fnExactSameValleys", unfollowed := true, recurses := true, plainKeys := false, apart := false }
def FnExactSameValleysSaid : Prop := fnExactSameValleysRow.holds Try.pinned (OpenSpec.ofChange fnExactSameValleysSpec)

/-- ITS FALSE NEIGHBOUR: 'it returns false'. Refute it at one input. -/
def fnExactSameValleysWrong : ChangeSpec := { name := "fnExactSameValleys", fn := fun _ => fun
  | [d1, d2] => { results := [.lit (.bool false)], args := [d1, d2] }
  | _ => none }
def FnExactSameValleysWrongFalsely : Prop := fnExactSameValleysRow.holds Try.pinned (OpenSpec.ofChange fnExactSameValleysWrong)

/-- 'laws.FnExactFillValleys': WHATEVER THE INPUT: true; the input reads as it did. -/
def fnExactFillValleysSpec : ChangeSpec := { name := "fnExactFillValleys", fn := fun _ => fun
  | [d1, d2] => { results := [.lit (.bool true)], args := [d1, d2] }
  | _ => none }
def fnExactFillValleysRow : OpenClaim := { program := "ytkamkjbllmgifaa", sum := "f2e073fa1be9b3607eff3946e239d7a4690cf923f6e14c7858d60bdfb5cb0ba4", func := "loop.example/g01165/laws.FnExactFillValleys", spec := "fnExactFillValleys", unfollowed := true, recurses := true, plainKeys := false, apart := false }
def FnExactFillValleysSaid : Prop := fnExactFillValleysRow.holds Try.pinned (OpenSpec.ofChange fnExactFillValleysSpec)

/-- ITS FALSE NEIGHBOUR: 'it returns false'. Refute it at one input. -/
def fnExactFillValleysWrong : ChangeSpec := { name := "fnExactFillValleys", fn := fun _ => fun
  | [d1, d2] => { results := [.lit (.bool false)], args := [d1, d2] }
  | _ => none }
def FnExactFillValleysWrongFalsely : Prop := fnExactFillValleysRow.holds Try.pinned (OpenSpec.ofChange fnExactFillValleysWrong)

/- THE SECOND FORM. 'bulk': how many values and letters a reading holds, each counted each time it is reached (what is shared counts as often as it is met; a slice's spare places count too). A statement '..UptoSaid' is the law's where the arguments, and the package variables that the reading takes, are together of bulk at most 1048576: NARROWER than '..Said'. Prove '..Said' where nothing that the law and all that it calls make is longer than what came in: it says more and counts as full. Else prove '..UptoSaid'. A law counts once. -/
mutual
def uptoBulk {H : Type} : DataW H → Nat
  | .lit (.string bytes) => bytes.length + 1
  | .lit _ => 1
  | .nil => 1
  | .ptr d => uptoBulk d + 1
  | .slice elems spare => uptoBulkAll elems + uptoBulkAll spare + 1
  | .agg parts => uptoBulkAll parts + 1
  | .iface _ d => uptoBulk d + 1
  | .map entries => uptoBulkEntries entries + 1
  | .held _ => 1
def uptoBulkAll {H : Type} : List (DataW H) → Nat
  | [] => 0
  | d :: r => uptoBulk d + uptoBulkAll r
def uptoBulkEntries {H : Type} : List (Lit × DataW H) → Nat
  | [] => 0
  | x :: r => uptoBulkEntry x + uptoBulkEntries r
def uptoBulkEntry {H : Type} : Lit × DataW H → Nat
  | (.string bytes, d) => bytes.length + uptoBulk d + 1
  | (_, d) => uptoBulk d + 1
 end
def uptoSmall : (H : Type) → List (DataW H) → Bool := fun _ ds => decide (uptoBulkAll ds ≤ 1048576)
def OpenSpec.upto (s : _root_.Go.ChangeSpec) : _root_.Go.OpenSpec := { _root_.Go.OpenSpec.ofChange s with cond := some uptoSmall }

/-- 'laws.FnFilledValleys', WHERE WHAT IT READS IS OF BULK AT MOST 1048576: true; the input reads as it did. -/
def fnFilledValleysUptoRow : OpenClaim := { program := "ytkamkjbllmgifaa", sum := "f2e073fa1be9b3607eff3946e239d7a4690cf923f6e14c7858d60bdfb5cb0ba4", func := "loop.example/g01165/laws.FnFilledValleys", spec := "fnFilledValleys", unfollowed := true, recurses := true, plainKeys := false, apart := false, narrowed := true }
def FnFilledValleysUptoSaid : Prop := fnFilledValleysUptoRow.holds Try.pinned (OpenSpec.upto fnFilledValleysSpec)

/-- 'laws.FnFloods', WHERE WHAT IT READS IS OF BULK AT MOST 1048576: true; the input reads as it did. -/
def fnFloodsUptoRow : OpenClaim := { program := "ytkamkjbllmgifaa", sum := "f2e073fa1be9b3607eff3946e239d7a4690cf923f6e14c7858d60bdfb5cb0ba4", func := "loop.example/g01165/laws.FnFloods", spec := "fnFloods", unfollowed := true, recurses := true, plainKeys := false, apart := false, narrowed := true }
def FnFloodsUptoSaid : Prop := fnFloodsUptoRow.holds Try.pinned (OpenSpec.upto fnFloodsSpec)

/-- 'laws.FnValleys', WHERE WHAT IT READS IS OF BULK AT MOST 1048576: true; the input reads as it did. -/
def fnValleysUptoRow : OpenClaim := { program := "ytkamkjbllmgifaa", sum := "f2e073fa1be9b3607eff3946e239d7a4690cf923f6e14c7858d60bdfb5cb0ba4", func := "loop.example/g01165/laws.FnValleys", spec := "fnValleys", unfollowed := true, recurses := true, plainKeys := false, apart := false, narrowed := true }
def FnValleysUptoSaid : Prop := fnValleysUptoRow.holds Try.pinned (OpenSpec.upto fnValleysSpec)

/-- 'laws.FnExactValleysOf', WHERE WHAT IT READS IS OF BULK AT MOST 1048576: true; the input reads as it did. -/
def fnExactValleysOfUptoRow : OpenClaim := { program := "ytkamkjbllmgifaa", sum := "f2e073fa1be9b3607eff3946e239d7a4690cf923f6e14c7858d60bdfb5cb0ba4", func := "loop.example/g01165/laws.FnExactValleysOf", spec := "fnExactValleysOf", unfollowed := true, recurses := true, plainKeys := false, apart := false, narrowed := true }
def FnExactValleysOfUptoSaid : Prop := fnExactValleysOfUptoRow.holds Try.pinned (OpenSpec.upto fnExactValleysOfSpec)

/-- 'laws.FnExactSameValleys', WHERE WHAT IT READS IS OF BULK AT MOST 1048576: true; the input reads as it did. -/
def fnExactSameValleysUptoRow : OpenClaim := { program := "ytkamkjbllmgifaa", sum := "f2e073fa1be9b3607eff3946e239d7a4690cf923f6e14c7858d60bdfb5cb0ba4", func := "loop.example/g01165/laws.FnExactSameValleys", spec := "fnExactSameValleys", unfollowed := true, recurses := true, plainKeys := false, apart := false, narrowed := true }
def FnExactSameValleysUptoSaid : Prop := fnExactSameValleysUptoRow.holds Try.pinned (OpenSpec.upto fnExactSameValleysSpec)

/-- 'laws.FnExactFillValleys', WHERE WHAT IT READS IS OF BULK AT MOST 1048576: true; the input reads as it did. -/
def fnExactFillValleysUptoRow : OpenClaim := { program := "ytkamkjbllmgifaa", sum := "f2e073fa1be9b3607eff3946e239d7a4690cf923f6e14c7858d60bdfb5cb0ba4", func := "loop.example/g01165/laws.FnExactFillValleys", spec := "fnExactFillValleys", unfollowed := true, recurses := true, plainKeys := false, apart := false, narrowed := true }
def FnExactFillValleysUptoSaid : Prop := fnExactFillValleysUptoRow.holds Try.pinned (OpenSpec.upto fnExactFillValleysSpec)

end Rows
end Go.Proofs.Ytkamkjbllmgifaa
