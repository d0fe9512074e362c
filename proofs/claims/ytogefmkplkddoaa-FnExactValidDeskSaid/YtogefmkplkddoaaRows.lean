/-
  No cell of these rows narrows 'for every input' (looked for: loops, veiled, ifaces, maps, wideKeys, modest, calm, conditions, laid).
  DERIVED. THE GIVEN ROWS OF THIS SEAT. 5 by the template 'for every input the law returns true; each argument reads behind the call as it read before'; 0 by the template 'total and deterministic' (their statements: YtogefmkplkddoaaTotals.lean).
  GIVEN WITH THE SEED: the statements are not yours to turn. If you find one false, say at which input.
  Laid BY PROGRAM, IN A SANDBOX (cutbox-rows.mjs): the forced cells as the released guide's own fill.sh prints them over the translation e79b84b0d958c58d… (all of the seat's roots in one cut). By AI agents, Wed Nov 11 2026. No macro, syntax, notation, axiom, sorry.
-/
import Derived.Test.YtogefmkplkddoaaChecked
import GoSem.Claim
import GoSem.ClaimJoined
import GoSem.ClaimMapViews
import Derived.JoinedTies
import Derived.KernelRfl
namespace Go.Proofs.Ytogefmkplkddoaa
/- THE CELL 'sum', in the pinned program and in every row, IS THE sha256 OF THE DUMP (.gsa) THAT YtogefmkplkddoaaProg.lean LOADS. Nothing in Lean hashes anything: it is a label: what it is worth is what the hold of that sum in a sandbox is worth. -/
noncomputable def Try.pinned : Pinned := { name := "ytogefmkplkddoaa", sum := "e79b84b0d958c58da31d6113ed65bbb08ef6ac630f402f14e67e4d1716659299", checked := Try.checked }
namespace Rows
def none {H : Type} : Left H := { results := [], args := [] }

/-- 'laws.FnExactCodeOfNumber': WHATEVER THE INPUT: true; the input reads as it did. -/
def fnExactCodeOfNumberSpec : ChangeSpec := { name := "fnExactCodeOfNumber", fn := fun _ => fun
  | [d] => { results := [.lit (.bool true)], args := [d] }
  | _ => none }
def fnExactCodeOfNumberRow : OpenClaim := { program := "ytogefmkplkddoaa", sum := "e79b84b0d958c58da31d6113ed65bbb08ef6ac630f402f14e67e4d1716659299", func := "loop.example/g01165/laws.FnExactCodeOfNumber", spec := "fnExactCodeOfNumber", inPlace := ["internal/abi.NoEscape", "internal/bytealg.MakeNoZero"], apart := false }
def FnExactCodeOfNumberSaid : Prop := fnExactCodeOfNumberRow.holds Try.pinned (OpenSpec.ofChange fnExactCodeOfNumberSpec)

/-- ITS FALSE NEIGHBOUR: 'it returns false'. Refute it at one input. -/
def fnExactCodeOfNumberWrong : ChangeSpec := { name := "fnExactCodeOfNumber", fn := fun _ => fun
  | [d] => { results := [.lit (.bool false)], args := [d] }
  | _ => none }
def FnExactCodeOfNumberWrongFalsely : Prop := fnExactCodeOfNumberRow.holds Try.pinned (OpenSpec.ofChange fnExactCodeOfNumberWrong)

/-- 'laws.FnExactPackTree': WHATEVER THE INPUT: true; the input reads as it did. -/
def fnExactPackTreeSpec : ChangeSpec := { name := "fnExactPackTree", fn := fun _ => fun
  | [d] => { results := [.lit (.bool true)], args := [d] }
  | _ => none }
def fnExactPackTreeRow : OpenClaim := { program := "ytogefmkplkddoaa", sum := "e79b84b0d958c58da31d6113ed65bbb08ef6ac630f402f14e67e4d1716659299", func := "loop.example/g01165/laws.FnExactPackTree", spec := "fnExactPackTree", recurses := true, apart := false }
def FnExactPackTreeSaid : Prop := fnExactPackTreeRow.holds Try.pinned (OpenSpec.ofChange fnExactPackTreeSpec)

/-- ITS FALSE NEIGHBOUR: 'it returns false'. Refute it at one input. -/
def fnExactPackTreeWrong : ChangeSpec := { name := "fnExactPackTree", fn := fun _ => fun
  | [d] => { results := [.lit (.bool false)], args := [d] }
  | _ => none }
def FnExactPackTreeWrongFalsely : Prop := fnExactPackTreeRow.holds Try.pinned (OpenSpec.ofChange fnExactPackTreeWrong)

/-- 'laws.FnExactUnpackTree': WHATEVER THE INPUT: true; the input reads as it did. -/
def fnExactUnpackTreeSpec : ChangeSpec := { name := "fnExactUnpackTree", fn := fun _ => fun
  | [d1, d2] => { results := [.lit (.bool true)], args := [d1, d2] }
  | _ => none }
def fnExactUnpackTreeRow : OpenClaim := { program := "ytogefmkplkddoaa", sum := "e79b84b0d958c58da31d6113ed65bbb08ef6ac630f402f14e67e4d1716659299", func := "loop.example/g01165/laws.FnExactUnpackTree", spec := "fnExactUnpackTree", recurses := true, apart := false }
def FnExactUnpackTreeSaid : Prop := fnExactUnpackTreeRow.holds Try.pinned (OpenSpec.ofChange fnExactUnpackTreeSpec)

/-- ITS FALSE NEIGHBOUR: 'it returns false'. Refute it at one input. -/
def fnExactUnpackTreeWrong : ChangeSpec := { name := "fnExactUnpackTree", fn := fun _ => fun
  | [d1, d2] => { results := [.lit (.bool false)], args := [d1, d2] }
  | _ => none }
def FnExactUnpackTreeWrongFalsely : Prop := fnExactUnpackTreeRow.holds Try.pinned (OpenSpec.ofChange fnExactUnpackTreeWrong)

/-- 'laws.FnExactPackPicture': WHATEVER THE INPUT: true; the input reads as it did. -/
def fnExactPackPictureSpec : ChangeSpec := { name := "fnExactPackPicture", fn := fun _ => fun
  | [d] => { results := [.lit (.bool true)], args := [d] }
  | _ => none }
def fnExactPackPictureRow : OpenClaim := { program := "ytogefmkplkddoaa", sum := "e79b84b0d958c58da31d6113ed65bbb08ef6ac630f402f14e67e4d1716659299", func := "loop.example/g01165/laws.FnExactPackPicture", spec := "fnExactPackPicture", inPlace := ["internal/abi.NoEscape", "internal/bytealg.MakeNoZero"], unfollowed := true, recurses := true, apart := false }
def FnExactPackPictureSaid : Prop := fnExactPackPictureRow.holds Try.pinned (OpenSpec.ofChange fnExactPackPictureSpec)

/-- ITS FALSE NEIGHBOUR: 'it returns false'. Refute it at one input. -/
def fnExactPackPictureWrong : ChangeSpec := { name := "fnExactPackPicture", fn := fun _ => fun
  | [d] => { results := [.lit (.bool false)], args := [d] }
  | _ => none }
def FnExactPackPictureWrongFalsely : Prop := fnExactPackPictureRow.holds Try.pinned (OpenSpec.ofChange fnExactPackPictureWrong)

/-- 'laws.FnExactValidDesk': WHATEVER THE INPUT: true; the input reads as it did. -/
def fnExactValidDeskSpec : ChangeSpec := { name := "fnExactValidDesk", fn := fun _ => fun
  | [d] => { results := [.lit (.bool true)], args := [d] }
  | _ => none }
def fnExactValidDeskRow : OpenClaim := { program := "ytogefmkplkddoaa", sum := "e79b84b0d958c58da31d6113ed65bbb08ef6ac630f402f14e67e4d1716659299", func := "loop.example/g01165/laws.FnExactValidDesk", spec := "fnExactValidDesk", apart := false }
def FnExactValidDeskSaid : Prop := fnExactValidDeskRow.holds Try.pinned (OpenSpec.ofChange fnExactValidDeskSpec)

/-- ITS FALSE NEIGHBOUR: 'it returns false'. Refute it at one input. -/
def fnExactValidDeskWrong : ChangeSpec := { name := "fnExactValidDesk", fn := fun _ => fun
  | [d] => { results := [.lit (.bool false)], args := [d] }
  | _ => none }
def FnExactValidDeskWrongFalsely : Prop := fnExactValidDeskRow.holds Try.pinned (OpenSpec.ofChange fnExactValidDeskWrong)

/- THE SECOND FORM. 'bulk': how many values and letters a reading holds, each counted each time it is reached (what is shared counts as often as it is met; a slice's spare places count too). A statement '..UptoSaid' is the law's where the arguments, and the package variables that the reading takes, are together of bulk at most 1048576: NARROWER than '..Said'. Prove '..Said' where nothing that the law and all that it calls make is longer than what came in: it says more and counts as full. Else prove '..UptoSaid'. A law counts once. -/
mutual
def uptoBulk {H : Type} : DataW H → Nat
  | .lit (.string bytes) => bytes.length + 1
  | .lit _ => 1
  | .nil => 1
  | .ptr d => uptoBulk d + 1
  | .slice elems spare => uptoBulkAll elems + uptoBulkAll spare + 1
  | .agg parts => uptoBulkAll parts + 1
  | .iface _ d => uptoBulk d + 1
  | .map entries => uptoBulkEntries entries + 1
  | .held _ => 1
def uptoBulkAll {H : Type} : List (DataW H) → Nat
  | [] => 0
  | d :: r => uptoBulk d + uptoBulkAll r
def uptoBulkEntries {H : Type} : List (Lit × DataW H) → Nat
  | [] => 0
  | x :: r => uptoBulkEntry x + uptoBulkEntries r
def uptoBulkEntry {H : Type} : Lit × DataW H → Nat
  | (.string bytes, d) => bytes.length + uptoBulk d + 1
  | (_, d) => uptoBulk d + 1
 end
def uptoSmall : (H : Type) → List (DataW H) → Bool := fun _ ds => decide (uptoBulkAll ds ≤ 1048576)
def OpenSpec.upto (s : _root_.Go.ChangeSpec) : _root_.Go.OpenSpec := { _root_.Go.OpenSpec.ofChange s with cond := some uptoSmall }

/-- 'laws.FnExactCodeOfNumber', WHERE WHAT IT READS IS OF BULK AT MOST 1048576: true; the input reads as it did. -/
def fnExactCodeOfNumberUptoRow : OpenClaim := { program := "ytogefmkplkddoaa", sum := "e79b84b0d958c58da31d6113ed65bbb08ef6ac630f402f14e67e4d1716659299", func := "loop.example/g01165/laws.FnExactCodeOfNumber", spec := "fnExactCodeOfNumber", inPlace := ["internal/abi.NoEscape", "internal/bytealg.MakeNoZero"], apart := false, narrowed := true }
def FnExactCodeOfNumberUptoSaid : Prop := fnExactCodeOfNumberUptoRow.holds Try.pinned (OpenSpec.upto fnExactCodeOfNumberSpec)

/-- 'laws.FnExactPackTree', WHERE WHAT IT READS IS OF BULK AT MOST 1048576: true; the input reads as it did. -/
def fnExactPackTreeUptoRow : OpenClaim := { program := "ytogefmkplkddoaa", sum := "e79b84b0d958c58da31d6113ed65bbb08ef6ac630f402f14e67e4d1716659299", func := "loop.example/g01165/laws.FnExactPackTree", spec := "fnExactPackTree", recurses := true, apart := false, narrowed := true }
def FnExactPackTreeUptoSaid : Prop := fnExactPackTreeUptoRow.holds Try.pinned (OpenSpec.upto fnExactPackTreeSpec)

/-- 'laws.FnExactUnpackTree', WHERE WHAT IT READS IS OF BULK AT MOST 1048576: true; the input reads as it did. -/
def fnExactUnpackTreeUptoRow : OpenClaim := { program := "ytogefmkplkddoaa", sum := "e79b84b0d958c58da31d6113ed65bbb08ef6ac630f402f14e67e4d1716659299", func := "loop.example/g01165/laws.FnExactUnpackTree", spec := "fnExactUnpackTree", recurses := true, apart := false, narrowed := true }
def FnExactUnpackTreeUptoSaid : Prop := fnExactUnpackTreeUptoRow.holds Try.pinned (OpenSpec.upto fnExactUnpackTreeSpec)

/-- 'laws.FnExactPackPicture', WHERE WHAT IT READS IS OF BULK AT MOST 1048576: true; the input reads as it did. -/
def fnExactPackPictureUptoRow : OpenClaim := { program := "ytogefmkplkddoaa", sum := "e79b84b0d958c58da31d6113ed65bbb08ef6ac630f402f14e67e4d1716659299", func := "loop.example/g01165/laws.FnExactPackPicture", spec := "fnExactPackPicture", inPlace := ["internal/abi.NoEscape", "internal/bytealg.MakeNoZero"], unfollowed := true, recurses := true, apart := false, narrowed := true }
def FnExactPackPictureUptoSaid : Prop := fnExactPackPictureUptoRow.holds Try.pinned (OpenSpec.upto fnExactPackPictureSpec)

/-- 'laws.FnExactValidDesk', WHERE WHAT IT READS IS OF BULK AT MOST 1048576: true; the input reads as it did. -/
def fnExactValidDeskUptoRow : OpenClaim := { program := "ytogefmkplkddoaa", sum := "e79b84b0d958c58da31d6113ed65bbb08ef6ac630f402f14e67e4d1716659299", func := "loop.example/g01165/laws.FnExactValidDesk", spec := "fnExactValidDesk", apart := false, narrowed := true }
def FnExactValidDeskUptoSaid : Prop := fnExactValidDeskUptoRow.holds Try.pinned (OpenSpec.upto fnExactValidDeskSpec)

end Rows
end Go.Proofs.Ytogefmkplkddoaa
