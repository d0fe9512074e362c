/-
  No cell of these rows narrows 'for every input' (looked for: loops, veiled, ifaces, maps, wideKeys, modest, calm, conditions, laid).
  DERIVED. THE GIVEN ROWS OF THIS SEAT. 12 by the template 'for every input the law returns true; each argument reads behind the call as it read before'; 0 by the template 'total and deterministic' (their statements: YtdbelajgndclfaaTotals.lean).
  GIVEN WITH THE SEED: the statements are not yours to turn. If you find one false, say at which input.
  Laid BY PROGRAM, IN A SANDBOX (cutbox-rows.mjs): the forced cells as the released guide's own fill.sh prints them over the translation 8f53380134ef9603… (all of the seat's roots in one cut). By AI agents, Wed Nov 11 2026. No macro, syntax, notation, axiom, sorry.
-/
import Derived.Test.YtdbelajgndclfaaChecked
import GoSem.Claim
import GoSem.ClaimJoined
import GoSem.ClaimMapViews
import Derived.JoinedTies
import Derived.KernelRfl
namespace Go.Proofs.Ytdbelajgndclfaa
/- THE CELL 'sum', in the pinned program and in every row, IS THE sha256 OF THE DUMP (.gsa) THAT YtdbelajgndclfaaProg.lean LOADS. Nothing in Lean hashes anything: it is a label: what it is worth is what the hold of that sum in a sandbox is worth. -/
noncomputable def Try.pinned : Pinned := { name := "ytdbelajgndclfaa", sum := "8f53380134ef9603e0b8eb8fbb449b00effcee27a26d504310fdeb4d9fb800ef", checked := Try.checked }
namespace Rows
def none {H : Type} : Left H := { results := [], args := [] }

/-- 'laws.FnResidues': WHATEVER THE INPUT: true; the input reads as it did. -/
def fnResiduesSpec : ChangeSpec := { name := "fnResidues", fn := fun _ => fun
  | [d1, d2] => { results := [.lit (.bool true)], args := [d1, d2] }
  | _ => none }
def fnResiduesRow : OpenClaim := { program := "ytdbelajgndclfaa", sum := "8f53380134ef9603e0b8eb8fbb449b00effcee27a26d504310fdeb4d9fb800ef", func := "loop.example/g01165/laws.FnResidues", spec := "fnResidues", unfollowed := true, recurses := true, apart := false }
def FnResiduesSaid : Prop := fnResiduesRow.holds Try.pinned (OpenSpec.ofChange fnResiduesSpec)

/-- ITS FALSE NEIGHBOUR: 'it returns false'. Refute it at one input. -/
def fnResiduesWrong : ChangeSpec := { name := "fnResidues", fn := fun _ => fun
  | [d1, d2] => { results := [.lit (.bool false)], args := [d1, d2] }
  | _ => none }
def FnResiduesWrongFalsely : Prop := fnResiduesRow.holds Try.pinned (OpenSpec.ofChange fnResiduesWrong)

/-- 'laws.FnExactFromResidue': WHATEVER THE INPUT: true; the input reads as it did. -/
def fnExactFromResidueSpec : ChangeSpec := { name := "fnExactFromResidue", fn := fun _ => fun
  | [d] => { results := [.lit (.bool true)], args := [d] }
  | _ => none }
def fnExactFromResidueRow : OpenClaim := { program := "ytdbelajgndclfaa", sum := "8f53380134ef9603e0b8eb8fbb449b00effcee27a26d504310fdeb4d9fb800ef", func := "loop.example/g01165/laws.FnExactFromResidue", spec := "fnExactFromResidue", unfollowed := true, recurses := true, apart := false }
def FnExactFromResidueSaid : Prop := fnExactFromResidueRow.holds Try.pinned (OpenSpec.ofChange fnExactFromResidueSpec)

/-- ITS FALSE NEIGHBOUR: 'it returns false'. Refute it at one input. -/
def fnExactFromResidueWrong : ChangeSpec := { name := "fnExactFromResidue", fn := fun _ => fun
  | [d] => { results := [.lit (.bool false)], args := [d] }
  | _ => none }
def FnExactFromResidueWrongFalsely : Prop := fnExactFromResidueRow.holds Try.pinned (OpenSpec.ofChange fnExactFromResidueWrong)

/-- 'laws.FnExactResidueOf': WHATEVER THE INPUT: true; the input reads as it did. -/
def fnExactResidueOfSpec : ChangeSpec := { name := "fnExactResidueOf", fn := fun _ => fun
  | [d] => { results := [.lit (.bool true)], args := [d] }
  | _ => none }
def fnExactResidueOfRow : OpenClaim := { program := "ytdbelajgndclfaa", sum := "8f53380134ef9603e0b8eb8fbb449b00effcee27a26d504310fdeb4d9fb800ef", func := "loop.example/g01165/laws.FnExactResidueOf", spec := "fnExactResidueOf", unfollowed := true, recurses := true, apart := false }
def FnExactResidueOfSaid : Prop := fnExactResidueOfRow.holds Try.pinned (OpenSpec.ofChange fnExactResidueOfSpec)

/-- ITS FALSE NEIGHBOUR: 'it returns false'. Refute it at one input. -/
def fnExactResidueOfWrong : ChangeSpec := { name := "fnExactResidueOf", fn := fun _ => fun
  | [d] => { results := [.lit (.bool false)], args := [d] }
  | _ => none }
def FnExactResidueOfWrongFalsely : Prop := fnExactResidueOfRow.holds Try.pinned (OpenSpec.ofChange fnExactResidueOfWrong)

/-- 'laws.FnExactGreyOfPicture': WHATEVER THE INPUT: true; the input reads as it did. -/
def fnExactGreyOfPictureSpec : ChangeSpec := { name := "fnExactGreyOfPicture", fn := fun _ => fun
  | [d] => { results := [.lit (.bool true)], args := [d] }
  | _ => none }
def fnExactGreyOfPictureRow : OpenClaim := { program := "ytdbelajgndclfaa", sum := "8f53380134ef9603e0b8eb8fbb449b00effcee27a26d504310fdeb4d9fb800ef", func := "loop.example/g01165/laws.FnExactGreyOfPicture", spec := "fnExactGreyOfPicture", unfollowed := true, recurses := true, apart := false }
def FnExactGreyOfPictureSaid : Prop := fnExactGreyOfPictureRow.holds Try.pinned (OpenSpec.ofChange fnExactGreyOfPictureSpec)

/-- ITS FALSE NEIGHBOUR: 'it returns false'. Refute it at one input. -/
def fnExactGreyOfPictureWrong : ChangeSpec := { name := "fnExactGreyOfPicture", fn := fun _ => fun
  | [d] => { results := [.lit (.bool false)], args := [d] }
  | _ => none }
def FnExactGreyOfPictureWrongFalsely : Prop := fnExactGreyOfPictureRow.holds Try.pinned (OpenSpec.ofChange fnExactGreyOfPictureWrong)

/-- 'laws.FnExactOrderedGrey': WHATEVER THE INPUT: true; the input reads as it did. -/
def fnExactOrderedGreySpec : ChangeSpec := { name := "fnExactOrderedGrey", fn := fun _ => fun
  | [d] => { results := [.lit (.bool true)], args := [d] }
  | _ => none }
def fnExactOrderedGreyRow : OpenClaim := { program := "ytdbelajgndclfaa", sum := "8f53380134ef9603e0b8eb8fbb449b00effcee27a26d504310fdeb4d9fb800ef", func := "loop.example/g01165/laws.FnExactOrderedGrey", spec := "fnExactOrderedGrey", unfollowed := true, recurses := true, apart := false }
def FnExactOrderedGreySaid : Prop := fnExactOrderedGreyRow.holds Try.pinned (OpenSpec.ofChange fnExactOrderedGreySpec)

/-- ITS FALSE NEIGHBOUR: 'it returns false'. Refute it at one input. -/
def fnExactOrderedGreyWrong : ChangeSpec := { name := "fnExactOrderedGrey", fn := fun _ => fun
  | [d] => { results := [.lit (.bool false)], args := [d] }
  | _ => none }
def FnExactOrderedGreyWrongFalsely : Prop := fnExactOrderedGreyRow.holds Try.pinned (OpenSpec.ofChange fnExactOrderedGreyWrong)

/-- 'laws.FnExactMeanError': WHATEVER THE INPUT: true; the input reads as it did. -/
def fnExactMeanErrorSpec : ChangeSpec := { name := "fnExactMeanError", fn := fun _ => fun
  | [d1, d2] => { results := [.lit (.bool true)], args := [d1, d2] }
  | _ => none }
def fnExactMeanErrorRow : OpenClaim := { program := "ytdbelajgndclfaa", sum := "8f53380134ef9603e0b8eb8fbb449b00effcee27a26d504310fdeb4d9fb800ef", func := "loop.example/g01165/laws.FnExactMeanError", spec := "fnExactMeanError", unfollowed := true, recurses := true, apart := false }
def FnExactMeanErrorSaid : Prop := fnExactMeanErrorRow.holds Try.pinned (OpenSpec.ofChange fnExactMeanErrorSpec)

/-- ITS FALSE NEIGHBOUR: 'it returns false'. Refute it at one input. -/
def fnExactMeanErrorWrong : ChangeSpec := { name := "fnExactMeanError", fn := fun _ => fun
  | [d1, d2] => { results := [.lit (.bool false)], args := [d1, d2] }
  | _ => none }
def FnExactMeanErrorWrongFalsely : Prop := fnExactMeanErrorRow.holds Try.pinned (OpenSpec.ofChange fnExactMeanErrorWrong)

/-- 'laws.FnExactSpreadGrey': WHATEVER THE INPUT: true; the input reads as it did. -/
def fnExactSpreadGreySpec : ChangeSpec := { name := "fnExactSpreadGrey", fn := fun _ => fun
  | [d] => { results := [.lit (.bool true)], args := [d] }
  | _ => none }
def fnExactSpreadGreyRow : OpenClaim := { program := "ytdbelajgndclfaa", sum := "8f53380134ef9603e0b8eb8fbb449b00effcee27a26d504310fdeb4d9fb800ef", func := "loop.example/g01165/laws.FnExactSpreadGrey", spec := "fnExactSpreadGrey", unfollowed := true, recurses := true, apart := false }
def FnExactSpreadGreySaid : Prop := fnExactSpreadGreyRow.holds Try.pinned (OpenSpec.ofChange fnExactSpreadGreySpec)

/-- ITS FALSE NEIGHBOUR: 'it returns false'. Refute it at one input. -/
def fnExactSpreadGreyWrong : ChangeSpec := { name := "fnExactSpreadGrey", fn := fun _ => fun
  | [d] => { results := [.lit (.bool false)], args := [d] }
  | _ => none }
def FnExactSpreadGreyWrongFalsely : Prop := fnExactSpreadGreyRow.holds Try.pinned (OpenSpec.ofChange fnExactSpreadGreyWrong)

/-- 'laws.FnHalftones': WHATEVER THE INPUT: true; the input reads as it did. -/
def fnHalftonesSpec : ChangeSpec := { name := "fnHalftones", fn := fun _ => fun
  | [d1, d2] => { results := [.lit (.bool true)], args := [d1, d2] }
  | _ => none }
def fnHalftonesRow : OpenClaim := { program := "ytdbelajgndclfaa", sum := "8f53380134ef9603e0b8eb8fbb449b00effcee27a26d504310fdeb4d9fb800ef", func := "loop.example/g01165/laws.FnHalftones", spec := "fnHalftones", unfollowed := true, recurses := true, apart := false }
def FnHalftonesSaid : Prop := fnHalftonesRow.holds Try.pinned (OpenSpec.ofChange fnHalftonesSpec)

/-- ITS FALSE NEIGHBOUR: 'it returns false'. Refute it at one input. -/
def fnHalftonesWrong : ChangeSpec := { name := "fnHalftones", fn := fun _ => fun
  | [d1, d2] => { results := [.lit (.bool false)], args := [d1, d2] }
  | _ => none }
def FnHalftonesWrongFalsely : Prop := fnHalftonesRow.holds Try.pinned (OpenSpec.ofChange fnHalftonesWrong)

/-- 'laws.FnExactPictureAlong': WHATEVER THE INPUT: true; the input reads as it did. -/
def fnExactPictureAlongSpec : ChangeSpec := { name := "fnExactPictureAlong", fn := fun _ => fun
  | [d1, d2] => { results := [.lit (.bool true)], args := [d1, d2] }
  | _ => none }
def fnExactPictureAlongRow : OpenClaim := { program := "ytdbelajgndclfaa", sum := "8f53380134ef9603e0b8eb8fbb449b00effcee27a26d504310fdeb4d9fb800ef", func := "loop.example/g01165/laws.FnExactPictureAlong", spec := "fnExactPictureAlong", recurses := true, apart := false }
def FnExactPictureAlongSaid : Prop := fnExactPictureAlongRow.holds Try.pinned (OpenSpec.ofChange fnExactPictureAlongSpec)

/-- ITS FALSE NEIGHBOUR: 'it returns false'. Refute it at one input. -/
def fnExactPictureAlongWrong : ChangeSpec := { name := "fnExactPictureAlong", fn := fun _ => fun
  | [d1, d2] => { results := [.lit (.bool false)], args := [d1, d2] }
  | _ => none }
def FnExactPictureAlongWrongFalsely : Prop := fnExactPictureAlongRow.holds Try.pinned (OpenSpec.ofChange fnExactPictureAlongWrong)

/-- 'laws.FnExactPictureFromRuns': WHATEVER THE INPUT: true; the input reads as it did. -/
def fnExactPictureFromRunsSpec : ChangeSpec := { name := "fnExactPictureFromRuns", fn := fun _ => fun
  | [d1, d2, d3] => { results := [.lit (.bool true)], args := [d1, d2, d3] }
  | _ => none }
def fnExactPictureFromRunsRow : OpenClaim := { program := "ytdbelajgndclfaa", sum := "8f53380134ef9603e0b8eb8fbb449b00effcee27a26d504310fdeb4d9fb800ef", func := "loop.example/g01165/laws.FnExactPictureFromRuns", spec := "fnExactPictureFromRuns", recurses := true, apart := false }
def FnExactPictureFromRunsSaid : Prop := fnExactPictureFromRunsRow.holds Try.pinned (OpenSpec.ofChange fnExactPictureFromRunsSpec)

/-- ITS FALSE NEIGHBOUR: 'it returns false'. Refute it at one input. -/
def fnExactPictureFromRunsWrong : ChangeSpec := { name := "fnExactPictureFromRuns", fn := fun _ => fun
  | [d1, d2, d3] => { results := [.lit (.bool false)], args := [d1, d2, d3] }
  | _ => none }
def FnExactPictureFromRunsWrongFalsely : Prop := fnExactPictureFromRunsRow.holds Try.pinned (OpenSpec.ofChange fnExactPictureFromRunsWrong)

/-- 'laws.FnAlong': WHATEVER THE INPUT: true; the input reads as it did. -/
def fnAlongSpec : ChangeSpec := { name := "fnAlong", fn := fun _ => fun
  | [d1, d2] => { results := [.lit (.bool true)], args := [d1, d2] }
  | _ => none }
def fnAlongRow : OpenClaim := { program := "ytdbelajgndclfaa", sum := "8f53380134ef9603e0b8eb8fbb449b00effcee27a26d504310fdeb4d9fb800ef", func := "loop.example/g01165/laws.FnAlong", spec := "fnAlong", unfollowed := true, recurses := true, apart := false }
def FnAlongSaid : Prop := fnAlongRow.holds Try.pinned (OpenSpec.ofChange fnAlongSpec)

/-- ITS FALSE NEIGHBOUR: 'it returns false'. Refute it at one input. -/
def fnAlongWrong : ChangeSpec := { name := "fnAlong", fn := fun _ => fun
  | [d1, d2] => { results := [.lit (.bool false)], args := [d1, d2] }
  | _ => none }
def FnAlongWrongFalsely : Prop := fnAlongRow.holds Try.pinned (OpenSpec.ofChange fnAlongWrong)

/-- 'laws.FnExactPackPicture': WHATEVER THE INPUT: true; the input reads as it did. -/
def fnExactPackPictureSpec : ChangeSpec := { name := "fnExactPackPicture", fn := fun _ => fun
  | [d] => { results := [.lit (.bool true)], args := [d] }
  | _ => none }
def fnExactPackPictureRow : OpenClaim := { program := "ytdbelajgndclfaa", sum := "8f53380134ef9603e0b8eb8fbb449b00effcee27a26d504310fdeb4d9fb800ef", func := "loop.example/g01165/laws.FnExactPackPicture", spec := "fnExactPackPicture", inPlace := ["internal/abi.NoEscape", "internal/bytealg.MakeNoZero"], unfollowed := true, recurses := true, apart := false }
def FnExactPackPictureSaid : Prop := fnExactPackPictureRow.holds Try.pinned (OpenSpec.ofChange fnExactPackPictureSpec)

/-- ITS FALSE NEIGHBOUR: 'it returns false'. Refute it at one input. -/
def fnExactPackPictureWrong : ChangeSpec := { name := "fnExactPackPicture", fn := fun _ => fun
  | [d] => { results := [.lit (.bool false)], args := [d] }
  | _ => none }
def FnExactPackPictureWrongFalsely : Prop := fnExactPackPictureRow.holds Try.pinned (OpenSpec.ofChange fnExactPackPictureWrong)

/- THE SECOND FORM. 'bulk': how many values and letters a reading holds, each counted each time it is reached (what is shared counts as often as it is met; a slice's spare places count too). A statement '..UptoSaid' is the law's where the arguments, and the package variables that the reading takes, are together of bulk at most 1048576: NARROWER than '..Said'. Prove '..Said' where nothing that the law and all that it calls make is longer than what came in: it says more and counts as full. Else prove '..UptoSaid'. A law counts once. -/
mutual
def uptoBulk {H : Type} : DataW H → Nat
  | .lit (.string bytes) => bytes.length + 1
  | .lit _ => 1
  | .nil => 1
  | .ptr d => uptoBulk d + 1
  | .slice elems spare => uptoBulkAll elems + uptoBulkAll spare + 1
  | .agg parts => uptoBulkAll parts + 1
  | .iface _ d => uptoBulk d + 1
  | .map entries => uptoBulkEntries entries + 1
  | .held _ => 1
def uptoBulkAll {H : Type} : List (DataW H) → Nat
  | [] => 0
  | d :: r => uptoBulk d + uptoBulkAll r
def uptoBulkEntries {H : Type} : List (Lit × DataW H) → Nat
  | [] => 0
  | x :: r => uptoBulkEntry x + uptoBulkEntries r
def uptoBulkEntry {H : Type} : Lit × DataW H → Nat
  | (.string bytes, d) => bytes.length + uptoBulk d + 1
  | (_, d) => uptoBulk d + 1
 end
def uptoSmall : (H : Type) → List (DataW H) → Bool := fun _ ds => decide (uptoBulkAll ds ≤ 1048576)
def OpenSpec.upto (s : _root_.Go.ChangeSpec) : _root_.Go.OpenSpec := { _root_.Go.OpenSpec.ofChange s with cond := some uptoSmall }

/-- 'laws.FnResidues', WHERE WHAT IT READS IS OF BULK AT MOST 1048576: true; the input reads as it did. -/
def fnResiduesUptoRow : OpenClaim := { program := "ytdbelajgndclfaa", sum := "8f53380134ef9603e0b8eb8fbb449b00effcee27a26d504310fdeb4d9fb800ef", func := "loop.example/g01165/laws.FnResidues", spec := "fnResidues", unfollowed := true, recurses := true, apart := false, narrowed := true }
def FnResiduesUptoSaid : Prop := fnResiduesUptoRow.holds Try.pinned (OpenSpec.upto fnResiduesSpec)

/-- 'laws.FnExactFromResidue', WHERE WHAT IT READS IS OF BULK AT MOST 1048576: true; the input reads as it did. -/
def fnExactFromResidueUptoRow : OpenClaim := { program := "ytdbelajgndclfaa", sum := "8f53380134ef9603e0b8eb8fbb449b00effcee27a26d504310fdeb4d9fb800ef", func := "loop.example/g01165/laws.FnExactFromResidue", spec := "fnExactFromResidue", unfollowed := true, recurses := true, apart := false, narrowed := true }
def FnExactFromResidueUptoSaid : Prop := fnExactFromResidueUptoRow.holds Try.pinned (OpenSpec.upto fnExactFromResidueSpec)

/-- 'laws.FnExactResidueOf', WHERE WHAT IT READS IS OF BULK AT MOST 1048576: true; the input reads as it did. -/
def fnExactResidueOfUptoRow : OpenClaim := { program := "ytdbelajgndclfaa", sum := "8f53380134ef9603e0b8eb8fbb449b00effcee27a26d504310fdeb4d9fb800ef", func := "loop.example/g01165/laws.FnExactResidueOf", spec := "fnExactResidueOf", unfollowed := true, recurses := true, apart := false, narrowed := true }
def FnExactResidueOfUptoSaid : Prop := fnExactResidueOfUptoRow.holds Try.pinned (OpenSpec.upto fnExactResidueOfSpec)

/-- 'laws.FnExactGreyOfPicture', WHERE WHAT IT READS IS OF BULK AT MOST 1048576: true; the input reads as it did. -/
def fnExactGreyOfPictureUptoRow : OpenClaim := { program := "ytdbelajgndclfaa", sum := "8f53380134ef9603e0b8eb8fbb449b00effcee27a26d504310fdeb4d9fb800ef", func := "loop.example/g01165/laws.FnExactGreyOfPicture", spec := "fnExactGreyOfPicture", unfollowed := true, recurses := true, apart := false, narrowed := true }
def FnExactGreyOfPictureUptoSaid : Prop := fnExactGreyOfPictureUptoRow.holds Try.pinned (OpenSpec.upto fnExactGreyOfPictureSpec)

/-- 'laws.FnExactOrderedGrey', WHERE WHAT IT READS IS OF BULK AT MOST 1048576: true; the input reads as it did. -/
def fnExactOrderedGreyUptoRow : OpenClaim := { program := "ytdbelajgndclfaa", sum := "8f53380134ef9603e0b8eb8fbb449b00effcee27a26d504310fdeb4d9fb800ef", func := "loop.example/g01165/laws.FnExactOrderedGrey", spec := "fnExactOrderedGrey", unfollowed := true, recurses := true, apart := false, narrowed := true }
def FnExactOrderedGreyUptoSaid : Prop := fnExactOrderedGreyUptoRow.holds Try.pinned (OpenSpec.upto fnExactOrderedGreySpec)

/-- 'laws.FnExactMeanError', WHERE WHAT IT READS IS OF BULK AT MOST 1048576: true; the input reads as it did. -/
def fnExactMeanErrorUptoRow : OpenClaim := { program := "ytdbelajgndclfaa", sum := "8f53380134ef9603e0b8eb8fbb449b00effcee27a26d504310fdeb4d9fb800ef", func := "loop.example/g01165/laws.FnExactMeanError", spec := "fnExactMeanError", unfollowed := true, recurses := true, apart := false, narrowed := true }
def FnExactMeanErrorUptoSaid : Prop := fnExactMeanErrorUptoRow.holds Try.pinned (OpenSpec.upto fnExactMeanErrorSpec)

/-- 'laws.FnExactSpreadGrey', WHERE WHAT IT READS IS OF BULK AT MOST 1048576: true; the input reads as it did. -/
def fnExactSpreadGreyUptoRow : OpenClaim := { program := "ytdbelajgndclfaa", sum := "8f53380134ef9603e0b8eb8fbb449b00effcee27a26d504310fdeb4d9fb800ef", func := "loop.example/g01165/laws.FnExactSpreadGrey", spec := "fnExactSpreadGrey", unfollowed := true, recurses := true, apart := false, narrowed := true }
def FnExactSpreadGreyUptoSaid : Prop := fnExactSpreadGreyUptoRow.holds Try.pinned (OpenSpec.upto fnExactSpreadGreySpec)

/-- 'laws.FnHalftones', WHERE WHAT IT READS IS OF BULK AT MOST 1048576: true; the input reads as it did. -/
def fnHalftonesUptoRow : OpenClaim := { program := "ytdbelajgndclfaa", sum := "8f53380134ef9603e0b8eb8fbb449b00effcee27a26d504310fdeb4d9fb800ef", func := "loop.example/g01165/laws.FnHalftones", spec := "fnHalftones", unfollowed := true, recurses := true, apart := false, narrowed := true }
def FnHalftonesUptoSaid : Prop := fnHalftonesUptoRow.holds Try.pinned (OpenSpec.upto fnHalftonesSpec)

/-- 'laws.FnExactPictureAlong', WHERE WHAT IT READS IS OF BULK AT MOST 1048576: true; the input reads as it did. -/
def fnExactPictureAlongUptoRow : OpenClaim := { program := "ytdbelajgndclfaa", sum := "8f53380134ef9603e0b8eb8fbb449b00effcee27a26d504310fdeb4d9fb800ef", func := "loop.example/g01165/laws.FnExactPictureAlong", spec := "fnExactPictureAlong", recurses := true, apart := false, narrowed := true }
def FnExactPictureAlongUptoSaid : Prop := fnExactPictureAlongUptoRow.holds Try.pinned (OpenSpec.upto fnExactPictureAlongSpec)

/-- 'laws.FnExactPictureFromRuns', WHERE WHAT IT READS IS OF BULK AT MOST 1048576: true; the input reads as it did. -/
def fnExactPictureFromRunsUptoRow : OpenClaim := { program := "ytdbelajgndclfaa", sum := "8f53380134ef9603e0b8eb8fbb449b00effcee27a26d504310fdeb4d9fb800ef", func := "loop.example/g01165/laws.FnExactPictureFromRuns", spec := "fnExactPictureFromRuns", recurses := true, apart := false, narrowed := true }
def FnExactPictureFromRunsUptoSaid : Prop := fnExactPictureFromRunsUptoRow.holds Try.pinned (OpenSpec.upto fnExactPictureFromRunsSpec)

/-- 'laws.FnAlong', WHERE WHAT IT READS IS OF BULK AT MOST 1048576: true; the input reads as it did. -/
def fnAlongUptoRow : OpenClaim := { program := "ytdbelajgndclfaa", sum := "8f53380134ef9603e0b8eb8fbb449b00effcee27a26d504310fdeb4d9fb800ef", func := "loop.example/g01165/laws.FnAlong", spec := "fnAlong", unfollowed := true, recurses := true, apart := false, narrowed := true }
def FnAlongUptoSaid : Prop := fnAlongUptoRow.holds Try.pinned (OpenSpec.upto fnAlongSpec)

/-- 'laws.FnExactPackPicture', WHERE WHAT IT READS IS OF BULK AT MOST 1048576: true; the input reads as it did. -/
def fnExactPackPictureUptoRow : OpenClaim := { program := "ytdbelajgndclfaa", sum := "8f53380134ef9603e0b8eb8fbb449b00effcee27a26d504310fdeb4d9fb800ef", func := "loop.example/g01165/laws.FnExactPackPicture", spec := "fnExactPackPicture", inPlace := ["internal/abi.NoEscape", "internal/bytealg.MakeNoZero"], unfollowed := true, recurses := true, apart := false, narrowed := true }
def FnExactPackPictureUptoSaid : Prop := fnExactPackPictureUptoRow.holds Try.pinned (OpenSpec.upto fnExactPackPictureSpec)

end Rows
end Go.Proofs.Ytdbelajgndclfaa
