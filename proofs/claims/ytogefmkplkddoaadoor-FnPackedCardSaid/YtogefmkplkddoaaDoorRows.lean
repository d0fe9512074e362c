/-
  NARROWER THAN 'FOR EVERY INPUT', by the rows' own cells (each row's printed sentence says how): FnExactNumbersOfCode: laid · FnExactPackSteps: laid · FnExactUnpackSteps: laid · FnPackedSteps: laid · FnExactUnpackPicture: laid · FnPacked: laid.
  DERIVED. THE GIVEN ROWS OF THIS SEAT. 6 by the template 'for every input the law returns true; each argument reads behind the call as it read before'; 0 by the template 'total and deterministic' (their statements: YtogefmkplkddoaaDoorTotals.lean).
  GIVEN WITH THE SEED: the statements are not yours to turn. If you find one false, say at which input.
  Laid BY PROGRAM, IN A SANDBOX (cutbox-rows.mjs): the forced cells as the released guide's own fill.sh prints them over the translation df272b5dcb1d6c0c… (all of the seat's roots in one cut). By AI agents, Wed Nov 11 2026. No macro, syntax, notation, axiom, sorry.
-/
import Derived.Test.YtogefmkplkddoaaDoorChecked
import GoSem.PinnedTables
import GoSem.Claim
import GoSem.ClaimJoined
import GoSem.ClaimMapViews
import Derived.JoinedTies
import Derived.KernelRfl
namespace Go.Proofs.YtogefmkplkddoaaDoor
/- THE CELL 'sum', in the pinned program and in every row, IS THE sha256 OF THE DUMP (.gsa) THAT YtogefmkplkddoaaDoorProg.lean LOADS. Nothing in Lean hashes anything: it is a label: what it is worth is what the hold of that sum in a sandbox is worth. -/
noncomputable def Tryd.pinned : Pinned := { name := "ytogefmkplkddoaadoor", sum := "df272b5dcb1d6c0caeda846f021d787d5e0b213c256b99fdc0b7827ff4e26182", checked := Tryd.checked }
namespace Rows
def none {H : Type} : Left H := { results := [], args := [] }

/- WHAT THE LISTED PACKAGE-LEVEL VARIABLES READ AS WHEN THE CALL BEGINS. Each datum BY PROGRAM (the guide's laid-datum.mjs) off the statement by which the dump's own 'gosem.cut.vars' lays the variable. In a bare row this is a premise. The card (YtogefmkplkddoaaDoorCards.lean) ties it to the program's text. -/
def laid_unicode_utf8_acceptRanges {H : Type} : DataW H := .agg [.agg [.lit (.int .u8 128), .lit (.int .u8 191)], .agg [.lit (.int .u8 160), .lit (.int .u8 191)], .agg [.lit (.int .u8 128), .lit (.int .u8 159)], .agg [.lit (.int .u8 144), .lit (.int .u8 191)], .agg [.lit (.int .u8 128), .lit (.int .u8 143)], .agg [.lit (.int .u8 0), .lit (.int .u8 0)], .agg [.lit (.int .u8 0), .lit (.int .u8 0)], .agg [.lit (.int .u8 0), .lit (.int .u8 0)], .agg [.lit (.int .u8 0), .lit (.int .u8 0)], .agg [.lit (.int .u8 0), .lit (.int .u8 0)], .agg [.lit (.int .u8 0), .lit (.int .u8 0)], .agg [.lit (.int .u8 0), .lit (.int .u8 0)], .agg [.lit (.int .u8 0), .lit (.int .u8 0)], .agg [.lit (.int .u8 0), .lit (.int .u8 0)], .agg [.lit (.int .u8 0), .lit (.int .u8 0)], .agg [.lit (.int .u8 0), .lit (.int .u8 0)]]
/-- One of Go's own tables, pinned by name: the form's constant. -/
def laid_unicode_utf8_first : DataW Unit := Go.Pinned.utf8First

/-- 'laws.FnExactNumbersOfCode': WHATEVER THE INPUT: true; the input reads as it did. -/
def fnExactNumbersOfCodeSpec : ChangeSpec := { name := "fnExactNumbersOfCode", fn := fun _ => fun
  | [d] => { results := [.lit (.bool true)], args := [d] }
  | _ => none }
def fnExactNumbersOfCodeRow : OpenClaim := { program := "ytogefmkplkddoaadoor", sum := "df272b5dcb1d6c0caeda846f021d787d5e0b213c256b99fdc0b7827ff4e26182", func := "loop.example/g01165/laws.FnExactNumbersOfCode", spec := "fnExactNumbersOfCode", inPlace := ["internal/bytealg.IndexByteString", "internal/bytealg.IndexString", "internal/abi.NoEscape", "internal/bytealg.MakeNoZero"], named := ["unicode/utf8.first", "unicode/utf8.acceptRanges", "internal/bytealg.MaxLen"], apart := false, laid := [("unicode/utf8.acceptRanges", laid_unicode_utf8_acceptRanges), ("unicode/utf8.first", laid_unicode_utf8_first)] }
def FnExactNumbersOfCodeSaid : Prop := fnExactNumbersOfCodeRow.holds Tryd.pinned (OpenSpec.ofChange fnExactNumbersOfCodeSpec)

/-- ITS FALSE NEIGHBOUR: 'it returns false'. Refute it at one input. -/
def fnExactNumbersOfCodeWrong : ChangeSpec := { name := "fnExactNumbersOfCode", fn := fun _ => fun
  | [d] => { results := [.lit (.bool false)], args := [d] }
  | _ => none }
def FnExactNumbersOfCodeWrongFalsely : Prop := fnExactNumbersOfCodeRow.holds Tryd.pinned (OpenSpec.ofChange fnExactNumbersOfCodeWrong)

/-- 'laws.FnExactPackSteps': WHATEVER THE INPUT: true; the input reads as it did. -/
def fnExactPackStepsSpec : ChangeSpec := { name := "fnExactPackSteps", fn := fun _ => fun
  | [d] => { results := [.lit (.bool true)], args := [d] }
  | _ => none }
def fnExactPackStepsRow : OpenClaim := { program := "ytogefmkplkddoaadoor", sum := "df272b5dcb1d6c0caeda846f021d787d5e0b213c256b99fdc0b7827ff4e26182", func := "loop.example/g01165/laws.FnExactPackSteps", spec := "fnExactPackSteps", inPlace := ["internal/bytealg.IndexByteString", "internal/bytealg.IndexString"], named := ["unicode/utf8.first", "unicode/utf8.acceptRanges", "internal/bytealg.MaxLen"], apart := false, laid := [("unicode/utf8.acceptRanges", laid_unicode_utf8_acceptRanges), ("unicode/utf8.first", laid_unicode_utf8_first)] }
def FnExactPackStepsSaid : Prop := fnExactPackStepsRow.holds Tryd.pinned (OpenSpec.ofChange fnExactPackStepsSpec)

/-- ITS FALSE NEIGHBOUR: 'it returns false'. Refute it at one input. -/
def fnExactPackStepsWrong : ChangeSpec := { name := "fnExactPackSteps", fn := fun _ => fun
  | [d] => { results := [.lit (.bool false)], args := [d] }
  | _ => none }
def FnExactPackStepsWrongFalsely : Prop := fnExactPackStepsRow.holds Tryd.pinned (OpenSpec.ofChange fnExactPackStepsWrong)

/-- 'laws.FnExactUnpackSteps': WHATEVER THE INPUT: true; the input reads as it did. -/
def fnExactUnpackStepsSpec : ChangeSpec := { name := "fnExactUnpackSteps", fn := fun _ => fun
  | [d] => { results := [.lit (.bool true)], args := [d] }
  | _ => none }
def fnExactUnpackStepsRow : OpenClaim := { program := "ytogefmkplkddoaadoor", sum := "df272b5dcb1d6c0caeda846f021d787d5e0b213c256b99fdc0b7827ff4e26182", func := "loop.example/g01165/laws.FnExactUnpackSteps", spec := "fnExactUnpackSteps", inPlace := ["internal/bytealg.IndexByteString", "internal/bytealg.IndexString"], named := ["unicode/utf8.first", "unicode/utf8.acceptRanges", "internal/bytealg.MaxLen"], apart := false, laid := [("unicode/utf8.acceptRanges", laid_unicode_utf8_acceptRanges), ("unicode/utf8.first", laid_unicode_utf8_first)] }
def FnExactUnpackStepsSaid : Prop := fnExactUnpackStepsRow.holds Tryd.pinned (OpenSpec.ofChange fnExactUnpackStepsSpec)

/-- ITS FALSE NEIGHBOUR: 'it returns false'. Refute it at one input. -/
def fnExactUnpackStepsWrong : ChangeSpec := { name := "fnExactUnpackSteps", fn := fun _ => fun
  | [d] => { results := [.lit (.bool false)], args := [d] }
  | _ => none }
def FnExactUnpackStepsWrongFalsely : Prop := fnExactUnpackStepsRow.holds Tryd.pinned (OpenSpec.ofChange fnExactUnpackStepsWrong)

/-- 'laws.FnPackedSteps': WHATEVER THE INPUT: true; the input reads as it did. -/
def fnPackedStepsSpec : ChangeSpec := { name := "fnPackedSteps", fn := fun _ => fun
  | [d1, d2] => { results := [.lit (.bool true)], args := [d1, d2] }
  | _ => none }
def fnPackedStepsRow : OpenClaim := { program := "ytogefmkplkddoaadoor", sum := "df272b5dcb1d6c0caeda846f021d787d5e0b213c256b99fdc0b7827ff4e26182", func := "loop.example/g01165/laws.FnPackedSteps", spec := "fnPackedSteps", inPlace := ["internal/bytealg.IndexByteString", "internal/bytealg.IndexString"], named := ["unicode/utf8.first", "unicode/utf8.acceptRanges", "internal/bytealg.MaxLen"], apart := false, laid := [("unicode/utf8.acceptRanges", laid_unicode_utf8_acceptRanges), ("unicode/utf8.first", laid_unicode_utf8_first)] }
def FnPackedStepsSaid : Prop := fnPackedStepsRow.holds Tryd.pinned (OpenSpec.ofChange fnPackedStepsSpec)

/-- ITS FALSE NEIGHBOUR: 'it returns false'. Refute it at one input. -/
def fnPackedStepsWrong : ChangeSpec := { name := "fnPackedSteps", fn := fun _ => fun
  | [d1, d2] => { results := [.lit (.bool false)], args := [d1, d2] }
  | _ => none }
def FnPackedStepsWrongFalsely : Prop := fnPackedStepsRow.holds Tryd.pinned (OpenSpec.ofChange fnPackedStepsWrong)

/-- 'laws.FnExactUnpackPicture': WHATEVER THE INPUT: true; the input reads as it did. -/
def fnExactUnpackPictureSpec : ChangeSpec := { name := "fnExactUnpackPicture", fn := fun _ => fun
  | [d] => { results := [.lit (.bool true)], args := [d] }
  | _ => none }
def fnExactUnpackPictureRow : OpenClaim := { program := "ytogefmkplkddoaadoor", sum := "df272b5dcb1d6c0caeda846f021d787d5e0b213c256b99fdc0b7827ff4e26182", func := "loop.example/g01165/laws.FnExactUnpackPicture", spec := "fnExactUnpackPicture", inPlace := ["internal/bytealg.IndexByteString", "internal/bytealg.IndexString", "internal/abi.NoEscape", "internal/bytealg.MakeNoZero"], unfollowed := true, recurses := true, named := ["unicode/utf8.first", "unicode/utf8.acceptRanges", "internal/bytealg.MaxLen"], apart := false, laid := [("unicode/utf8.acceptRanges", laid_unicode_utf8_acceptRanges), ("unicode/utf8.first", laid_unicode_utf8_first)] }
def FnExactUnpackPictureSaid : Prop := fnExactUnpackPictureRow.holds Tryd.pinned (OpenSpec.ofChange fnExactUnpackPictureSpec)

/-- ITS FALSE NEIGHBOUR: 'it returns false'. Refute it at one input. -/
def fnExactUnpackPictureWrong : ChangeSpec := { name := "fnExactUnpackPicture", fn := fun _ => fun
  | [d] => { results := [.lit (.bool false)], args := [d] }
  | _ => none }
def FnExactUnpackPictureWrongFalsely : Prop := fnExactUnpackPictureRow.holds Tryd.pinned (OpenSpec.ofChange fnExactUnpackPictureWrong)

/-- 'laws.FnPacked': WHATEVER THE INPUT: true; the input reads as it did. -/
def fnPackedSpec : ChangeSpec := { name := "fnPacked", fn := fun _ => fun
  | [d1, d2] => { results := [.lit (.bool true)], args := [d1, d2] }
  | _ => none }
def fnPackedRow : OpenClaim := { program := "ytogefmkplkddoaadoor", sum := "df272b5dcb1d6c0caeda846f021d787d5e0b213c256b99fdc0b7827ff4e26182", func := "loop.example/g01165/laws.FnPacked", spec := "fnPacked", inPlace := ["internal/abi.NoEscape", "internal/bytealg.MakeNoZero", "internal/bytealg.IndexByteString", "internal/bytealg.IndexString"], unfollowed := true, recurses := true, named := ["unicode/utf8.first", "unicode/utf8.acceptRanges", "internal/bytealg.MaxLen"], apart := false, laid := [("unicode/utf8.acceptRanges", laid_unicode_utf8_acceptRanges), ("unicode/utf8.first", laid_unicode_utf8_first)] }
def FnPackedSaid : Prop := fnPackedRow.holds Tryd.pinned (OpenSpec.ofChange fnPackedSpec)

/-- ITS FALSE NEIGHBOUR: 'it returns false'. Refute it at one input. -/
def fnPackedWrong : ChangeSpec := { name := "fnPacked", fn := fun _ => fun
  | [d1, d2] => { results := [.lit (.bool false)], args := [d1, d2] }
  | _ => none }
def FnPackedWrongFalsely : Prop := fnPackedRow.holds Tryd.pinned (OpenSpec.ofChange fnPackedWrong)

/- THE SECOND FORM. 'bulk': how many values and letters a reading holds, each counted each time it is reached (what is shared counts as often as it is met; a slice's spare places count too). A statement '..UptoSaid' is the law's where the arguments, and the package variables that the reading takes, are together of bulk at most 1048576: NARROWER than '..Said'. Prove '..Said' where nothing that the law and all that it calls make is longer than what came in: it says more and counts as full. Else prove '..UptoSaid'. A law counts once. -/
mutual
def uptoBulk {H : Type} : DataW H → Nat
  | .lit (.string bytes) => bytes.length + 1
  | .lit _ => 1
  | .nil => 1
  | .ptr d => uptoBulk d + 1
  | .slice elems spare => uptoBulkAll elems + uptoBulkAll spare + 1
  | .agg parts => uptoBulkAll parts + 1
  | .iface _ d => uptoBulk d + 1
  | .map entries => uptoBulkEntries entries + 1
  | .held _ => 1
def uptoBulkAll {H : Type} : List (DataW H) → Nat
  | [] => 0
  | d :: r => uptoBulk d + uptoBulkAll r
def uptoBulkEntries {H : Type} : List (Lit × DataW H) → Nat
  | [] => 0
  | x :: r => uptoBulkEntry x + uptoBulkEntries r
def uptoBulkEntry {H : Type} : Lit × DataW H → Nat
  | (.string bytes, d) => bytes.length + uptoBulk d + 1
  | (_, d) => uptoBulk d + 1
 end
def uptoSmall : (H : Type) → List (DataW H) → Bool := fun _ ds => decide (uptoBulkAll ds ≤ 1048576)
def OpenSpec.upto (s : _root_.Go.ChangeSpec) : _root_.Go.OpenSpec := { _root_.Go.OpenSpec.ofChange s with cond := some uptoSmall }

/-- 'laws.FnExactNumbersOfCode', WHERE WHAT IT READS IS OF BULK AT MOST 1048576: true; the input reads as it did. -/
def fnExactNumbersOfCodeUptoRow : OpenClaim := { program := "ytogefmkplkddoaadoor", sum := "df272b5dcb1d6c0caeda846f021d787d5e0b213c256b99fdc0b7827ff4e26182", func := "loop.example/g01165/laws.FnExactNumbersOfCode", spec := "fnExactNumbersOfCode", inPlace := ["internal/bytealg.IndexByteString", "internal/bytealg.IndexString", "internal/abi.NoEscape", "internal/bytealg.MakeNoZero"], named := ["unicode/utf8.first", "unicode/utf8.acceptRanges", "internal/bytealg.MaxLen"], apart := false, laid := [("unicode/utf8.acceptRanges", laid_unicode_utf8_acceptRanges), ("unicode/utf8.first", laid_unicode_utf8_first)], narrowed := true }
def FnExactNumbersOfCodeUptoSaid : Prop := fnExactNumbersOfCodeUptoRow.holds Tryd.pinned (OpenSpec.upto fnExactNumbersOfCodeSpec)

/-- 'laws.FnExactPackSteps', WHERE WHAT IT READS IS OF BULK AT MOST 1048576: true; the input reads as it did. -/
def fnExactPackStepsUptoRow : OpenClaim := { program := "ytogefmkplkddoaadoor", sum := "df272b5dcb1d6c0caeda846f021d787d5e0b213c256b99fdc0b7827ff4e26182", func := "loop.example/g01165/laws.FnExactPackSteps", spec := "fnExactPackSteps", inPlace := ["internal/bytealg.IndexByteString", "internal/bytealg.IndexString"], named := ["unicode/utf8.first", "unicode/utf8.acceptRanges", "internal/bytealg.MaxLen"], apart := false, laid := [("unicode/utf8.acceptRanges", laid_unicode_utf8_acceptRanges), ("unicode/utf8.first", laid_unicode_utf8_first)], narrowed := true }
def FnExactPackStepsUptoSaid : Prop := fnExactPackStepsUptoRow.holds Tryd.pinned (OpenSpec.upto fnExactPackStepsSpec)

/-- 'laws.FnExactUnpackSteps', WHERE WHAT IT READS IS OF BULK AT MOST 1048576: true; the input reads as it did. -/
def fnExactUnpackStepsUptoRow : OpenClaim := { program := "ytogefmkplkddoaadoor", sum := "df272b5dcb1d6c0caeda846f021d787d5e0b213c256b99fdc0b7827ff4e26182", func := "loop.example/g01165/laws.FnExactUnpackSteps", spec := "fnExactUnpackSteps", inPlace := ["internal/bytealg.IndexByteString", "internal/bytealg.IndexString"], named := ["unicode/utf8.first", "unicode/utf8.acceptRanges", "internal/bytealg.MaxLen"], apart := false, laid := [("unicode/utf8.acceptRanges", laid_unicode_utf8_acceptRanges), ("unicode/utf8.first", laid_unicode_utf8_first)], narrowed := true }
def FnExactUnpackStepsUptoSaid : Prop := fnExactUnpackStepsUptoRow.holds Tryd.pinned (OpenSpec.upto fnExactUnpackStepsSpec)

/-- 'laws.FnPackedSteps', WHERE WHAT IT READS IS OF BULK AT MOST 1048576: true; the input reads as it did. -/
def fnPackedStepsUptoRow : OpenClaim := { program := "ytogefmkplkddoaadoor", sum := "df272b5dcb1d6c0caeda846f021d787d5e0b213c256b99fdc0b7827ff4e26182", func := "loop.example/g01165/laws.FnPackedSteps", spec := "fnPackedSteps", inPlace := ["internal/bytealg.IndexByteString", "internal/bytealg.IndexString"], named := ["unicode/utf8.first", "unicode/utf8.acceptRanges", "internal/bytealg.MaxLen"], apart := false, laid := [("unicode/utf8.acceptRanges", laid_unicode_utf8_acceptRanges), ("unicode/utf8.first", laid_unicode_utf8_first)], narrowed := true }
def FnPackedStepsUptoSaid : Prop := fnPackedStepsUptoRow.holds Tryd.pinned (OpenSpec.upto fnPackedStepsSpec)

/-- 'laws.FnExactUnpackPicture', WHERE WHAT IT READS IS OF BULK AT MOST 1048576: true; the input reads as it did. -/
def fnExactUnpackPictureUptoRow : OpenClaim := { program := "ytogefmkplkddoaadoor", sum := "df272b5dcb1d6c0caeda846f021d787d5e0b213c256b99fdc0b7827ff4e26182", func := "loop.example/g01165/laws.FnExactUnpackPicture", spec := "fnExactUnpackPicture", inPlace := ["internal/bytealg.IndexByteString", "internal/bytealg.IndexString", "internal/abi.NoEscape", "internal/bytealg.MakeNoZero"], unfollowed := true, recurses := true, named := ["unicode/utf8.first", "unicode/utf8.acceptRanges", "internal/bytealg.MaxLen"], apart := false, laid := [("unicode/utf8.acceptRanges", laid_unicode_utf8_acceptRanges), ("unicode/utf8.first", laid_unicode_utf8_first)], narrowed := true }
def FnExactUnpackPictureUptoSaid : Prop := fnExactUnpackPictureUptoRow.holds Tryd.pinned (OpenSpec.upto fnExactUnpackPictureSpec)

/-- 'laws.FnPacked', WHERE WHAT IT READS IS OF BULK AT MOST 1048576: true; the input reads as it did. -/
def fnPackedUptoRow : OpenClaim := { program := "ytogefmkplkddoaadoor", sum := "df272b5dcb1d6c0caeda846f021d787d5e0b213c256b99fdc0b7827ff4e26182", func := "loop.example/g01165/laws.FnPacked", spec := "fnPacked", inPlace := ["internal/abi.NoEscape", "internal/bytealg.MakeNoZero", "internal/bytealg.IndexByteString", "internal/bytealg.IndexString"], unfollowed := true, recurses := true, named := ["unicode/utf8.first", "unicode/utf8.acceptRanges", "internal/bytealg.MaxLen"], apart := false, laid := [("unicode/utf8.acceptRanges", laid_unicode_utf8_acceptRanges), ("unicode/utf8.first", laid_unicode_utf8_first)], narrowed := true }
def FnPackedUptoSaid : Prop := fnPackedUptoRow.holds Tryd.pinned (OpenSpec.upto fnPackedSpec)

end Rows
end Go.Proofs.YtogefmkplkddoaaDoor
