/-
  DERIVED. GIVEN WITH THE SEED: THE CARDS: each row of YtogefmkplkddoaaDoorRows.lean that lists a variable, with what it lists TIED to the program's text (the seventh form; the later family's looks); each row that meets fmt, with fmt's text TOLD by the authors' own Lean function (tested against real Go, not proved from fmt's source: count such statements apart). THE CARD IS WHAT COUNTS. Prove the row's statement (the work); the ties are given (YtogefmkplkddoaaDoorTie.lean); close each card by the builder's one call (the guide's Derived/Test/ToyasCard.lean, 'card_holds'). Laid BY PROGRAM, IN A SANDBOX (cutbox-door.mjs). By AI agents, Wed Nov 11 2026. No macro, syntax, notation, axiom, sorry.
-/
import Derived.Test.YtogefmkplkddoaaDoorRows
import GoSem.ClaimSeven
namespace Go.Proofs.YtogefmkplkddoaaDoor
namespace Rows

/-- THE TIED CARD OF 'laws.FnExactNumbersOfCode'. -/
def fnExactNumbersOfCodeCard : Claim7 := { stood := { row := fnExactNumbersOfCodeRow, standIns := [], harness := (true, "01010a4f5a3a5cf93deca3ddbcfc8b14de63fd882a4ca7ea783a3cd18581ba3c"), looks := false }, kinds := [], alts := [], laidByText := true, laidKinds := [.data, .pinned], laidTests := true, laidLooks := .later }
def FnExactNumbersOfCodeCardSaid : Prop := Claim7.holds Tryd.pinned (.plain (OpenSpec.ofChange fnExactNumbersOfCodeSpec)) fnExactNumbersOfCodeCard

/-- THE TIED CARD OF 'laws.FnExactPackSteps'. -/
def fnExactPackStepsCard : Claim7 := { stood := { row := fnExactPackStepsRow, standIns := [], harness := (true, "01010a4f5a3a5cf93deca3ddbcfc8b14de63fd882a4ca7ea783a3cd18581ba3c"), looks := false }, kinds := [], alts := [], laidByText := true, laidKinds := [.data, .pinned], laidTests := true, laidLooks := .later }
def FnExactPackStepsCardSaid : Prop := Claim7.holds Tryd.pinned (.plain (OpenSpec.ofChange fnExactPackStepsSpec)) fnExactPackStepsCard

/-- THE TIED CARD OF 'laws.FnExactUnpackSteps'. -/
def fnExactUnpackStepsCard : Claim7 := { stood := { row := fnExactUnpackStepsRow, standIns := [], harness := (true, "01010a4f5a3a5cf93deca3ddbcfc8b14de63fd882a4ca7ea783a3cd18581ba3c"), looks := false }, kinds := [], alts := [], laidByText := true, laidKinds := [.data, .pinned], laidTests := true, laidLooks := .later }
def FnExactUnpackStepsCardSaid : Prop := Claim7.holds Tryd.pinned (.plain (OpenSpec.ofChange fnExactUnpackStepsSpec)) fnExactUnpackStepsCard

/-- THE TIED CARD OF 'laws.FnPackedSteps'. -/
def fnPackedStepsCard : Claim7 := { stood := { row := fnPackedStepsRow, standIns := [], harness := (true, "01010a4f5a3a5cf93deca3ddbcfc8b14de63fd882a4ca7ea783a3cd18581ba3c"), looks := false }, kinds := [], alts := [], laidByText := true, laidKinds := [.data, .pinned], laidTests := true, laidLooks := .later }
def FnPackedStepsCardSaid : Prop := Claim7.holds Tryd.pinned (.plain (OpenSpec.ofChange fnPackedStepsSpec)) fnPackedStepsCard

/-- THE TIED CARD OF 'laws.FnExactUnpackPicture'. -/
def fnExactUnpackPictureCard : Claim7 := { stood := { row := fnExactUnpackPictureRow, standIns := [], harness := (true, "01010a4f5a3a5cf93deca3ddbcfc8b14de63fd882a4ca7ea783a3cd18581ba3c"), looks := false }, kinds := [], alts := [], laidByText := true, laidKinds := [.data, .pinned], laidTests := true, laidLooks := .later }
def FnExactUnpackPictureCardSaid : Prop := Claim7.holds Tryd.pinned (.plain (OpenSpec.ofChange fnExactUnpackPictureSpec)) fnExactUnpackPictureCard

/-- THE TIED CARD OF 'laws.FnPacked'. -/
def fnPackedCard : Claim7 := { stood := { row := fnPackedRow, standIns := [], harness := (true, "01010a4f5a3a5cf93deca3ddbcfc8b14de63fd882a4ca7ea783a3cd18581ba3c"), looks := false }, kinds := [], alts := [], laidByText := true, laidKinds := [.data, .pinned], laidTests := true, laidLooks := .later }
def FnPackedCardSaid : Prop := Claim7.holds Tryd.pinned (.plain (OpenSpec.ofChange fnPackedSpec)) fnPackedCard

/-- THE SECOND FORM's CARD OF 'laws.FnExactNumbersOfCode'. -/
def fnExactNumbersOfCodeUptoCard : Claim7 := { stood := { row := fnExactNumbersOfCodeUptoRow, standIns := [], harness := (true, "01010a4f5a3a5cf93deca3ddbcfc8b14de63fd882a4ca7ea783a3cd18581ba3c"), looks := false }, kinds := [], alts := [], laidByText := true, laidKinds := [.data, .pinned], laidTests := true, laidLooks := .later }
def FnExactNumbersOfCodeUptoCardSaid : Prop := Claim7.holds Tryd.pinned (.plain (OpenSpec.upto fnExactNumbersOfCodeSpec)) fnExactNumbersOfCodeUptoCard

/-- THE SECOND FORM's CARD OF 'laws.FnExactPackSteps'. -/
def fnExactPackStepsUptoCard : Claim7 := { stood := { row := fnExactPackStepsUptoRow, standIns := [], harness := (true, "01010a4f5a3a5cf93deca3ddbcfc8b14de63fd882a4ca7ea783a3cd18581ba3c"), looks := false }, kinds := [], alts := [], laidByText := true, laidKinds := [.data, .pinned], laidTests := true, laidLooks := .later }
def FnExactPackStepsUptoCardSaid : Prop := Claim7.holds Tryd.pinned (.plain (OpenSpec.upto fnExactPackStepsSpec)) fnExactPackStepsUptoCard

/-- THE SECOND FORM's CARD OF 'laws.FnExactUnpackSteps'. -/
def fnExactUnpackStepsUptoCard : Claim7 := { stood := { row := fnExactUnpackStepsUptoRow, standIns := [], harness := (true, "01010a4f5a3a5cf93deca3ddbcfc8b14de63fd882a4ca7ea783a3cd18581ba3c"), looks := false }, kinds := [], alts := [], laidByText := true, laidKinds := [.data, .pinned], laidTests := true, laidLooks := .later }
def FnExactUnpackStepsUptoCardSaid : Prop := Claim7.holds Tryd.pinned (.plain (OpenSpec.upto fnExactUnpackStepsSpec)) fnExactUnpackStepsUptoCard

/-- THE SECOND FORM's CARD OF 'laws.FnPackedSteps'. -/
def fnPackedStepsUptoCard : Claim7 := { stood := { row := fnPackedStepsUptoRow, standIns := [], harness := (true, "01010a4f5a3a5cf93deca3ddbcfc8b14de63fd882a4ca7ea783a3cd18581ba3c"), looks := false }, kinds := [], alts := [], laidByText := true, laidKinds := [.data, .pinned], laidTests := true, laidLooks := .later }
def FnPackedStepsUptoCardSaid : Prop := Claim7.holds Tryd.pinned (.plain (OpenSpec.upto fnPackedStepsSpec)) fnPackedStepsUptoCard

/-- THE SECOND FORM's CARD OF 'laws.FnExactUnpackPicture'. -/
def fnExactUnpackPictureUptoCard : Claim7 := { stood := { row := fnExactUnpackPictureUptoRow, standIns := [], harness := (true, "01010a4f5a3a5cf93deca3ddbcfc8b14de63fd882a4ca7ea783a3cd18581ba3c"), looks := false }, kinds := [], alts := [], laidByText := true, laidKinds := [.data, .pinned], laidTests := true, laidLooks := .later }
def FnExactUnpackPictureUptoCardSaid : Prop := Claim7.holds Tryd.pinned (.plain (OpenSpec.upto fnExactUnpackPictureSpec)) fnExactUnpackPictureUptoCard

/-- THE SECOND FORM's CARD OF 'laws.FnPacked'. -/
def fnPackedUptoCard : Claim7 := { stood := { row := fnPackedUptoRow, standIns := [], harness := (true, "01010a4f5a3a5cf93deca3ddbcfc8b14de63fd882a4ca7ea783a3cd18581ba3c"), looks := false }, kinds := [], alts := [], laidByText := true, laidKinds := [.data, .pinned], laidTests := true, laidLooks := .later }
def FnPackedUptoCardSaid : Prop := Claim7.holds Tryd.pinned (.plain (OpenSpec.upto fnPackedSpec)) fnPackedUptoCard
end Rows
end Go.Proofs.YtogefmkplkddoaaDoor
