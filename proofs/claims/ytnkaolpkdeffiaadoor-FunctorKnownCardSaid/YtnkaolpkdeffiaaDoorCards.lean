/-
  DERIVED. GIVEN WITH THE SEED: THE CARDS: each row of YtnkaolpkdeffiaaDoorRows.lean that lists a variable, with what it lists TIED to the program's text (the seventh form; the later family's looks); each row that meets fmt, with fmt's text TOLD by the authors' own Lean function (tested against real Go, not proved from fmt's source: count such statements apart). THE CARD IS WHAT COUNTS. Prove the row's statement (the work); the ties are given (YtnkaolpkdeffiaaDoorTie.lean); close each card by the builder's one call (the guide's Derived/Test/ToyasCard.lean, 'card_holds'). Laid BY PROGRAM, IN A SANDBOX (cutbox-door.mjs). By AI agents, Wed Nov 11 2026. No macro, syntax, notation, axiom, sorry.
-/
import Derived.Test.YtnkaolpkdeffiaaDoorRows
import GoSem.ClaimSeven
namespace Go.Proofs.YtnkaolpkdeffiaaDoor
namespace Rows

/-- THE TIED CARD OF 'fathomlaw04.FunctorNumbers'. -/
def functorNumbersCard : Claim7 := { stood := { row := functorNumbersRow, standIns := [], harness := (true, "24b28db4d2d4befb5eb14d205f09e4277929b795f1c0dd5ee79c9611dba4cb8f"), looks := false }, kinds := [], alts := [], laidByText := true, laidKinds := [.data, .pinned], laidTests := true, laidLooks := .later }
def FunctorNumbersCardSaid : Prop := Claim7.holds Tryd.pinned (.plain (OpenSpec.ofChange functorNumbersSpec)) functorNumbersCard

/-- THE TIED CARD OF 'fathomlaw04.FunctorParts'. -/
def functorPartsCard : Claim7 := { stood := { row := functorPartsRow, standIns := [], harness := (true, "24b28db4d2d4befb5eb14d205f09e4277929b795f1c0dd5ee79c9611dba4cb8f"), looks := false }, kinds := [], alts := [], laidByText := true, laidKinds := [.data, .pinned], laidTests := true, laidLooks := .later }
def FunctorPartsCardSaid : Prop := Claim7.holds Tryd.pinned (.plain (OpenSpec.ofChange functorPartsSpec)) functorPartsCard

/-- THE TIED CARD OF 'fathomlaw04.FunctorLaws'. -/
def functorLawsCard : Claim7 := { stood := { row := functorLawsRow, standIns := [], harness := (true, "24b28db4d2d4befb5eb14d205f09e4277929b795f1c0dd5ee79c9611dba4cb8f"), looks := false }, kinds := [], alts := [], laidByText := true, laidKinds := [.data, .pinned], laidTests := true, laidLooks := .later }
def FunctorLawsCardSaid : Prop := Claim7.holds Tryd.pinned (.plain (OpenSpec.ofChange functorLawsSpec)) functorLawsCard

/-- THE TIED CARD OF 'fathomlaw04.FunctorBack'. -/
def functorBackCard : Claim7 := { stood := { row := functorBackRow, standIns := [], harness := (true, "24b28db4d2d4befb5eb14d205f09e4277929b795f1c0dd5ee79c9611dba4cb8f"), looks := false }, kinds := [], alts := [], laidByText := true, laidKinds := [.data, .pinned], laidTests := true, laidLooks := .later }
def FunctorBackCardSaid : Prop := Claim7.holds Tryd.pinned (.plain (OpenSpec.ofChange functorBackSpec)) functorBackCard

/-- THE TIED CARD OF 'fathomlaw04.FunctorTexts'. -/
def functorTextsCard : Claim7 := { stood := { row := functorTextsRow, standIns := [], harness := (true, "24b28db4d2d4befb5eb14d205f09e4277929b795f1c0dd5ee79c9611dba4cb8f"), looks := false }, kinds := [], alts := [], laidByText := true, laidKinds := [.data, .pinned], laidTests := true, laidLooks := .later }
def FunctorTextsCardSaid : Prop := Claim7.holds Tryd.pinned (.plain (OpenSpec.ofChange functorTextsSpec)) functorTextsCard

/-- THE TIED CARD OF 'fathomlaw04.FunctorPieces'. -/
def functorPiecesCard : Claim7 := { stood := { row := functorPiecesRow, standIns := [], harness := (true, "24b28db4d2d4befb5eb14d205f09e4277929b795f1c0dd5ee79c9611dba4cb8f"), looks := false }, kinds := [], alts := [], laidByText := true, laidKinds := [.data, .pinned], laidTests := true, laidLooks := .later }
def FunctorPiecesCardSaid : Prop := Claim7.holds Tryd.pinned (.plain (OpenSpec.ofChange functorPiecesSpec)) functorPiecesCard

/-- THE TIED CARD OF 'fathomlaw04.FunctorKnown'. -/
def functorKnownCard : Claim7 := { stood := { row := functorKnownRow, standIns := [], harness := (true, "24b28db4d2d4befb5eb14d205f09e4277929b795f1c0dd5ee79c9611dba4cb8f"), looks := false }, kinds := [], alts := [], laidByText := true, laidKinds := [.data, .pinned], laidTests := true, laidLooks := .later }
def FunctorKnownCardSaid : Prop := Claim7.holds Tryd.pinned (.plain (OpenSpec.ofChange functorKnownSpec)) functorKnownCard

/-- THE SECOND FORM's CARD OF 'fathomlaw04.FunctorNumbers'. -/
def functorNumbersUptoCard : Claim7 := { stood := { row := functorNumbersUptoRow, standIns := [], harness := (true, "24b28db4d2d4befb5eb14d205f09e4277929b795f1c0dd5ee79c9611dba4cb8f"), looks := false }, kinds := [], alts := [], laidByText := true, laidKinds := [.data, .pinned], laidTests := true, laidLooks := .later }
def FunctorNumbersUptoCardSaid : Prop := Claim7.holds Tryd.pinned (.plain (OpenSpec.upto functorNumbersSpec)) functorNumbersUptoCard

/-- THE SECOND FORM's CARD OF 'fathomlaw04.FunctorParts'. -/
def functorPartsUptoCard : Claim7 := { stood := { row := functorPartsUptoRow, standIns := [], harness := (true, "24b28db4d2d4befb5eb14d205f09e4277929b795f1c0dd5ee79c9611dba4cb8f"), looks := false }, kinds := [], alts := [], laidByText := true, laidKinds := [.data, .pinned], laidTests := true, laidLooks := .later }
def FunctorPartsUptoCardSaid : Prop := Claim7.holds Tryd.pinned (.plain (OpenSpec.upto functorPartsSpec)) functorPartsUptoCard

/-- THE SECOND FORM's CARD OF 'fathomlaw04.FunctorLaws'. -/
def functorLawsUptoCard : Claim7 := { stood := { row := functorLawsUptoRow, standIns := [], harness := (true, "24b28db4d2d4befb5eb14d205f09e4277929b795f1c0dd5ee79c9611dba4cb8f"), looks := false }, kinds := [], alts := [], laidByText := true, laidKinds := [.data, .pinned], laidTests := true, laidLooks := .later }
def FunctorLawsUptoCardSaid : Prop := Claim7.holds Tryd.pinned (.plain (OpenSpec.upto functorLawsSpec)) functorLawsUptoCard

/-- THE SECOND FORM's CARD OF 'fathomlaw04.FunctorBack'. -/
def functorBackUptoCard : Claim7 := { stood := { row := functorBackUptoRow, standIns := [], harness := (true, "24b28db4d2d4befb5eb14d205f09e4277929b795f1c0dd5ee79c9611dba4cb8f"), looks := false }, kinds := [], alts := [], laidByText := true, laidKinds := [.data, .pinned], laidTests := true, laidLooks := .later }
def FunctorBackUptoCardSaid : Prop := Claim7.holds Tryd.pinned (.plain (OpenSpec.upto functorBackSpec)) functorBackUptoCard

/-- THE SECOND FORM's CARD OF 'fathomlaw04.FunctorTexts'. -/
def functorTextsUptoCard : Claim7 := { stood := { row := functorTextsUptoRow, standIns := [], harness := (true, "24b28db4d2d4befb5eb14d205f09e4277929b795f1c0dd5ee79c9611dba4cb8f"), looks := false }, kinds := [], alts := [], laidByText := true, laidKinds := [.data, .pinned], laidTests := true, laidLooks := .later }
def FunctorTextsUptoCardSaid : Prop := Claim7.holds Tryd.pinned (.plain (OpenSpec.upto functorTextsSpec)) functorTextsUptoCard

/-- THE SECOND FORM's CARD OF 'fathomlaw04.FunctorPieces'. -/
def functorPiecesUptoCard : Claim7 := { stood := { row := functorPiecesUptoRow, standIns := [], harness := (true, "24b28db4d2d4befb5eb14d205f09e4277929b795f1c0dd5ee79c9611dba4cb8f"), looks := false }, kinds := [], alts := [], laidByText := true, laidKinds := [.data, .pinned], laidTests := true, laidLooks := .later }
def FunctorPiecesUptoCardSaid : Prop := Claim7.holds Tryd.pinned (.plain (OpenSpec.upto functorPiecesSpec)) functorPiecesUptoCard

/-- THE SECOND FORM's CARD OF 'fathomlaw04.FunctorKnown'. -/
def functorKnownUptoCard : Claim7 := { stood := { row := functorKnownUptoRow, standIns := [], harness := (true, "24b28db4d2d4befb5eb14d205f09e4277929b795f1c0dd5ee79c9611dba4cb8f"), looks := false }, kinds := [], alts := [], laidByText := true, laidKinds := [.data, .pinned], laidTests := true, laidLooks := .later }
def FunctorKnownUptoCardSaid : Prop := Claim7.holds Tryd.pinned (.plain (OpenSpec.upto functorKnownSpec)) functorKnownUptoCard
end Rows
end Go.Proofs.YtnkaolpkdeffiaaDoor
