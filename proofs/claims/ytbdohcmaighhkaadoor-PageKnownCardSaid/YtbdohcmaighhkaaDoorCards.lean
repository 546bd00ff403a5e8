/-
  DERIVED. GIVEN WITH THE SEED: THE CARDS: each row of YtbdohcmaighhkaaDoorRows.lean that lists a variable, with what it lists TIED to the program's text (the seventh form; the later family's looks); each row that meets fmt, with fmt's text TOLD by the authors' own Lean function (tested against real Go, not proved from fmt's source: count such statements apart). THE CARD IS WHAT COUNTS. Prove the row's statement (the work); the ties are given (YtbdohcmaighhkaaDoorTie.lean); close each card by the builder's one call (the guide's Derived/Test/ToyasCard.lean, 'card_holds'). Laid BY PROGRAM, IN A SANDBOX (cutbox-door.mjs). By AI agents, Wed Nov 11 2026. No macro, syntax, notation, axiom, sorry.
-/
import Derived.Test.YtbdohcmaighhkaaDoorRows
import GoSem.ClaimSeven
namespace Go.Proofs.YtbdohcmaighhkaaDoor
namespace Rows

/-- THE TIED CARD OF 'fathomlaw02.PageSeals'. -/
def pageSealsCard : Claim7 := { stood := { row := pageSealsRow, standIns := [], harness := (true, "dcc9f0b59cec7b0e9b21a534c3ca8560ae1c23cf4d43fa2e51297352eb19e465"), looks := false }, kinds := [], alts := [], laidByText := true, laidKinds := [.data], laidTests := true, laidLooks := .later }
def PageSealsCardSaid : Prop := Claim7.holds Tryd.pinned (.plain (OpenSpec.ofChange pageSealsSpec)) pageSealsCard

/-- THE TIED CARD OF 'fathomlaw02.PageOpens'. -/
def pageOpensCard : Claim7 := { stood := { row := pageOpensRow, standIns := [], harness := (true, "dcc9f0b59cec7b0e9b21a534c3ca8560ae1c23cf4d43fa2e51297352eb19e465"), looks := false }, kinds := [], alts := [], laidByText := true, laidKinds := [.data], laidTests := true, laidLooks := .later }
def PageOpensCardSaid : Prop := Claim7.holds Tryd.pinned (.plain (OpenSpec.ofChange pageOpensSpec)) pageOpensCard

/-- THE TIED CARD OF 'fathomlaw02.PageBack'. -/
def pageBackCard : Claim7 := { stood := { row := pageBackRow, standIns := [], harness := (true, "dcc9f0b59cec7b0e9b21a534c3ca8560ae1c23cf4d43fa2e51297352eb19e465"), looks := false }, kinds := [], alts := [], laidByText := true, laidKinds := [.data], laidTests := true, laidLooks := .later }
def PageBackCardSaid : Prop := Claim7.holds Tryd.pinned (.plain (OpenSpec.ofChange pageBackSpec)) pageBackCard

/-- THE TIED CARD OF 'fathomlaw02.PageTorn'. -/
def pageTornCard : Claim7 := { stood := { row := pageTornRow, standIns := [], harness := (true, "dcc9f0b59cec7b0e9b21a534c3ca8560ae1c23cf4d43fa2e51297352eb19e465"), looks := false }, kinds := [], alts := [], laidByText := true, laidKinds := [.data], laidTests := true, laidLooks := .later }
def PageTornCardSaid : Prop := Claim7.holds Tryd.pinned (.plain (OpenSpec.ofChange pageTornSpec)) pageTornCard

/-- THE TIED CARD OF 'fathomlaw02.PageKnown'. -/
def pageKnownCard : Claim7 := { stood := { row := pageKnownRow, standIns := [], harness := (true, "dcc9f0b59cec7b0e9b21a534c3ca8560ae1c23cf4d43fa2e51297352eb19e465"), looks := false }, kinds := [], alts := [], laidByText := true, laidKinds := [.data], laidTests := true, laidLooks := .later }
def PageKnownCardSaid : Prop := Claim7.holds Tryd.pinned (.plain (OpenSpec.ofChange pageKnownSpec)) pageKnownCard

/-- THE SECOND FORM's CARD OF 'fathomlaw02.PageSeals'. -/
def pageSealsUptoCard : Claim7 := { stood := { row := pageSealsUptoRow, standIns := [], harness := (true, "dcc9f0b59cec7b0e9b21a534c3ca8560ae1c23cf4d43fa2e51297352eb19e465"), looks := false }, kinds := [], alts := [], laidByText := true, laidKinds := [.data], laidTests := true, laidLooks := .later }
def PageSealsUptoCardSaid : Prop := Claim7.holds Tryd.pinned (.plain (OpenSpec.upto pageSealsSpec)) pageSealsUptoCard

/-- THE SECOND FORM's CARD OF 'fathomlaw02.PageOpens'. -/
def pageOpensUptoCard : Claim7 := { stood := { row := pageOpensUptoRow, standIns := [], harness := (true, "dcc9f0b59cec7b0e9b21a534c3ca8560ae1c23cf4d43fa2e51297352eb19e465"), looks := false }, kinds := [], alts := [], laidByText := true, laidKinds := [.data], laidTests := true, laidLooks := .later }
def PageOpensUptoCardSaid : Prop := Claim7.holds Tryd.pinned (.plain (OpenSpec.upto pageOpensSpec)) pageOpensUptoCard

/-- THE SECOND FORM's CARD OF 'fathomlaw02.PageBack'. -/
def pageBackUptoCard : Claim7 := { stood := { row := pageBackUptoRow, standIns := [], harness := (true, "dcc9f0b59cec7b0e9b21a534c3ca8560ae1c23cf4d43fa2e51297352eb19e465"), looks := false }, kinds := [], alts := [], laidByText := true, laidKinds := [.data], laidTests := true, laidLooks := .later }
def PageBackUptoCardSaid : Prop := Claim7.holds Tryd.pinned (.plain (OpenSpec.upto pageBackSpec)) pageBackUptoCard

/-- THE SECOND FORM's CARD OF 'fathomlaw02.PageTorn'. -/
def pageTornUptoCard : Claim7 := { stood := { row := pageTornUptoRow, standIns := [], harness := (true, "dcc9f0b59cec7b0e9b21a534c3ca8560ae1c23cf4d43fa2e51297352eb19e465"), looks := false }, kinds := [], alts := [], laidByText := true, laidKinds := [.data], laidTests := true, laidLooks := .later }
def PageTornUptoCardSaid : Prop := Claim7.holds Tryd.pinned (.plain (OpenSpec.upto pageTornSpec)) pageTornUptoCard

/-- THE SECOND FORM's CARD OF 'fathomlaw02.PageKnown'. -/
def pageKnownUptoCard : Claim7 := { stood := { row := pageKnownUptoRow, standIns := [], harness := (true, "dcc9f0b59cec7b0e9b21a534c3ca8560ae1c23cf4d43fa2e51297352eb19e465"), looks := false }, kinds := [], alts := [], laidByText := true, laidKinds := [.data], laidTests := true, laidLooks := .later }
def PageKnownUptoCardSaid : Prop := Claim7.holds Tryd.pinned (.plain (OpenSpec.upto pageKnownSpec)) pageKnownUptoCard
end Rows
end Go.Proofs.YtbdohcmaighhkaaDoor
