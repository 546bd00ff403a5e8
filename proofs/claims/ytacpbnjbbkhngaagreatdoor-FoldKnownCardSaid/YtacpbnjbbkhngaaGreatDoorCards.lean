/-
  DERIVED. GIVEN WITH THE SEED: THE CARDS: each row of YtacpbnjbbkhngaaGreatDoorRows.lean that lists a variable, with what it lists TIED to the program's text (the seventh form; the later family's looks); each row that meets fmt, with fmt's text TOLD by the authors' own Lean function (tested against real Go, not proved from fmt's source: count such statements apart). THE CARD IS WHAT COUNTS. Prove the row's statement (the work); the ties are given (YtacpbnjbbkhngaaGreatDoorTie.lean); close each card by the builder's one call (the guide's Derived/Test/ToyasCard.lean, 'card_holds'). Laid BY PROGRAM, IN A SANDBOX (cutbox-door.mjs). By AI agents, Wed Nov 11 2026. No macro, syntax, notation, axiom, sorry.
-/
import Derived.Test.YtacpbnjbbkhngaaGreatDoorRows
import GoSem.ClaimSeven
namespace Go.Proofs.YtacpbnjbbkhngaaGreatDoor
namespace Rows

/-- THE TIED CARD OF 'fathomlaw23.FoldKnown'. -/
def foldKnownCard : Claim7 := { stood := { row := foldKnownRow, standIns := [], harness := (true, "76f496a82cad1ecec9f7e39ed00cd91f6193255b76676b115c901e3a190d5b01"), looks := true }, kinds := [], alts := [], laidByText := true, laidKinds := [.data, .data, .data, .data, .sentinel, .sentinel, .pinned], laidTests := true, laidLooks := .later }
def FoldKnownCardSaid : Prop := Claim7.holds Tryz.pinned (.plain (OpenSpec.ofChange foldKnownSpec)) foldKnownCard

/-- THE SECOND FORM's CARD OF 'fathomlaw23.FoldKnown'. -/
def foldKnownUptoCard : Claim7 := { stood := { row := foldKnownUptoRow, standIns := [], harness := (true, "76f496a82cad1ecec9f7e39ed00cd91f6193255b76676b115c901e3a190d5b01"), looks := true }, kinds := [], alts := [], laidByText := true, laidKinds := [.data, .data, .data, .data, .sentinel, .sentinel, .pinned], laidTests := true, laidLooks := .later }
def FoldKnownUptoCardSaid : Prop := Claim7.holds Tryz.pinned (.plain (OpenSpec.upto foldKnownSpec)) foldKnownUptoCard
end Rows
end Go.Proofs.YtacpbnjbbkhngaaGreatDoor
