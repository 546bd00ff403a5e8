/-
  DERIVED. GIVEN WITH THE SEED: THE CARDS: each row of YtobbabhldblljaaGreatDoorRows.lean that lists a variable, with what it lists TIED to the program's text (the seventh form; the later family's looks); each row that meets fmt, with fmt's text TOLD by the authors' own Lean function (tested against real Go, not proved from fmt's source: count such statements apart). THE CARD IS WHAT COUNTS. Prove the row's statement (the work); the ties are given (YtobbabhldblljaaGreatDoorTie.lean); close each card by the builder's one call (the guide's Derived/Test/ToyasCard.lean, 'card_holds'). Laid BY PROGRAM, IN A SANDBOX (cutbox-door.mjs). By AI agents, Wed Nov 11 2026. No macro, syntax, notation, axiom, sorry.
-/
import Derived.Test.YtobbabhldblljaaGreatDoorRows
import GoSem.ClaimSeven
namespace Go.Proofs.YtobbabhldblljaaGreatDoor
namespace Rows

/-- THE TIED CARD OF 'fathomlaw24.InlineKnown'. -/
def inlineKnownCard : Claim7 := { stood := { row := inlineKnownRow, standIns := [], harness := (true, "bdae59e15b4f6dbd75d27d2523c85daac687e08c281a92002ab5f10190323c2c"), looks := true }, kinds := [], alts := [], laidByText := true, laidKinds := [.data, .data, .data, .data, .sentinel, .sentinel, .pinned], laidTests := true, laidLooks := .later }
def InlineKnownCardSaid : Prop := Claim7.holds Tryz.pinned (.plain (OpenSpec.ofChange inlineKnownSpec)) inlineKnownCard

/-- THE SECOND FORM's CARD OF 'fathomlaw24.InlineKnown'. -/
def inlineKnownUptoCard : Claim7 := { stood := { row := inlineKnownUptoRow, standIns := [], harness := (true, "bdae59e15b4f6dbd75d27d2523c85daac687e08c281a92002ab5f10190323c2c"), looks := true }, kinds := [], alts := [], laidByText := true, laidKinds := [.data, .data, .data, .data, .sentinel, .sentinel, .pinned], laidTests := true, laidLooks := .later }
def InlineKnownUptoCardSaid : Prop := Claim7.holds Tryz.pinned (.plain (OpenSpec.upto inlineKnownSpec)) inlineKnownUptoCard
end Rows
end Go.Proofs.YtobbabhldblljaaGreatDoor
