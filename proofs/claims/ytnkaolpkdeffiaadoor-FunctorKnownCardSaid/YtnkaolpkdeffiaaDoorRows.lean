/-
  NARROWER THAN 'FOR EVERY INPUT', by the rows' own cells (each row's printed sentence says how): FunctorNumbers: laid · FunctorParts: laid · FunctorLaws: laid · FunctorBack: laid · FunctorTexts: laid · FunctorPieces: laid · FunctorKnown: laid.
  DERIVED. THE GIVEN ROWS OF THIS SEAT. 7 by the template 'for every input the law returns true; each argument reads behind the call as it read before'; 0 by the template 'total and deterministic' (their statements: YtnkaolpkdeffiaaDoorTotals.lean).
  GIVEN WITH THE SEED: the statements are not yours to turn. If you find one false, say at which input.
  Laid BY PROGRAM, IN A SANDBOX (cutbox-rows.mjs): the forced cells as the released guide's own fill.sh prints them over the translation 19c0e6f4e6732c0a… (all of the seat's roots in one cut). By AI agents, Wed Nov 11 2026. No macro, syntax, notation, axiom, sorry.
-/
import Derived.Test.YtnkaolpkdeffiaaDoorChecked
import GoSem.PinnedTables
import GoSem.Claim
import GoSem.ClaimJoined
import GoSem.ClaimMapViews
import Derived.JoinedTies
import Derived.KernelRfl
namespace Go.Proofs.YtnkaolpkdeffiaaDoor
/- THE CELL 'sum', in the pinned program and in every row, IS THE sha256 OF THE DUMP (.gsa) THAT YtnkaolpkdeffiaaDoorProg.lean LOADS. Nothing in Lean hashes anything: it is a label: what it is worth is what the hold of that sum in a sandbox is worth. -/
noncomputable def Tryd.pinned : Pinned := { name := "ytnkaolpkdeffiaadoor", sum := "19c0e6f4e6732c0a90082cc0f49326cc9a8d8a15747f7b5023fd1c64b9fb139c", checked := Tryd.checked }
namespace Rows
def none {H : Type} : Left H := { results := [], args := [] }

/- WHAT THE LISTED PACKAGE-LEVEL VARIABLES READ AS WHEN THE CALL BEGINS. Each datum BY PROGRAM (the guide's laid-datum.mjs) off the statement by which the dump's own 'gosem.cut.vars' lays the variable. In a bare row this is a premise. The card (YtnkaolpkdeffiaaDoorCards.lean) ties it to the program's text. -/
def laid_unicode_utf8_acceptRanges {H : Type} : DataW H := .agg [.agg [.lit (.int .u8 128), .lit (.int .u8 191)], .agg [.lit (.int .u8 160), .lit (.int .u8 191)], .agg [.lit (.int .u8 128), .lit (.int .u8 159)], .agg [.lit (.int .u8 144), .lit (.int .u8 191)], .agg [.lit (.int .u8 128), .lit (.int .u8 143)], .agg [.lit (.int .u8 0), .lit (.int .u8 0)], .agg [.lit (.int .u8 0), .lit (.int .u8 0)], .agg [.lit (.int .u8 0), .lit (.int .u8 0)], .agg [.lit (.int .u8 0), .lit (.int .u8 0)], .agg [.lit (.int .u8 0), .lit (.int .u8 0)], .agg [.lit (.int .u8 0), .lit (.int .u8 0)], .agg [.lit (.int .u8 0), .lit (.int .u8 0)], .agg [.lit (.int .u8 0), .lit (.int .u8 0)], .agg [.lit (.int .u8 0), .lit (.int .u8 0)], .agg [.lit (.int .u8 0), .lit (.int .u8 0)], .agg [.lit (.int .u8 0), .lit (.int .u8 0)]]
/-- One of Go's own tables, pinned by name: the form's constant. -/
def laid_unicode_utf8_first : DataW Unit := Go.Pinned.utf8First

/-- 'fathomlaw04.FunctorNumbers': WHATEVER THE INPUT: true; the input reads as it did. -/
def functorNumbersSpec : ChangeSpec := { name := "functorNumbers", fn := fun _ => fun
  | [d1, d2, d3] => { results := [.lit (.bool true)], args := [d1, d2, d3] }
  | _ => none }
def functorNumbersRow : OpenClaim := { program := "ytnkaolpkdeffiaadoor", sum := "19c0e6f4e6732c0a90082cc0f49326cc9a8d8a15747f7b5023fd1c64b9fb139c", func := "fathom/fathomlaw04.FunctorNumbers", spec := "functorNumbers", named := ["unicode/utf8.first", "unicode/utf8.acceptRanges"], apart := false, laid := [("unicode/utf8.acceptRanges", laid_unicode_utf8_acceptRanges), ("unicode/utf8.first", laid_unicode_utf8_first)] }
def FunctorNumbersSaid : Prop := functorNumbersRow.holds Tryd.pinned (OpenSpec.ofChange functorNumbersSpec)

/-- ITS FALSE NEIGHBOUR: 'it returns false'. Refute it at one input. -/
def functorNumbersWrong : ChangeSpec := { name := "functorNumbers", fn := fun _ => fun
  | [d1, d2, d3] => { results := [.lit (.bool false)], args := [d1, d2, d3] }
  | _ => none }
def FunctorNumbersWrongFalsely : Prop := functorNumbersRow.holds Tryd.pinned (OpenSpec.ofChange functorNumbersWrong)

/-- 'fathomlaw04.FunctorParts': WHATEVER THE INPUT: true; the input reads as it did. -/
def functorPartsSpec : ChangeSpec := { name := "functorParts", fn := fun _ => fun
  | [d1, d2] => { results := [.lit (.bool true)], args := [d1, d2] }
  | _ => none }
def functorPartsRow : OpenClaim := { program := "ytnkaolpkdeffiaadoor", sum := "19c0e6f4e6732c0a90082cc0f49326cc9a8d8a15747f7b5023fd1c64b9fb139c", func := "fathom/fathomlaw04.FunctorParts", spec := "functorParts", named := ["unicode/utf8.first", "unicode/utf8.acceptRanges"], apart := false, laid := [("unicode/utf8.acceptRanges", laid_unicode_utf8_acceptRanges), ("unicode/utf8.first", laid_unicode_utf8_first)] }
def FunctorPartsSaid : Prop := functorPartsRow.holds Tryd.pinned (OpenSpec.ofChange functorPartsSpec)

/-- ITS FALSE NEIGHBOUR: 'it returns false'. Refute it at one input. -/
def functorPartsWrong : ChangeSpec := { name := "functorParts", fn := fun _ => fun
  | [d1, d2] => { results := [.lit (.bool false)], args := [d1, d2] }
  | _ => none }
def FunctorPartsWrongFalsely : Prop := functorPartsRow.holds Tryd.pinned (OpenSpec.ofChange functorPartsWrong)

/-- 'fathomlaw04.FunctorLaws': WHATEVER THE INPUT: true; the input reads as it did. -/
def functorLawsSpec : ChangeSpec := { name := "functorLaws", fn := fun _ => fun
  | [d1, d2, d3] => { results := [.lit (.bool true)], args := [d1, d2, d3] }
  | _ => none }
def functorLawsRow : OpenClaim := { program := "ytnkaolpkdeffiaadoor", sum := "19c0e6f4e6732c0a90082cc0f49326cc9a8d8a15747f7b5023fd1c64b9fb139c", func := "fathom/fathomlaw04.FunctorLaws", spec := "functorLaws", named := ["unicode/utf8.first", "unicode/utf8.acceptRanges"], apart := false, laid := [("unicode/utf8.acceptRanges", laid_unicode_utf8_acceptRanges), ("unicode/utf8.first", laid_unicode_utf8_first)] }
def FunctorLawsSaid : Prop := functorLawsRow.holds Tryd.pinned (OpenSpec.ofChange functorLawsSpec)

/-- ITS FALSE NEIGHBOUR: 'it returns false'. Refute it at one input. -/
def functorLawsWrong : ChangeSpec := { name := "functorLaws", fn := fun _ => fun
  | [d1, d2, d3] => { results := [.lit (.bool false)], args := [d1, d2, d3] }
  | _ => none }
def FunctorLawsWrongFalsely : Prop := functorLawsRow.holds Tryd.pinned (OpenSpec.ofChange functorLawsWrong)

/-- 'fathomlaw04.FunctorBack': WHATEVER THE INPUT: true; the input reads as it did. -/
def functorBackSpec : ChangeSpec := { name := "functorBack", fn := fun _ => fun
  | [d1, d2] => { results := [.lit (.bool true)], args := [d1, d2] }
  | _ => none }
def functorBackRow : OpenClaim := { program := "ytnkaolpkdeffiaadoor", sum := "19c0e6f4e6732c0a90082cc0f49326cc9a8d8a15747f7b5023fd1c64b9fb139c", func := "fathom/fathomlaw04.FunctorBack", spec := "functorBack", named := ["unicode/utf8.first", "unicode/utf8.acceptRanges"], apart := false, laid := [("unicode/utf8.acceptRanges", laid_unicode_utf8_acceptRanges), ("unicode/utf8.first", laid_unicode_utf8_first)] }
def FunctorBackSaid : Prop := functorBackRow.holds Tryd.pinned (OpenSpec.ofChange functorBackSpec)

/-- ITS FALSE NEIGHBOUR: 'it returns false'. Refute it at one input. -/
def functorBackWrong : ChangeSpec := { name := "functorBack", fn := fun _ => fun
  | [d1, d2] => { results := [.lit (.bool false)], args := [d1, d2] }
  | _ => none }
def FunctorBackWrongFalsely : Prop := functorBackRow.holds Tryd.pinned (OpenSpec.ofChange functorBackWrong)

/-- 'fathomlaw04.FunctorTexts': WHATEVER THE INPUT: true; the input reads as it did. -/
def functorTextsSpec : ChangeSpec := { name := "functorTexts", fn := fun _ => fun
  | [d1, d2, d3, d4] => { results := [.lit (.bool true)], args := [d1, d2, d3, d4] }
  | _ => none }
def functorTextsRow : OpenClaim := { program := "ytnkaolpkdeffiaadoor", sum := "19c0e6f4e6732c0a90082cc0f49326cc9a8d8a15747f7b5023fd1c64b9fb139c", func := "fathom/fathomlaw04.FunctorTexts", spec := "functorTexts", recurses := true, named := ["unicode/utf8.first", "unicode/utf8.acceptRanges"], apart := false, laid := [("unicode/utf8.acceptRanges", laid_unicode_utf8_acceptRanges), ("unicode/utf8.first", laid_unicode_utf8_first)] }
def FunctorTextsSaid : Prop := functorTextsRow.holds Tryd.pinned (OpenSpec.ofChange functorTextsSpec)

/-- ITS FALSE NEIGHBOUR: 'it returns false'. Refute it at one input. -/
def functorTextsWrong : ChangeSpec := { name := "functorTexts", fn := fun _ => fun
  | [d1, d2, d3, d4] => { results := [.lit (.bool false)], args := [d1, d2, d3, d4] }
  | _ => none }
def FunctorTextsWrongFalsely : Prop := functorTextsRow.holds Tryd.pinned (OpenSpec.ofChange functorTextsWrong)

/-- 'fathomlaw04.FunctorPieces': WHATEVER THE INPUT: true; the input reads as it did. -/
def functorPiecesSpec : ChangeSpec := { name := "functorPieces", fn := fun _ => fun
  | [d1, d2] => { results := [.lit (.bool true)], args := [d1, d2] }
  | _ => none }
def functorPiecesRow : OpenClaim := { program := "ytnkaolpkdeffiaadoor", sum := "19c0e6f4e6732c0a90082cc0f49326cc9a8d8a15747f7b5023fd1c64b9fb139c", func := "fathom/fathomlaw04.FunctorPieces", spec := "functorPieces", named := ["unicode/utf8.first", "unicode/utf8.acceptRanges"], apart := false, laid := [("unicode/utf8.acceptRanges", laid_unicode_utf8_acceptRanges), ("unicode/utf8.first", laid_unicode_utf8_first)] }
def FunctorPiecesSaid : Prop := functorPiecesRow.holds Tryd.pinned (OpenSpec.ofChange functorPiecesSpec)

/-- ITS FALSE NEIGHBOUR: 'it returns false'. Refute it at one input. -/
def functorPiecesWrong : ChangeSpec := { name := "functorPieces", fn := fun _ => fun
  | [d1, d2] => { results := [.lit (.bool false)], args := [d1, d2] }
  | _ => none }
def FunctorPiecesWrongFalsely : Prop := functorPiecesRow.holds Tryd.pinned (OpenSpec.ofChange functorPiecesWrong)

/-- 'fathomlaw04.FunctorKnown': WHATEVER THE INPUT: true; the input reads as it did. -/
def functorKnownSpec : ChangeSpec := { name := "functorKnown", fn := fun _ => fun
  | [] => { results := [.lit (.bool true)], args := [] }
  | _ => none }
def functorKnownRow : OpenClaim := { program := "ytnkaolpkdeffiaadoor", sum := "19c0e6f4e6732c0a90082cc0f49326cc9a8d8a15747f7b5023fd1c64b9fb139c", func := "fathom/fathomlaw04.FunctorKnown", spec := "functorKnown", recurses := true, named := ["unicode/utf8.first", "unicode/utf8.acceptRanges"], apart := false, laid := [("unicode/utf8.acceptRanges", laid_unicode_utf8_acceptRanges), ("unicode/utf8.first", laid_unicode_utf8_first)] }
def FunctorKnownSaid : Prop := functorKnownRow.holds Tryd.pinned (OpenSpec.ofChange functorKnownSpec)

/-- ITS FALSE NEIGHBOUR: 'it returns false'. Refute it at one input. -/
def functorKnownWrong : ChangeSpec := { name := "functorKnown", fn := fun _ => fun
  | [] => { results := [.lit (.bool false)], args := [] }
  | _ => none }
def FunctorKnownWrongFalsely : Prop := functorKnownRow.holds Tryd.pinned (OpenSpec.ofChange functorKnownWrong)

/- THE SECOND FORM. 'bulk': how many values and letters a reading holds, each counted each time it is reached (what is shared counts as often as it is met; a slice's spare places count too). A statement '..UptoSaid' is the law's where the arguments, and the package variables that the reading takes, are together of bulk at most 1048576: NARROWER than '..Said'. Prove '..Said' where nothing that the law and all that it calls make is longer than what came in: it says more and counts as full. Else prove '..UptoSaid'. A law counts once. -/
mutual
def uptoBulk {H : Type} : DataW H → Nat
  | .lit (.string bytes) => bytes.length + 1
  | .lit _ => 1
  | .nil => 1
  | .ptr d => uptoBulk d + 1
  | .slice elems spare => uptoBulkAll elems + uptoBulkAll spare + 1
  | .agg parts => uptoBulkAll parts + 1
  | .iface _ d => uptoBulk d + 1
  | .map entries => uptoBulkEntries entries + 1
  | .held _ => 1
def uptoBulkAll {H : Type} : List (DataW H) → Nat
  | [] => 0
  | d :: r => uptoBulk d + uptoBulkAll r
def uptoBulkEntries {H : Type} : List (Lit × DataW H) → Nat
  | [] => 0
  | x :: r => uptoBulkEntry x + uptoBulkEntries r
def uptoBulkEntry {H : Type} : Lit × DataW H → Nat
  | (.string bytes, d) => bytes.length + uptoBulk d + 1
  | (_, d) => uptoBulk d + 1
 end
def uptoSmall : (H : Type) → List (DataW H) → Bool := fun _ ds => decide (uptoBulkAll ds ≤ 1048576)
def OpenSpec.upto (s : _root_.Go.ChangeSpec) : _root_.Go.OpenSpec := { _root_.Go.OpenSpec.ofChange s with cond := some uptoSmall }

/-- 'fathomlaw04.FunctorNumbers', WHERE WHAT IT READS IS OF BULK AT MOST 1048576: true; the input reads as it did. -/
def functorNumbersUptoRow : OpenClaim := { program := "ytnkaolpkdeffiaadoor", sum := "19c0e6f4e6732c0a90082cc0f49326cc9a8d8a15747f7b5023fd1c64b9fb139c", func := "fathom/fathomlaw04.FunctorNumbers", spec := "functorNumbers", named := ["unicode/utf8.first", "unicode/utf8.acceptRanges"], apart := false, laid := [("unicode/utf8.acceptRanges", laid_unicode_utf8_acceptRanges), ("unicode/utf8.first", laid_unicode_utf8_first)], narrowed := true }
def FunctorNumbersUptoSaid : Prop := functorNumbersUptoRow.holds Tryd.pinned (OpenSpec.upto functorNumbersSpec)

/-- 'fathomlaw04.FunctorParts', WHERE WHAT IT READS IS OF BULK AT MOST 1048576: true; the input reads as it did. -/
def functorPartsUptoRow : OpenClaim := { program := "ytnkaolpkdeffiaadoor", sum := "19c0e6f4e6732c0a90082cc0f49326cc9a8d8a15747f7b5023fd1c64b9fb139c", func := "fathom/fathomlaw04.FunctorParts", spec := "functorParts", named := ["unicode/utf8.first", "unicode/utf8.acceptRanges"], apart := false, laid := [("unicode/utf8.acceptRanges", laid_unicode_utf8_acceptRanges), ("unicode/utf8.first", laid_unicode_utf8_first)], narrowed := true }
def FunctorPartsUptoSaid : Prop := functorPartsUptoRow.holds Tryd.pinned (OpenSpec.upto functorPartsSpec)

/-- 'fathomlaw04.FunctorLaws', WHERE WHAT IT READS IS OF BULK AT MOST 1048576: true; the input reads as it did. -/
def functorLawsUptoRow : OpenClaim := { program := "ytnkaolpkdeffiaadoor", sum := "19c0e6f4e6732c0a90082cc0f49326cc9a8d8a15747f7b5023fd1c64b9fb139c", func := "fathom/fathomlaw04.FunctorLaws", spec := "functorLaws", named := ["unicode/utf8.first", "unicode/utf8.acceptRanges"], apart := false, laid := [("unicode/utf8.acceptRanges", laid_unicode_utf8_acceptRanges), ("unicode/utf8.first", laid_unicode_utf8_first)], narrowed := true }
def FunctorLawsUptoSaid : Prop := functorLawsUptoRow.holds Tryd.pinned (OpenSpec.upto functorLawsSpec)

/-- 'fathomlaw04.FunctorBack', WHERE WHAT IT READS IS OF BULK AT MOST 1048576: true; the input reads as it did. -/
def functorBackUptoRow : OpenClaim := { program := "ytnkaolpkdeffiaadoor", sum := "19c0e6f4e6732c0a90082cc0f49326cc9a8d8a15747f7b5023fd1c64b9fb139c", func := "fathom/fathomlaw04.FunctorBack", spec := "functorBack", named := ["unicode/utf8.first", "unicode/utf8.acceptRanges"], apart := false, laid := [("unicode/utf8.acceptRanges", laid_unicode_utf8_acceptRanges), ("unicode/utf8.first", laid_unicode_utf8_first)], narrowed := true }
def FunctorBackUptoSaid : Prop := functorBackUptoRow.holds Tryd.pinned (OpenSpec.upto functorBackSpec)

/-- 'fathomlaw04.FunctorTexts', WHERE WHAT IT READS IS OF BULK AT MOST 1048576: true; the input reads as it did. -/
def functorTextsUptoRow : OpenClaim := { program := "ytnkaolpkdeffiaadoor", sum := "19c0e6f4e6732c0a90082cc0f49326cc9a8d8a15747f7b5023fd1c64b9fb139c", func := "fathom/fathomlaw04.FunctorTexts", spec := "functorTexts", recurses := true, named := ["unicode/utf8.first", "unicode/utf8.acceptRanges"], apart := false, laid := [("unicode/utf8.acceptRanges", laid_unicode_utf8_acceptRanges), ("unicode/utf8.first", laid_unicode_utf8_first)], narrowed := true }
def FunctorTextsUptoSaid : Prop := functorTextsUptoRow.holds Tryd.pinned (OpenSpec.upto functorTextsSpec)

/-- 'fathomlaw04.FunctorPieces', WHERE WHAT IT READS IS OF BULK AT MOST 1048576: true; the input reads as it did. -/
def functorPiecesUptoRow : OpenClaim := { program := "ytnkaolpkdeffiaadoor", sum := "19c0e6f4e6732c0a90082cc0f49326cc9a8d8a15747f7b5023fd1c64b9fb139c", func := "fathom/fathomlaw04.FunctorPieces", spec := "functorPieces", named := ["unicode/utf8.first", "unicode/utf8.acceptRanges"], apart := false, laid := [("unicode/utf8.acceptRanges", laid_unicode_utf8_acceptRanges), ("unicode/utf8.first", laid_unicode_utf8_first)], narrowed := true }
def FunctorPiecesUptoSaid : Prop := functorPiecesUptoRow.holds Tryd.pinned (OpenSpec.upto functorPiecesSpec)

/-- 'fathomlaw04.FunctorKnown', WHERE WHAT IT READS IS OF BULK AT MOST 1048576: true; the input reads as it did. -/
def functorKnownUptoRow : OpenClaim := { program := "ytnkaolpkdeffiaadoor", sum := "19c0e6f4e6732c0a90082cc0f49326cc9a8d8a15747f7b5023fd1c64b9fb139c", func := "fathom/fathomlaw04.FunctorKnown", spec := "functorKnown", recurses := true, named := ["unicode/utf8.first", "unicode/utf8.acceptRanges"], apart := false, laid := [("unicode/utf8.acceptRanges", laid_unicode_utf8_acceptRanges), ("unicode/utf8.first", laid_unicode_utf8_first)], narrowed := true }
def FunctorKnownUptoSaid : Prop := functorKnownUptoRow.holds Tryd.pinned (OpenSpec.upto functorKnownSpec)

end Rows
end Go.Proofs.YtnkaolpkdeffiaaDoor
