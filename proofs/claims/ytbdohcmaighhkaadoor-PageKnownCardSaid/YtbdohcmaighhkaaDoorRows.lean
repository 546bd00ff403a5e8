/-
  NARROWER THAN 'FOR EVERY INPUT', by the rows' own cells (each row's printed sentence says how): PageSeals: laid · PageOpens: laid · PageBack: laid · PageTorn: laid · PageKnown: laid.
  DERIVED. THE GIVEN ROWS OF THIS SEAT. 5 by the template 'for every input the law returns true; each argument reads behind the call as it read before'; 0 by the template 'total and deterministic' (their statements: YtbdohcmaighhkaaDoorTotals.lean).
  GIVEN WITH THE SEED: the statements are not yours to turn. If you find one false, say at which input.
  Laid BY PROGRAM, IN A SANDBOX (cutbox-rows.mjs): the forced cells as the released guide's own fill.sh prints them over the translation 0a87d664fdef01bb… (all of the seat's roots in one cut). By AI agents, Wed Nov 11 2026. No macro, syntax, notation, axiom, sorry.
-/
import Derived.Test.YtbdohcmaighhkaaDoorChecked
import GoSem.Claim
import GoSem.ClaimJoined
import GoSem.ClaimMapViews
import Derived.JoinedTies
import Derived.KernelRfl
namespace Go.Proofs.YtbdohcmaighhkaaDoor
/- THE CELL 'sum', in the pinned program and in every row, IS THE sha256 OF THE DUMP (.gsa) THAT YtbdohcmaighhkaaDoorProg.lean LOADS. Nothing in Lean hashes anything: it is a label: what it is worth is what the hold of that sum in a sandbox is worth. -/
noncomputable def Tryd.pinned : Pinned := { name := "ytbdohcmaighhkaadoor", sum := "0a87d664fdef01bb051d7332bb45c330919cb9b6e528bb1a91aa2ba12a5837b1", checked := Tryd.checked }
namespace Rows
def none {H : Type} : Left H := { results := [], args := [] }

/- WHAT THE LISTED PACKAGE-LEVEL VARIABLES READ AS WHEN THE CALL BEGINS. Each datum BY PROGRAM (the guide's laid-datum.mjs) off the statement by which the dump's own 'gosem.cut.vars' lays the variable. In a bare row this is a premise. The card (YtbdohcmaighhkaaDoorCards.lean) ties it to the program's text. -/
def laid_fathom_page_steps {H : Type} : DataW H := .agg [.lit (.int .u32 0), .lit (.int .u32 498536548), .lit (.int .u32 997073096), .lit (.int .u32 651767980), .lit (.int .u32 1994146192), .lit (.int .u32 1802195444), .lit (.int .u32 1303535960), .lit (.int .u32 1342533948), .lit (.int .u32 3988292384), .lit (.int .u32 4027552580), .lit (.int .u32 3604390888), .lit (.int .u32 3412177804), .lit (.int .u32 2607071920), .lit (.int .u32 2262029012), .lit (.int .u32 2685067896), .lit (.int .u32 3183342108)]

/-- 'fathomlaw02.PageSeals': WHATEVER THE INPUT: true; the input reads as it did. -/
def pageSealsSpec : ChangeSpec := { name := "pageSeals", fn := fun _ => fun
  | [d1, d2] => { results := [.lit (.bool true)], args := [d1, d2] }
  | _ => none }
def pageSealsRow : OpenClaim := { program := "ytbdohcmaighhkaadoor", sum := "0a87d664fdef01bb051d7332bb45c330919cb9b6e528bb1a91aa2ba12a5837b1", func := "fathom/fathomlaw02.PageSeals", spec := "pageSeals", unfollowed := true, recurses := true, named := ["fathom/page.steps"], apart := false, laid := [("fathom/page.steps", laid_fathom_page_steps)] }
def PageSealsSaid : Prop := pageSealsRow.holds Tryd.pinned (OpenSpec.ofChange pageSealsSpec)

/-- ITS FALSE NEIGHBOUR: 'it returns false'. Refute it at one input. -/
def pageSealsWrong : ChangeSpec := { name := "pageSeals", fn := fun _ => fun
  | [d1, d2] => { results := [.lit (.bool false)], args := [d1, d2] }
  | _ => none }
def PageSealsWrongFalsely : Prop := pageSealsRow.holds Tryd.pinned (OpenSpec.ofChange pageSealsWrong)

/-- 'fathomlaw02.PageOpens': WHATEVER THE INPUT: true; the input reads as it did. -/
def pageOpensSpec : ChangeSpec := { name := "pageOpens", fn := fun _ => fun
  | [d] => { results := [.lit (.bool true)], args := [d] }
  | _ => none }
def pageOpensRow : OpenClaim := { program := "ytbdohcmaighhkaadoor", sum := "0a87d664fdef01bb051d7332bb45c330919cb9b6e528bb1a91aa2ba12a5837b1", func := "fathom/fathomlaw02.PageOpens", spec := "pageOpens", unfollowed := true, recurses := true, named := ["fathom/page.steps"], apart := false, laid := [("fathom/page.steps", laid_fathom_page_steps)] }
def PageOpensSaid : Prop := pageOpensRow.holds Tryd.pinned (OpenSpec.ofChange pageOpensSpec)

/-- ITS FALSE NEIGHBOUR: 'it returns false'. Refute it at one input. -/
def pageOpensWrong : ChangeSpec := { name := "pageOpens", fn := fun _ => fun
  | [d] => { results := [.lit (.bool false)], args := [d] }
  | _ => none }
def PageOpensWrongFalsely : Prop := pageOpensRow.holds Tryd.pinned (OpenSpec.ofChange pageOpensWrong)

/-- 'fathomlaw02.PageBack': WHATEVER THE INPUT: true; the input reads as it did. -/
def pageBackSpec : ChangeSpec := { name := "pageBack", fn := fun _ => fun
  | [d1, d2] => { results := [.lit (.bool true)], args := [d1, d2] }
  | _ => none }
def pageBackRow : OpenClaim := { program := "ytbdohcmaighhkaadoor", sum := "0a87d664fdef01bb051d7332bb45c330919cb9b6e528bb1a91aa2ba12a5837b1", func := "fathom/fathomlaw02.PageBack", spec := "pageBack", unfollowed := true, recurses := true, named := ["fathom/page.steps"], apart := false, laid := [("fathom/page.steps", laid_fathom_page_steps)] }
def PageBackSaid : Prop := pageBackRow.holds Tryd.pinned (OpenSpec.ofChange pageBackSpec)

/-- ITS FALSE NEIGHBOUR: 'it returns false'. Refute it at one input. -/
def pageBackWrong : ChangeSpec := { name := "pageBack", fn := fun _ => fun
  | [d1, d2] => { results := [.lit (.bool false)], args := [d1, d2] }
  | _ => none }
def PageBackWrongFalsely : Prop := pageBackRow.holds Tryd.pinned (OpenSpec.ofChange pageBackWrong)

/-- 'fathomlaw02.PageTorn': WHATEVER THE INPUT: true; the input reads as it did. -/
def pageTornSpec : ChangeSpec := { name := "pageTorn", fn := fun _ => fun
  | [d1, d2, d3, d4] => { results := [.lit (.bool true)], args := [d1, d2, d3, d4] }
  | _ => none }
def pageTornRow : OpenClaim := { program := "ytbdohcmaighhkaadoor", sum := "0a87d664fdef01bb051d7332bb45c330919cb9b6e528bb1a91aa2ba12a5837b1", func := "fathom/fathomlaw02.PageTorn", spec := "pageTorn", unfollowed := true, recurses := true, named := ["fathom/page.steps"], apart := false, laid := [("fathom/page.steps", laid_fathom_page_steps)] }
def PageTornSaid : Prop := pageTornRow.holds Tryd.pinned (OpenSpec.ofChange pageTornSpec)

/-- ITS FALSE NEIGHBOUR: 'it returns false'. Refute it at one input. -/
def pageTornWrong : ChangeSpec := { name := "pageTorn", fn := fun _ => fun
  | [d1, d2, d3, d4] => { results := [.lit (.bool false)], args := [d1, d2, d3, d4] }
  | _ => none }
def PageTornWrongFalsely : Prop := pageTornRow.holds Tryd.pinned (OpenSpec.ofChange pageTornWrong)

/-- 'fathomlaw02.PageKnown': WHATEVER THE INPUT: true; the input reads as it did. -/
def pageKnownSpec : ChangeSpec := { name := "pageKnown", fn := fun _ => fun
  | [] => { results := [.lit (.bool true)], args := [] }
  | _ => none }
def pageKnownRow : OpenClaim := { program := "ytbdohcmaighhkaadoor", sum := "0a87d664fdef01bb051d7332bb45c330919cb9b6e528bb1a91aa2ba12a5837b1", func := "fathom/fathomlaw02.PageKnown", spec := "pageKnown", unfollowed := true, recurses := true, named := ["fathom/page.steps"], apart := false, laid := [("fathom/page.steps", laid_fathom_page_steps)] }
def PageKnownSaid : Prop := pageKnownRow.holds Tryd.pinned (OpenSpec.ofChange pageKnownSpec)

/-- ITS FALSE NEIGHBOUR: 'it returns false'. Refute it at one input. -/
def pageKnownWrong : ChangeSpec := { name := "pageKnown", fn := fun _ => fun
  | [] => { results := [.lit (.bool false)], args := [] }
  | _ => none }
def PageKnownWrongFalsely : Prop := pageKnownRow.holds Tryd.pinned (OpenSpec.ofChange pageKnownWrong)

/- THE SECOND FORM. 'bulk': how many values and letters a reading holds, each counted each time it is reached (what is shared counts as often as it is met; a slice's spare places count too). A statement '..UptoSaid' is the law's where the arguments, and the package variables that the reading takes, are together of bulk at most 1048576: NARROWER than '..Said'. Prove '..Said' where nothing that the law and all that it calls make is longer than what came in: it says more and counts as full. Else prove '..UptoSaid'. A law counts once. -/
mutual
def uptoBulk {H : Type} : DataW H → Nat
  | .lit (.string bytes) => bytes.length + 1
  | .lit _ => 1
  | .nil => 1
  | .ptr d => uptoBulk d + 1
  | .slice elems spare => uptoBulkAll elems + uptoBulkAll spare + 1
  | .agg parts => uptoBulkAll parts + 1
  | .iface _ d => uptoBulk d + 1
  | .map entries => uptoBulkEntries entries + 1
  | .held _ => 1
def uptoBulkAll {H : Type} : List (DataW H) → Nat
  | [] => 0
  | d :: r => uptoBulk d + uptoBulkAll r
def uptoBulkEntries {H : Type} : List (Lit × DataW H) → Nat
  | [] => 0
  | x :: r => uptoBulkEntry x + uptoBulkEntries r
def uptoBulkEntry {H : Type} : Lit × DataW H → Nat
  | (.string bytes, d) => bytes.length + uptoBulk d + 1
  | (_, d) => uptoBulk d + 1
 end
def uptoSmall : (H : Type) → List (DataW H) → Bool := fun _ ds => decide (uptoBulkAll ds ≤ 1048576)
def OpenSpec.upto (s : _root_.Go.ChangeSpec) : _root_.Go.OpenSpec := { _root_.Go.OpenSpec.ofChange s with cond := some uptoSmall }

/-- 'fathomlaw02.PageSeals', WHERE WHAT IT READS IS OF BULK AT MOST 1048576: true; the input reads as it did. -/
def pageSealsUptoRow : OpenClaim := { program := "ytbdohcmaighhkaadoor", sum := "0a87d664fdef01bb051d7332bb45c330919cb9b6e528bb1a91aa2ba12a5837b1", func := "fathom/fathomlaw02.PageSeals", spec := "pageSeals", unfollowed := true, recurses := true, named := ["fathom/page.steps"], apart := false, laid := [("fathom/page.steps", laid_fathom_page_steps)], narrowed := true }
def PageSealsUptoSaid : Prop := pageSealsUptoRow.holds Tryd.pinned (OpenSpec.upto pageSealsSpec)

/-- 'fathomlaw02.PageOpens', WHERE WHAT IT READS IS OF BULK AT MOST 1048576: true; the input reads as it did. -/
def pageOpensUptoRow : OpenClaim := { program := "ytbdohcmaighhkaadoor", sum := "0a87d664fdef01bb051d7332bb45c330919cb9b6e528bb1a91aa2ba12a5837b1", func := "fathom/fathomlaw02.PageOpens", spec := "pageOpens", unfollowed := true, recurses := true, named := ["fathom/page.steps"], apart := false, laid := [("fathom/page.steps", laid_fathom_page_steps)], narrowed := true }
def PageOpensUptoSaid : Prop := pageOpensUptoRow.holds Tryd.pinned (OpenSpec.upto pageOpensSpec)

/-- 'fathomlaw02.PageBack', WHERE WHAT IT READS IS OF BULK AT MOST 1048576: true; the input reads as it did. -/
def pageBackUptoRow : OpenClaim := { program := "ytbdohcmaighhkaadoor", sum := "0a87d664fdef01bb051d7332bb45c330919cb9b6e528bb1a91aa2ba12a5837b1", func := "fathom/fathomlaw02.PageBack", spec := "pageBack", unfollowed := true, recurses := true, named := ["fathom/page.steps"], apart := false, laid := [("fathom/page.steps", laid_fathom_page_steps)], narrowed := true }
def PageBackUptoSaid : Prop := pageBackUptoRow.holds Tryd.pinned (OpenSpec.upto pageBackSpec)

/-- 'fathomlaw02.PageTorn', WHERE WHAT IT READS IS OF BULK AT MOST 1048576: true; the input reads as it did. -/
def pageTornUptoRow : OpenClaim := { program := "ytbdohcmaighhkaadoor", sum := "0a87d664fdef01bb051d7332bb45c330919cb9b6e528bb1a91aa2ba12a5837b1", func := "fathom/fathomlaw02.PageTorn", spec := "pageTorn", unfollowed := true, recurses := true, named := ["fathom/page.steps"], apart := false, laid := [("fathom/page.steps", laid_fathom_page_steps)], narrowed := true }
def PageTornUptoSaid : Prop := pageTornUptoRow.holds Tryd.pinned (OpenSpec.upto pageTornSpec)

/-- 'fathomlaw02.PageKnown', WHERE WHAT IT READS IS OF BULK AT MOST 1048576: true; the input reads as it did. -/
def pageKnownUptoRow : OpenClaim := { program := "ytbdohcmaighhkaadoor", sum := "0a87d664fdef01bb051d7332bb45c330919cb9b6e528bb1a91aa2ba12a5837b1", func := "fathom/fathomlaw02.PageKnown", spec := "pageKnown", unfollowed := true, recurses := true, named := ["fathom/page.steps"], apart := false, laid := [("fathom/page.steps", laid_fathom_page_steps)], narrowed := true }
def PageKnownUptoSaid : Prop := pageKnownUptoRow.holds Tryd.pinned (OpenSpec.upto pageKnownSpec)

end Rows
end Go.Proofs.YtbdohcmaighhkaaDoor
