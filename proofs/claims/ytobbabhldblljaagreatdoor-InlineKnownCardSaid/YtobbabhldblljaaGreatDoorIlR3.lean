/- PROVED HERE: 'fathomlaw24.InlineKnown' returns true (it has no parameter); conditions: none but what the card ties (the variables that it lists hold what the program lays into them; of these only internal/strconv.uint64pow10 is read). -/
import Derived.Test.YtobbabhldblljaaGreatDoorIlR2
import Derived.Test.YtobbabhldblljaaGreatDoorCards
import Derived.Test.YtobbabhldblljaaGreatDoorTie
import Derived.JoinedCond
import Derived.Deep.DeepHandedRow
import Derived.WalkKit
import Derived.ProofKit
import Derived.OpenShut
import Derived.Carry
import Derived.ChangeSame
import Derived.Lib.LaidU8
import Derived.Shelf.Vars
namespace Go.Ev.W24
open Go.Proofs Go.ChangeShapes Go.WideShapes Go.ChangeAt Go.RowKit
open Go.Proofs.YtobbabhldblljaaGreatDoor
set_option maxRecDepth 100000
theorem g_main : Tryz.pinned.checked.prog.mainIs = some (true,("bdae59e15b4f6dbd75d27d2523c85daac687e08c281a92002ab5f10190323c2c" : String).toList):=by kernel_rfl
theorem g_goes : false = Rows.inlineKnownRow.goesBy Tryz.pinned.checked.prog:=by kernel_rfl
theorem g_looks : true = Tryz.pinned.checked.prog.looks []:=by kernel_rfl
theorem g_named : Tryz.prog.funcNamed "fathom/fathomlaw24.InlineKnown" = some 3:=by kernel_rfl
theorem g_wf : Rows.inlineKnownRow.wfByText (OpenSpec.ofChange Rows.inlineKnownSpec) = true:=by kernel_rfl
theorem plain3 (f : FuncId) (fn : Func) (hf : Tryz.pinned.checked.prog.funcNamed "fathom/fathomlaw24.InlineKnown" = some f) (hfn : Tryz.pinned.checked.prog.funcs[f]? = some fn) :
 true = Tryz.pinned.checked.prog.looks []∧∀ (j : Nat) t,fn.params[j]? = some t→Tryz.pinned.checked.prog.wantsStandIn t = false:=by
 obtain rfl : f = 3:=Option.some.inj (g_named.symm.trans hf) |>.symm
 obtain rfl : fn = Tryz.f3:=(Option.some.inj (Tryz.func3.symm.trans hfn)).symm
 refine ⟨g_looks,fun j t ht=>?_⟩
 rw [Tryz.params3] at ht
 simp at ht
theorem card3 : Rows.InlineKnownCardSaid:=
 Claim7.holds_tied_plain_at .later [] _ _ _ _ said3 (fun _ h=>by cases h) g_wf (fun _ h=>by cases h) inlineKnown_row_tie rfl ⟨rfl,rfl⟩ g_main rfl plain3 g_goes
end Go.Ev.W24
namespace Go.Proofs.YtobbabhldblljaaGreatDoor
theorem inlineKnown_card : Rows.InlineKnownCardSaid:=Go.Ev.W24.card3
#print axioms inlineKnown_card
end Go.Proofs.YtobbabhldblljaaGreatDoor
