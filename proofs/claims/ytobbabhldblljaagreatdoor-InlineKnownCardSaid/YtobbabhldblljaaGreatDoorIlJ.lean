/- INLINE: facts of the row that the program forces, each by itself. -/
import Derived.Test.YtobbabhldblljaaGreatDoorCards
import Derived.Test.YtobbabhldblljaaGreatDoorTie
import Derived.JoinedCond
import Derived.Deep.DeepHandedRow
import Derived.WalkKit
import Derived.KernelRfl
namespace Go.Ev.W24
open Go.Proofs Go.ChangeShapes Go.WideShapes Go.ChangeAt Go.Proofs.YtobbabhldblljaaGreatDoor
set_option maxRecDepth 100000
theorem j_laidOut : (laidOutB Tryz.prog) = true:=by kernel_rfl
theorem j_rowed : (mapsRowed Tryz.prog) = true:=by kernel_rfl
theorem j_place : (Rows.inlineKnownRow.inPlace == Tryz.prog.inPlace 3) = true:=by kernel_rfl
theorem j_unf : (Rows.inlineKnownRow.unfollowed == Tryz.prog.unfollowed 3) = true:=by kernel_rfl
theorem j_rec : (Rows.inlineKnownRow.recurses == Tryz.prog.recurses 3) = true:=by kernel_rfl
theorem j_named : (Rows.inlineKnownRow.named == Tryz.prog.varsNamed 3) = true:=by kernel_rfl
theorem j_heard : (Tryz.prog.stopsHeard) = true:=by kernel_rfl
theorem j_enter : (Tryz.prog.mayEnter) = true:=by kernel_rfl
theorem j_keys : (Rows.inlineKnownRow.plainKeys == Tryz.prog.plainKeys) = true:=by kernel_rfl
theorem joined3 : joinedFacts Tryz.pinned.checked.prog 3 Tryz.f3 (OpenSpec.ofChange Rows.inlineKnownSpec).bare Rows.inlineKnownRow = true:=by
 simp only [joinedFacts,Bool.and_eq_true]
 exact ⟨⟨⟨⟨⟨⟨⟨⟨⟨⟨⟨⟨⟨⟨⟨⟨⟨⟨⟨⟨⟨⟨⟨⟨⟨⟨⟨⟨⟨⟨⟨(by kernel_rfl),j_laidOut⟩,j_rowed⟩,(by kernel_rfl)⟩,(by kernel_rfl)⟩,(by kernel_rfl)⟩,(by kernel_rfl)⟩,(by kernel_rfl)⟩,(by kernel_rfl)⟩,j_place⟩,j_unf⟩,j_rec⟩,j_named⟩,(by kernel_rfl)⟩,(by kernel_rfl)⟩,(by kernel_rfl)⟩,(by kernel_rfl)⟩,(by kernel_rfl)⟩,(by kernel_rfl)⟩,(by kernel_rfl)⟩,(by kernel_rfl)⟩,(by kernel_rfl)⟩,j_keys⟩,(by kernel_rfl)⟩,j_heard⟩,j_enter⟩,(by kernel_rfl)⟩,(by kernel_rfl)⟩,(by kernel_rfl)⟩,(by kernel_rfl)⟩,(by kernel_rfl)⟩,(by kernel_rfl)⟩
end Go.Ev.W24
