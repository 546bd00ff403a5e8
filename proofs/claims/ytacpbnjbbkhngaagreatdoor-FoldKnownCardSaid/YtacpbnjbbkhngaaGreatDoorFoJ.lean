/- FOLD: facts of the row that the program forces, each by itself. -/
import Derived.Test.YtacpbnjbbkhngaaGreatDoorCards
import Derived.Test.YtacpbnjbbkhngaaGreatDoorTie
import Derived.JoinedCond
import Derived.Deep.DeepHandedRow
import Derived.WalkKit
import Derived.KernelRfl
namespace Go.Ev.W23
open Go.Proofs Go.ChangeShapes Go.WideShapes Go.ChangeAt Go.Proofs.YtacpbnjbbkhngaaGreatDoor
set_option maxRecDepth 100000
theorem j_laidOut : (laidOutB Tryz.prog) = true := by kernel_rfl
theorem j_rowed : (mapsRowed Tryz.prog) = true := by kernel_rfl
theorem j_place : (Rows.foldKnownRow.inPlace == Tryz.prog.inPlace 3) = true := by kernel_rfl
theorem j_unf : (Rows.foldKnownRow.unfollowed == Tryz.prog.unfollowed 3) = true := by kernel_rfl
theorem j_rec : (Rows.foldKnownRow.recurses == Tryz.prog.recurses 3) = true := by kernel_rfl
theorem j_named : (Rows.foldKnownRow.named == Tryz.prog.varsNamed 3) = true := by kernel_rfl
theorem j_heard : (Tryz.prog.stopsHeard) = true := by kernel_rfl
theorem j_enter : (Tryz.prog.mayEnter) = true := by kernel_rfl
theorem j_keys : (Rows.foldKnownRow.plainKeys == Tryz.prog.plainKeys) = true := by kernel_rfl
theorem joined3 : joinedFacts Tryz.pinned.checked.prog 3 Tryz.f3 (OpenSpec.ofChange Rows.foldKnownSpec).bare Rows.foldKnownRow = true := by
  simp only [joinedFacts, Bool.and_eq_true]
  exact ⟨⟨⟨⟨⟨⟨⟨⟨⟨⟨⟨⟨⟨⟨⟨⟨⟨⟨⟨⟨⟨⟨⟨⟨⟨⟨⟨⟨⟨⟨⟨(by kernel_rfl), j_laidOut⟩, j_rowed⟩, (by kernel_rfl)⟩, (by kernel_rfl)⟩, (by kernel_rfl)⟩, (by kernel_rfl)⟩, (by kernel_rfl)⟩, (by kernel_rfl)⟩, j_place⟩, j_unf⟩, j_rec⟩, j_named⟩, (by kernel_rfl)⟩, (by kernel_rfl)⟩, (by kernel_rfl)⟩, (by kernel_rfl)⟩, (by kernel_rfl)⟩, (by kernel_rfl)⟩, (by kernel_rfl)⟩, (by kernel_rfl)⟩, (by kernel_rfl)⟩, j_keys⟩, (by kernel_rfl)⟩, j_heard⟩, j_enter⟩, (by kernel_rfl)⟩, (by kernel_rfl)⟩, (by kernel_rfl)⟩, (by kernel_rfl)⟩, (by kernel_rfl)⟩, (by kernel_rfl)⟩
end Go.Ev.W23
