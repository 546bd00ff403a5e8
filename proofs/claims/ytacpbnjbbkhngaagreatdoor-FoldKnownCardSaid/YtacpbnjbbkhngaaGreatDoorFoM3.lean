/- FOLD: calls of 'is', run by the kernel. -/
import Derived.Test.YtacpbnjbbkhngaaGreatDoorFoM0
namespace Go.Ev.W23
open Go.Proofs
set_option maxRecDepth 1000000
theorem isR8 : yes (call tabA 1000000 300 f4 (is8.map Pa.v) h8) = true := by kernel_rfl
theorem isR9 : yes (call tabA 1000000 300 f4 (is9.map Pa.v) h8) = true := by kernel_rfl
theorem isR10 : yes (call tabA 1000000 300 f4 (is10.map Pa.v) h8) = true := by kernel_rfl
theorem isR11 : yes (call tabA 1000000 300 f4 (is11.map Pa.v) h8) = true := by kernel_rfl
end Go.Ev.W23
