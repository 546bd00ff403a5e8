/- FOLD: calls of 'is', run by the kernel. -/
import Derived.Test.YtacpbnjbbkhngaaGreatDoorFoM0
namespace Go.Ev.W23
open Go.Proofs
set_option maxRecDepth 1000000
theorem isR4 : yes (call tabA 1000000 300 f4 (is4.map Pa.v) h8) = true := by kernel_rfl
theorem isR5 : yes (call tabA 1000000 300 f4 (is5.map Pa.v) h8) = true := by kernel_rfl
theorem isR6 : yes (call tabA 1000000 300 f4 (is6.map Pa.v) h8) = true := by kernel_rfl
theorem isR7 : yes (call tabA 1000000 300 f4 (is7.map Pa.v) h8) = true := by kernel_rfl
end Go.Ev.W23
