/- FOLD: calls of 'is', run by the kernel. -/
import Derived.Test.YtacpbnjbbkhngaaGreatDoorFoM0
namespace Go.Ev.W23
open Go.Proofs
set_option maxRecDepth 1000000
theorem isR0 : yes (call tabA 1000000 300 f4 (is0.map Pa.v) h8) = true := by kernel_rfl
theorem isR1 : yes (call tabA 1000000 300 f4 (is1.map Pa.v) h8) = true := by kernel_rfl
theorem isR2 : yes (call tabA 1000000 300 f4 (is2.map Pa.v) h8) = true := by kernel_rfl
theorem isR3 : yes (call tabA 1000000 300 f4 (is3.map Pa.v) h8) = true := by kernel_rfl
end Go.Ev.W23
