/- FOLD: calls of 'is', run by the kernel. -/
import Derived.Test.YtacpbnjbbkhngaaGreatDoorFoM0
namespace Go.Ev.W23
open Go.Proofs
set_option maxRecDepth 1000000
theorem isR12 : yes (call tabA 1000000 300 f4 (is12.map Pa.v) h8) = true := by kernel_rfl
theorem isR13 : yes (call tabA 1000000 300 f4 (is13.map Pa.v) h8) = true := by kernel_rfl
theorem isR14 : yes (call tabA 1000000 300 f4 (is14.map Pa.v) h8) = true := by kernel_rfl
theorem isR15 : yes (call tabA 1000000 300 f4 (is15.map Pa.v) h8) = true := by kernel_rfl
end Go.Ev.W23
