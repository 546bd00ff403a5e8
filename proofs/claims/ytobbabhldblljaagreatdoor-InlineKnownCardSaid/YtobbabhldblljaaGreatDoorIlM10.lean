/- InlineKnown: calls of 'is', run by the kernel. -/
import Derived.Test.YtobbabhldblljaaGreatDoorEvCutR
namespace Go.Ev.W24
open Go.Proofs
set_option maxRecDepth 1000000
theorem isR9 : yes (call tabB 1000000 300 f4 (is9.map Pa.v) h8) = true:=by kernel_rfl
end Go.Ev.W24
