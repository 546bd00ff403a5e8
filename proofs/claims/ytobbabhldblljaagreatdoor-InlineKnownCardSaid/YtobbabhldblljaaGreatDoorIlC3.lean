/- InlineKnown: the call of inline.Prog that would make too many rules. -/
import Derived.Test.YtobbabhldblljaaGreatDoorIlC1
namespace Go.Ev.W24
open Go.Proofs
set_option maxRecDepth 1000000
theorem cQB : AnsR Tryz.prog G8 nx8 5 dQB true aQB:=ansR (f:=f5) (n:=1000000) (m:=300) tabCOk (by kernel_rfl)
end Go.Ev.W24
