/- InlineKnown: calls of program, and of inline.Prog: a program whose inline relation stays, and one that can't be. -/
import Derived.Test.YtobbabhldblljaaGreatDoorIlC0
namespace Go.Ev.W24
open Go.Proofs
set_option maxRecDepth 1000000
theorem cPA : AnsR Tryz.prog G8 nx8 6 dPA false aPA:=ansR (f:=f6) (n:=1000000) (m:=300) tabBOk (by kernel_rfl)
theorem cPB : AnsR Tryz.prog G8 nx8 6 dPB false aPB:=ansR (f:=f6) (n:=1000000) (m:=300) tabBOk (by kernel_rfl)
theorem cPC : AnsR Tryz.prog G8 nx8 6 dPC false aPC:=ansR (f:=f6) (n:=1000000) (m:=300) tabBOk (by kernel_rfl)
theorem cQA : AnsR Tryz.prog G8 nx8 5 dQA true aQA:=ansR (f:=f5) (n:=1000000) (m:=300) tabBOk (by kernel_rfl)
theorem cQC : AnsR Tryz.prog G8 nx8 5 dQC true aQC:=ansR (f:=f5) (n:=1000000) (m:=300) tabBOk (by kernel_rfl)
end Go.Ev.W24
