/- InlineKnown: calls of put and strata.Of, run by the kernel; the table that knows them. -/
import Derived.Test.YtobbabhldblljaaGreatDoorIlC0
namespace Go.Ev.W24
open Go.Proofs
set_option maxRecDepth 1000000
theorem cB44_10 : AnsR Tryz.prog G8 nx8 44 dB44_10 false aB44_10:=ansR (f:=f44) (n:=1000000) (m:=300) tabBOk (by kernel_rfl)
theorem cB44_9 : AnsR Tryz.prog G8 nx8 44 dB44_9 false aB44_9:=ansR (f:=f44) (n:=1000000) (m:=300) tabBOk (by kernel_rfl)
theorem cB44_8 : AnsR Tryz.prog G8 nx8 44 dB44_8 false aB44_8:=ansR (f:=f44) (n:=1000000) (m:=300) tabBOk (by kernel_rfl)
theorem cB44_7 : AnsR Tryz.prog G8 nx8 44 dB44_7 false aB44_7:=ansR (f:=f44) (n:=1000000) (m:=300) tabBOk (by kernel_rfl)
theorem cB44_6 : AnsR Tryz.prog G8 nx8 44 dB44_6 false aB44_6:=ansR (f:=f44) (n:=1000000) (m:=300) tabBOk (by kernel_rfl)
theorem cB44_5 : AnsR Tryz.prog G8 nx8 44 dB44_5 false aB44_5:=ansR (f:=f44) (n:=1000000) (m:=300) tabBOk (by kernel_rfl)
theorem cB44_4 : AnsR Tryz.prog G8 nx8 44 dB44_4 false aB44_4:=ansR (f:=f44) (n:=1000000) (m:=300) tabBOk (by kernel_rfl)
theorem cB44_3 : AnsR Tryz.prog G8 nx8 44 dB44_3 false aB44_3:=ansR (f:=f44) (n:=1000000) (m:=300) tabBOk (by kernel_rfl)
theorem cB44_2 : AnsR Tryz.prog G8 nx8 44 dB44_2 false aB44_2:=ansR (f:=f44) (n:=1000000) (m:=300) tabBOk (by kernel_rfl)
theorem cB44_1 : AnsR Tryz.prog G8 nx8 44 dB44_1 false aB44_1:=ansR (f:=f44) (n:=1000000) (m:=300) tabBOk (by kernel_rfl)
theorem cB44_0 : AnsR Tryz.prog G8 nx8 44 dB44_0 false aB44_0:=ansR (f:=f44) (n:=1000000) (m:=300) tabBOk (by kernel_rfl)
theorem cB9_0 : AnsR Tryz.prog G8 nx8 9 dB9_0 true aB9_0:=ansR (f:=f9) (n:=1000000) (m:=300) tabBOk (by kernel_rfl)
theorem y44 : ∀ x ∈ L44,AnsR Tryz.prog G8 nx8 44 x.1 x.2.1 x.2.2:=by
 intro x hx
 simp only [L44,List.mem_cons,List.not_mem_nil,or_false] at hx
 rcases hx with rfl | rfl | rfl | rfl | rfl | rfl | rfl | rfl | rfl | rfl | rfl
 · exact cB44_10
 · exact cB44_9
 · exact cB44_8
 · exact cB44_7
 · exact cB44_6
 · exact cB44_5
 · exact cB44_4
 · exact cB44_3
 · exact cB44_2
 · exact cB44_1
 · exact cB44_0
theorem enters44 : Enters Tryz.prog 44:=enters_of Tryz.func44 (by kernel_rfl) (by decide +kernel)
noncomputable def shc44 (m : Nat) (cf : CF) (l : List V) (h : Heap) : Res:=cutRk G8 L44 l h (sh44 words m cf l h)
theorem y9 : ∀ x ∈ L9,AnsR Tryz.prog G8 nx8 9 x.1 x.2.1 x.2.2:=by
 intro x hx
 simp only [L9,List.mem_cons,List.not_mem_nil,or_false] at hx
 rcases hx with rfl
 · exact cB9_0
theorem enters9 : Enters Tryz.prog 9:=enters_of Tryz.func9 (by kernel_rfl) (by decide +kernel)
noncomputable def shc9 (m : Nat) (cf : CF) (l : List V) (h : Heap) : Res:=cutRk G8 L9 l h (sh9 words m cf l h)
noncomputable def tabC : FT:=(tabB.put f44 (.sh shc44)).put f9 (.sh shc9)
theorem tabCOk : TabOk Tryz.prog 8 tabC:=(tabBOk.put (f:=f44) (p:=.sh shc44) (pook_CR (f:=44) G8ok nx8g po44 enters44 y44)).put (f:=f9) (p:=.sh shc9) (pook_CR (f:=9) G8ok nx8g po9 enters9 y9)
end Go.Ev.W24
