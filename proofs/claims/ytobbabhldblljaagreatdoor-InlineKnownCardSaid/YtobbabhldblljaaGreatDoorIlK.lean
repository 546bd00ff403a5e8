/- InlineKnown: the law, run: the calls of 'is' are known. -/
import Derived.Test.YtobbabhldblljaaGreatDoorIlC2
import Derived.Test.YtobbabhldblljaaGreatDoorIlC3
import Derived.Test.YtobbabhldblljaaGreatDoorIlM1
import Derived.Test.YtobbabhldblljaaGreatDoorIlM2
import Derived.Test.YtobbabhldblljaaGreatDoorIlM3
import Derived.Test.YtobbabhldblljaaGreatDoorIlM4
import Derived.Test.YtobbabhldblljaaGreatDoorIlM5
import Derived.Test.YtobbabhldblljaaGreatDoorIlM6
import Derived.Test.YtobbabhldblljaaGreatDoorIlM7
import Derived.Test.YtobbabhldblljaaGreatDoorIlM8
import Derived.Test.YtobbabhldblljaaGreatDoorIlM9
import Derived.Test.YtobbabhldblljaaGreatDoorIlM10
import Derived.Test.YtobbabhldblljaaGreatDoorIlM11
namespace Go.Ev.W24
open Go.Proofs
set_option maxRecDepth 1000000
theorem isY : ∀ ps ∈ isL,YesPG Tryz.prog G8 nx8 4 ps:=by
 intro ps hx
 simp only [isL,List.mem_cons,List.not_mem_nil,or_false] at hx
 rcases hx with rfl | rfl | rfl | rfl | rfl | rfl | rfl | rfl | rfl | rfl | rfl
 · exact yesPG tabBOk isR0
 · exact yesPG tabBOk isR1
 · exact yesPG tabBOk isR2
 · exact yesPG tabBOk isR3
 · exact yesPG tabBOk isR4
 · exact yesPG tabBOk isR5
 · exact yesPG tabBOk isR6
 · exact yesPG tabBOk isR7
 · exact yesPG tabBOk isR8
 · exact yesPG tabBOk isR9
 · exact yesPG tabBOk isR10
theorem entersI : Enters Tryz.prog 4:=enters_of Tryz.func4 (by kernel_rfl) (by decide +kernel)
noncomputable def shIs (m : Nat) (cf : CF) (l : List V) (h : Heap) : Res:=patG G8 isL l h (sh4 words m cf l h)
theorem y5 : ∀ x ∈ L5,AnsR Tryz.prog G8 nx8 5 x.1 x.2.1 x.2.2:=by
 intro x hx
 simp only [L5,List.mem_cons,List.not_mem_nil,or_false] at hx
 rcases hx with rfl | rfl | rfl
 · exact cQA
 · exact cQB
 · exact cQC
theorem enters5 : Enters Tryz.prog 5:=enters_of Tryz.func5 (by kernel_rfl) (by decide +kernel)
noncomputable def shc5 (m : Nat) (cf : CF) (l : List V) (h : Heap) : Res:=cutRk G8 L5 l h (sh5 words m cf l h)
theorem y6 : ∀ x ∈ L6,AnsR Tryz.prog G8 nx8 6 x.1 x.2.1 x.2.2:=by
 intro x hx
 simp only [L6,List.mem_cons,List.not_mem_nil,or_false] at hx
 rcases hx with rfl | rfl | rfl
 · exact cPA
 · exact cPB
 · exact cPC
theorem enters6 : Enters Tryz.prog 6:=enters_of Tryz.func6 (by kernel_rfl) (by decide +kernel)
noncomputable def shc6 (m : Nat) (cf : CF) (l : List V) (h : Heap) : Res:=cutRk G8 L6 l h (sh6 words m cf l h)
noncomputable def tabM : FT:=((tabB.put f4 (.sh shIs)).put f5 (.sh shc5)).put f6 (.sh shc6)
theorem tabMOk : TabOk Tryz.prog 8 tabM:=((tabBOk.put (f:=f4) (p:=.sh shIs) (pook_PG (f:=4) G8ok nx8g po4 entersI isY)).put (f:=f5) (p:=.sh shc5) (pook_CR (f:=5) G8ok nx8g po5 enters5 y5)).put (f:=f6) (p:=.sh shc6) (pook_CR (f:=6) G8ok nx8g po6 enters6 y6)
theorem knownR : yes (call tabM 1000000 300 f3 [] h8) = true:=by kernel_rfl
theorem knownY : YesG Tryz.prog G8 nx8 3 []:=yesG tabMOk knownR fun _=>.nil
end Go.Ev.W24
