/- INTERN: works(), run by the kernel; as a table entry. -/
import Derived.Test.YtjppnjhchojldaaInA
import Derived.Test.YtjppnjhchojldaaEvRen
namespace Go.Ev.W05
open Go.Proofs
set_option maxRecDepth 1000000
/-- no global -/
abbrev nx0 : Bid := ⟨0, .d0, .d0, .d0, .d0⟩
theorem nx0g : ∀ g, g < nx0.val → (gid g).val = g := by decide
theorem worksR : yes (call tabA 1000000 300 f9 [] ⟨[], nx0⟩) = true := by kernel_rfl
theorem worksY : Yes0 Try.prog 0 9 [] := yes0 tabAOk worksR nx0g fun _ => .nil
theorem enters9 : Enters Try.prog 9 := enters_of Try.func9 (by kernel_rfl) (by decide +kernel)
end Go.Ev.W05
