/- INTERN: deep() runs. -/
import Derived.Test.YtjppnjhchojldaaInL5
namespace Go.Ev.W05
open Go.Proofs
set_option maxRecDepth 1000000
theorem deepR : yes ((Dt.cons shapesD .nil).layk ⟨[], nx0⟩ fun l h => call tabD 1000000 300 f28 l h) = true := by kernel_rfl
theorem deepY : YesD Try.prog 0 28 (.cons shapesD .nil) := yesD tabDOk deepR nx0g
end Go.Ev.W05
