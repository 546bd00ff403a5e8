/- INTERN: calls() runs. -/
import Derived.Test.YtjppnjhchojldaaInK1
namespace Go.Ev.W05
open Go.Proofs
set_option maxRecDepth 1000000
theorem callsR : yes ((Dt.cons shapesD .nil).layk ⟨[], nx0⟩ fun l h => call tabW 1000000 300 f27 l h) = true := by kernel_rfl
theorem callsY : YesD Try.prog 0 27 (.cons shapesD .nil) := yesD tabWOk callsR nx0g
end Go.Ev.W05
