/- A part of the proof of TopWaits: see the last text of the claim. -/
import Derived.Test.YtflfeegpkckneaaGreatDoorTj1
set_option linter.unusedSectionVars false
set_option linter.unusedSimpArgs false
set_option linter.unusedVariables false
namespace Go.Proofs.YtflfeegpkckneaaGreatDoor
open Go
theorem j4 : (JC.inPlace == JP.inPlace 4) = true := by kernel_rfl
end Go.Proofs.YtflfeegpkckneaaGreatDoor

