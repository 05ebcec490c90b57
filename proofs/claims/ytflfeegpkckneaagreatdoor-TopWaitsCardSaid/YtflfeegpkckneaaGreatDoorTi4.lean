/- A part of the proof of TopWaits: see the last text of the claim. -/
import Derived.Test.YtflfeegpkckneaaGreatDoorTi1
set_option linter.unusedSectionVars false
set_option linter.unusedSimpArgs false
set_option linter.unusedVariables false
namespace Go.Proofs.YtflfeegpkckneaaGreatDoor
open Go
theorem q7 : ∀ os tape, varsDone Tryz.prog 400 699 os tape = true := fun _ _ => by kernel_rfl
end Go.Proofs.YtflfeegpkckneaaGreatDoor

