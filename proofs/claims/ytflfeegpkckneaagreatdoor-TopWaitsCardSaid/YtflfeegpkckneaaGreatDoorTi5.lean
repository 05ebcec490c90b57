/- A part of the proof of TopWaits: see the last text of the claim. -/
import Derived.Test.YtflfeegpkckneaaGreatDoorTi1
set_option linter.unusedSectionVars false
set_option linter.unusedSimpArgs false
set_option linter.unusedVariables false
namespace Go.Proofs.YtflfeegpkckneaaGreatDoor
open Go
theorem q8 : ∀ os tape, (DataW.laidRun Tryz.prog (varsWorld Tryz.prog 400 699 os tape).memory 8 (((tl (H := Unit)).filter fun x => x.2.handleName?.isNone).map (·.1))).map (·.1) = some ((tl (H := Unit)).filter fun x => x.2.handleName?.isNone) := fun _ _ => by kernel_rfl
end Go.Proofs.YtflfeegpkckneaaGreatDoor

