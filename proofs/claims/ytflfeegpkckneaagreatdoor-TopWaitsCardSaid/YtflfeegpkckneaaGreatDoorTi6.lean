/- A part of the proof of TopWaits: see the last text of the claim. -/
import Derived.Test.YtflfeegpkckneaaGreatDoorTi1
set_option linter.unusedSectionVars false
set_option linter.unusedSimpArgs false
set_option linter.unusedVariables false
namespace Go.Proofs.YtflfeegpkckneaaGreatDoor
open Go
theorem q9 : ∀ os tape, (DataW.laidRun Tryz.prog (varsWorld Tryz.prog 400 699 os tape).memory 8 (((tl (H := Unit)).filter fun x => x.2.handleName?.isNone).map (·.1))).map (fun x => decide x.2.Nodup && laidRowsB Tryz.prog (varsWorld Tryz.prog 400 699 os tape).memory x.2) = some true := fun _ _ => by kernel_rfl
end Go.Proofs.YtflfeegpkckneaaGreatDoor

