/- A part of the proof of TopWaits: see the last text of the claim. -/
import Derived.Test.YtflfeegpkckneaaGreatDoorTi2
import Derived.Test.YtflfeegpkckneaaGreatDoorTi4
import Derived.Test.YtflfeegpkckneaaGreatDoorTi5
import Derived.Test.YtflfeegpkckneaaGreatDoorTi6
import Derived.Test.YtflfeegpkckneaaGreatDoorTi7
import Derived.LaidMore
import Derived.Stop.Joined
set_option linter.unusedSectionVars false
set_option linter.unusedSimpArgs false
set_option linter.unusedVariables false
namespace Go.Proofs.YtflfeegpkckneaaGreatDoor
open Go
noncomputable def wLaid (os : Os) : World := { World.holding Tryz.prog os ⟨#[], #[], []⟩ with heap := (varsWorld Tryz.prog 400 699 os (fun _ _ => 0)).heap }
theorem door_eq (os : Os) : World.doorLaid Tryz.prog 400 os = wLaid os := by unfold World.doorLaid wLaid; rw [vid]
theorem dm1 (os : Os) (args : Array Value) : (DataW.laidRun Tryz.prog ((wLaid os).forCall (fun _ _ => 0) ⟨#[], args, []⟩).memory 8 ((((tl (H := Unit))).filter fun x => x.2.handleName?.isNone).map (·.1))).map (·.1) = some ((tl (H := Unit)).filter fun x => x.2.handleName?.isNone) := by kernel_rfl
theorem dm2 (os : Os) (args : Array Value) : (DataW.laidRun Tryz.prog ((wLaid os).forCall (fun _ _ => 0) ⟨#[], args, []⟩).memory 8 (((tl (H := Unit)).filter fun x => x.2.handleName?.isNone).map (·.1))).map (fun x => decide x.2.Nodup && laidRowsB Tryz.prog ((wLaid os).forCall (fun _ _ => 0) ⟨#[], args, []⟩).memory x.2) = some true := by kernel_rfl
theorem dm3 (os : Os) (args : Array Value) : ((tl (H := Unit)).filter fun x => x.2.handleName?.isSome).all (handleAtB Tryz.prog ((wLaid os).forCall (fun _ _ => 0) ⟨#[], args, []⟩).memory) = true := by kernel_rfl
end Go.Proofs.YtflfeegpkckneaaGreatDoor

