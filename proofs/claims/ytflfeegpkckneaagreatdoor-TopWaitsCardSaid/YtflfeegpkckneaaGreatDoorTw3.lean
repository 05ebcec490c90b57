/- A part of the proof of TopWaits: see the last text of the claim. -/
import Derived.Test.YtflfeegpkckneaaGreatDoorTw1
set_option linter.unusedSectionVars false
set_option linter.unusedSimpArgs false
set_option linter.unusedVariables false
/- TopWaits: each run of the loop, last come. -/
namespace Go.Ax.TW
theorem preS0 : pre1 true 0 = true := by kernel_rfl
theorem preS1 : pre1 true 1 = true := by kernel_rfl
theorem preS2 : pre1 true 2 = true := by kernel_rfl
theorem preS3 : pre1 true 3 = true := by kernel_rfl
theorem preS4 : pre1 true 4 = true := by kernel_rfl
theorem runSNf : run2 true true 0 false = true := by kernel_rfl
theorem runS0f : run2 true false 0 false = true := by kernel_rfl
theorem runS1f : run2 true false 1 false = true := by kernel_rfl
theorem runS1t : run2 true false 1 true = true := by kernel_rfl
theorem runS2f : run2 true false 2 false = true := by kernel_rfl
theorem runS2t : run2 true false 2 true = true := by kernel_rfl
theorem runS3f : run2 true false 3 false = true := by kernel_rfl
theorem runS3t : run2 true false 3 true = true := by kernel_rfl
theorem runS4f : run2 true false 4 false = true := by kernel_rfl
theorem runS4t : run2 true false 4 true = true := by kernel_rfl
theorem runS5t : run2 true false 5 true = true := by kernel_rfl
end Go.Ax.TW

