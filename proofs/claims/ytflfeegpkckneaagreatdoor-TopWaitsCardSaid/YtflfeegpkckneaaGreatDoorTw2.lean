/- A part of the proof of TopWaits: see the last text of the claim. -/
import Derived.Test.YtflfeegpkckneaaGreatDoorTw1
set_option linter.unusedSectionVars false
set_option linter.unusedSimpArgs false
set_option linter.unusedVariables false
/- TopWaits: each run of the loop, first come. -/
namespace Go.Ax.TW
theorem preQ0 : pre1 false 0 = true := by kernel_rfl
theorem preQ1 : pre1 false 1 = true := by kernel_rfl
theorem preQ2 : pre1 false 2 = true := by kernel_rfl
theorem preQ3 : pre1 false 3 = true := by kernel_rfl
theorem preQ4 : pre1 false 4 = true := by kernel_rfl
theorem runQNf : run2 false true 0 false = true := by kernel_rfl
theorem runQ0f : run2 false false 0 false = true := by kernel_rfl
theorem runQ1f : run2 false false 1 false = true := by kernel_rfl
theorem runQ1t : run2 false false 1 true = true := by kernel_rfl
theorem runQ2f : run2 false false 2 false = true := by kernel_rfl
theorem runQ2t : run2 false false 2 true = true := by kernel_rfl
theorem runQ3f : run2 false false 3 false = true := by kernel_rfl
theorem runQ3t : run2 false false 3 true = true := by kernel_rfl
theorem runQ4f : run2 false false 4 false = true := by kernel_rfl
theorem runQ4t : run2 false false 4 true = true := by kernel_rfl
theorem runQ5t : run2 false false 5 true = true := by kernel_rfl
end Go.Ax.TW

