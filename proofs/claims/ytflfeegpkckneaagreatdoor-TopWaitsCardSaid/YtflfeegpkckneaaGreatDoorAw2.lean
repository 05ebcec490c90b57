/- A part of the proof of TopWaits: see the last text of the claim. -/
import Derived.Test.YtflfeegpkckneaaGreatDoorAw1
set_option linter.unusedSectionVars false
set_option linter.unusedSimpArgs false
set_option linter.unusedVariables false
/- awake: Play on engine 0. -/
namespace Go.Ax.AW
theorem play0 : playOk 0 = true := by kernel_rfl
end Go.Ax.AW

