/- A part of the proof of TopWaits: see the last text of the claim. -/
import Derived.Test.YtflfeegpkckneaaGreatDoorTi1
import Derived.SevenTiedAt
set_option linter.unusedSectionVars false
set_option linter.unusedSimpArgs false
set_option linter.unusedVariables false
namespace Go.Proofs.YtflfeegpkckneaaGreatDoor
open Go
theorem cd1 : Rows.topWaitsRow.wfByText (OpenSpec.ofChange Rows.topWaitsSpec) = true := by kernel_rfl
theorem cd2 : Tryz.pinned.checked.prog.mainIs = some (true, "afb6e586591e34aaf61e9c6832309f48834891a865e4fbed274efab1e3269c7d".toList) := by kernel_rfl
theorem ns3 : Tryz.pinned.checked.prog.wantsStandIn 3 = false := by kernel_rfl
theorem ns4 : Tryz.pinned.checked.prog.wantsStandIn 4 = false := by kernel_rfl
theorem ns5 : Tryz.pinned.checked.prog.wantsStandIn 5 = false := by kernel_rfl
theorem ns22 : Tryz.pinned.checked.prog.wantsStandIn 22 = false := by kernel_rfl
end Go.Proofs.YtflfeegpkckneaaGreatDoor

