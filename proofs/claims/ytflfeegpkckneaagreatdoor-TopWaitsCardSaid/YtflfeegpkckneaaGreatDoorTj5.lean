/- A part of the proof of TopWaits: see the last text of the claim. -/
import Derived.Test.YtflfeegpkckneaaGreatDoorTj1
set_option linter.unusedSectionVars false
set_option linter.unusedSimpArgs false
set_option linter.unusedVariables false
namespace Go.Proofs.YtflfeegpkckneaaGreatDoor
open Go
theorem j15 : ((JP.make == some JC.make) && (JC.kinds == (if JC.domain.isEmpty then [] else Tryz.f4.params.toList.map fun t => match JP.underlying t with | some (.int k) => some k | _ => none)) && (JC.pinned == JC.pinnedBy)) = true := by kernel_rfl
end Go.Proofs.YtflfeegpkckneaaGreatDoor

