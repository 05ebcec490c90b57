/- A part of the proof of TopWaits: see the last text of the claim. -/
import Derived.Test.YtflfeegpkckneaaGreatDoorTi3
import Derived.Test.YtflfeegpkckneaaGreatDoorTi8
import Derived.SevenTiedAt
set_option linter.unusedSectionVars false
set_option linter.unusedSimpArgs false
set_option linter.unusedVariables false
/- the tie. -/
namespace Go.Proofs.YtflfeegpkckneaaGreatDoor
open Go
theorem noOwnUnsafe : Tryz.pinned.checked.prog.headLifts.contains "ownunsafe" = false := by kernel_rfl
theorem tie : Tryz.prog.laidByTextLater tl [.sentinel, .handle] true :=
  Program.laidByTextLater_by_run_h 400 8 q1 q2 q3 q4 q5 (by rw [vid]; exact q6) (fun os t => by rw [vid]; exact q7 os t) (fun os t => by rw [vid]; exact q8 os t) (fun os t => by rw [vid]; exact q9 os t) (fun os t => by rw [vid]; exact q10 os t)
theorem topWaits_tie : Rows.topWaitsRow.laidByTextAt .later Tryz.pinned [.sentinel, .handle] true :=
  OpenClaim.laidByTextAt_later rfl rfl tie noOwnUnsafe
end Go.Proofs.YtflfeegpkckneaaGreatDoor

