/- A part of the proof of TopWaits: see the last text of the claim. -/
import Derived.Test.YtflfeegpkckneaaGreatDoorRows
import Derived.LaidByTextLater
set_option linter.unusedSectionVars false
set_option linter.unusedSimpArgs false
set_option linter.unusedVariables false
namespace Go.Proofs.YtflfeegpkckneaaGreatDoor
open Go
def tl {H : Type} : List (String × DataW H) := [("portcullis/layout.errVoid", Rows.laid_portcullis_layout_errVoid), ("errors.errorType", Rows.laid_errors_errorType)]
theorem q1 : Tryz.prog.worded (varsWordLater true) = true := by kernel_rfl
theorem q2 : Tryz.prog.worded (varsWordLater !true) = false := by kernel_rfl
theorem q3 : Tryz.prog.worded rootWordLater = true := by kernel_rfl
theorem q4 : (tl (H := Unit)).map (fun x => Tryz.prog.kindOfLater x.1) = [LaidKind.sentinel, .handle].map some := by kernel_rfl
theorem q5 : (Tryz.prog.funcNamed "gosem.cut.vars").isSome = true := by kernel_rfl
end Go.Proofs.YtflfeegpkckneaaGreatDoor

