/- A part of the proof of TopWaits: see the last text of the claim. -/
import Derived.Test.YtflfeegpkckneaaGreatDoorTi8
import Derived.ProofKit
set_option linter.unusedSectionVars false
set_option linter.unusedSimpArgs false
set_option linter.unusedVariables false
namespace Go.Proofs.YtflfeegpkckneaaGreatDoor
open Go Go.ChangeShapes Go.WideShapes Go.ChangeAt Go.RowKit
def wArgs : Array Value := #[.slice none 0 0, .int .u8 0, .bool false, .int .i64 0]
theorem own : ownKnob Tryz.prog.godebug = none := by kernel_rfl
theorem ws1 (os : Os) : ((wLaid os).forCall (fun _ _ => 0) ⟨#[], wArgs, []⟩).variablesRefB Tryz.prog = true := by kernel_rfl
theorem ws2 (os : Os) : (((wLaid os).forCall (fun _ _ => 0) ⟨#[], wArgs, []⟩).heap.toList.drop Tryz.prog.globals.size).take ((begin Tryz.prog (fun _ _ => 0) default).world.heap.size - Tryz.prog.globals.size) =
      (begin Tryz.prog (fun _ _ => 0) default).world.heap.toList.drop Tryz.prog.globals.size := by kernel_rfl
theorem ws3 (os : Os) : Input.okWideB Tryz.prog ((wLaid os).forCall (fun _ _ => 0) ⟨#[], wArgs, []⟩) 4 ⟨#[], wArgs, []⟩ = true := by kernel_rfl
theorem ws4 (os : Os) {H : Type} (enc : TypeId × Value → H) : Rows.topWaitsSpec.preB enc Tryz.prog Tryz.f4 [] false ((wLaid os).forCall (fun _ _ => 0) ⟨#[], wArgs, []⟩).memory wArgs 8 = true := by kernel_rfl
theorem ws5 (os : Os) {H : Type} (enc : TypeId × Value → H) : Rows.topWaitsSpec.sizedB enc Tryz.prog Tryz.f4 false ((wLaid os).forCall (fun _ _ => 0) ⟨#[], wArgs, []⟩).memory wArgs 8 = true := by kernel_rfl
end Go.Proofs.YtflfeegpkckneaaGreatDoor

