/- A part of the proof of TopWaits: see the last text of the claim. -/
import Derived.Test.YtflfeegpkckneaaGreatDoorRows
import Derived.ClosedOfChecked
set_option linter.unusedSectionVars false
set_option linter.unusedSimpArgs false
set_option linter.unusedVariables false
namespace Go.Proofs.YtflfeegpkckneaaGreatDoor
open Go
theorem ct1 : Tryz.checked.prog.types = Tryz.checked.src.types := by kernel_rfl
theorem ct2 : (Tryz.checked.prog.globals.all (fun g => decide (g.type < Tryz.checked.prog.types.size)) && Tryz.checked.prog.funcs.all (fun f => f.params.all fun t => decide (t < Tryz.checked.prog.types.size))) = true := by kernel_rfl
theorem ct3 : ClosedOfChecked.keysListB Tryz.checked.prog = true := by kernel_rfl
theorem closed : laidOutB Tryz.prog = true ∧ mapsRowed Tryz.prog = true ∧ Tryz.prog.plainKeys = true := ClosedOfChecked.closed_of_checked Tryz.checked ct1 ct2 ct3
end Go.Proofs.YtflfeegpkckneaaGreatDoor

