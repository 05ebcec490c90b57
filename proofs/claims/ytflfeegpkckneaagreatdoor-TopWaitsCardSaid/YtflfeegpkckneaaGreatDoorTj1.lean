/- A part of the proof of TopWaits: see the last text of the claim. -/
import Derived.Test.YtflfeegpkckneaaGreatDoorTl
import Derived.JoinedOf
set_option linter.unusedSectionVars false
set_option linter.unusedSimpArgs false
set_option linter.unusedVariables false
namespace Go.Proofs.YtflfeegpkckneaaGreatDoor
open Go
noncomputable abbrev JP : Program := Tryz.pinned.checked.prog
noncomputable abbrev JC : OpenClaim := Rows.topWaitsRow
noncomputable abbrev JS : ChangeSpec := Rows.topWaitsSpec
end Go.Proofs.YtflfeegpkckneaaGreatDoor

namespace Go.Proofs.YtflfeegpkckneaaGreatDoor
open Go
theorem j1 : JC.wf (OpenSpec.ofChange JS) = true := by kernel_rfl
end Go.Proofs.YtflfeegpkckneaaGreatDoor

namespace Go.Proofs.YtflfeegpkckneaaGreatDoor
open Go
theorem j2 : (Tryz.f4.params.all (JP.readableRec ·) && namedTie JP JC.named JS.vars) = true := by kernel_rfl
end Go.Proofs.YtflfeegpkckneaaGreatDoor

namespace Go.Proofs.YtflfeegpkckneaaGreatDoor
open Go
theorem j3 : ((JC.stops == []) && (JP.stops == []) && (JC.knobs == []) && (JP.stopKnobs == [])) = true := by kernel_rfl
end Go.Proofs.YtflfeegpkckneaaGreatDoor

namespace Go.Proofs.YtflfeegpkckneaaGreatDoor
open Go
theorem j8 : ((JC.maps == (Tryz.f4.params.toList ++ JS.plain.varTypes JP).any (JP.mapsRec ·)) && (JC.ifaces == (Tryz.f4.params.toList ++ JS.plain.varTypes JP).any (JP.ifacesRec ·)) && (JC.mapsOut == JP.mapsAmong Tryz.f4.resultTypes.toList)) = true := by kernel_rfl
end Go.Proofs.YtflfeegpkckneaaGreatDoor

namespace Go.Proofs.YtflfeegpkckneaaGreatDoor
open Go
theorem j9 : ((JC.loops == (Tryz.f4.params.toList ++ JS.plain.varTypes JP).any (JP.loopsFrom ·)) && (JC.wideKeys == (Tryz.f4.params.toList ++ JS.plain.varTypes JP ++ Tryz.f4.resultTypes.toList).any (JP.wideKeysFrom ·))) = true := by kernel_rfl
end Go.Proofs.YtflfeegpkckneaaGreatDoor

namespace Go.Proofs.YtflfeegpkckneaaGreatDoor
open Go
theorem j10 : (JS.vars.all (JP.varReadable ·) && Tryz.f4.resultTypes.all (fun t => JP.readableRec t && decide (t < JP.types.size)) && (JC.ifacesOut == Tryz.f4.resultTypes.toList.any (JP.ifacesRec ·)) && (JC.loopsOut == Tryz.f4.resultTypes.toList.any (JP.loopsFrom ·))) = true := by kernel_rfl
end Go.Proofs.YtflfeegpkckneaaGreatDoor

namespace Go.Proofs.YtflfeegpkckneaaGreatDoor
open Go
theorem j11 : (JC.plainKeys == JP.plainKeys) = true := by rw [show JP.plainKeys = true from closed.2.2]; rfl
end Go.Proofs.YtflfeegpkckneaaGreatDoor

namespace Go.Proofs.YtflfeegpkckneaaGreatDoor
open Go
theorem j16 : ((JC.veiled == (Tryz.f4.params.toList ++ JS.plain.varTypes JP ++ Tryz.f4.resultTypes.toList).any (JP.veiledRec ·)) && JC.veiledFits JP Tryz.f4.params.toList (Tryz.f4.params.toList ++ JS.plain.varTypes JP ++ Tryz.f4.resultTypes.toList)) = true := by kernel_rfl
end Go.Proofs.YtflfeegpkckneaaGreatDoor

namespace Go.Proofs.YtflfeegpkckneaaGreatDoor
open Go
theorem me2 : (JP.doorRows.any fun n => ["(look 8)", "(look 8, test files too)", "(list 7)", "(look 7)"].any (endsIn · n)) = false := by kernel_rfl
end Go.Proofs.YtflfeegpkckneaaGreatDoor

namespace Go.Proofs.YtflfeegpkckneaaGreatDoor
open Go
theorem me4 : JP.bearsReflect = false := by kernel_rfl
end Go.Proofs.YtflfeegpkckneaaGreatDoor

