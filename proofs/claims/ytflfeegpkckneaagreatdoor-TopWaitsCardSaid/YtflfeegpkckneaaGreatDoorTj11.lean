/- A part of the proof of TopWaits: see the last text of the claim. -/
import Derived.Test.YtflfeegpkckneaaGreatDoorTj6
import Derived.Test.YtflfeegpkckneaaGreatDoorTj1
import Derived.Test.YtflfeegpkckneaaGreatDoorTj4
import Derived.Test.YtflfeegpkckneaaGreatDoorTj7
import Derived.Test.YtflfeegpkckneaaGreatDoorTj8
import Derived.Test.YtflfeegpkckneaaGreatDoorTj9
import Derived.Test.YtflfeegpkckneaaGreatDoorTj10
import Derived.Test.YtflfeegpkckneaaGreatDoorTj2
import Derived.Test.YtflfeegpkckneaaGreatDoorTj3
import Derived.Test.YtflfeegpkckneaaGreatDoorTj5
set_option linter.unusedSectionVars false
set_option linter.unusedSimpArgs false
set_option linter.unusedVariables false
namespace Go.Proofs.YtflfeegpkckneaaGreatDoor
open Go
theorem strip_cut (rest : List (List Char)) : stripLifts liftWords ("cut".toList :: rest) = ([], "cut".toList :: rest) := by kernel_rfl
theorem fits_nil {P : Program} (h : (P.doorRows.any fun n => ["(look 8)", "(look 8, test files too)", "(list 7)", "(look 7)"].any (endsIn · n)) = false) : P.doorFits [] = true := by
  unfold Program.doorFits
  dsimp only
  rw [h]
  simp
theorem enter_of {P : Program} (h1 : ((behindMainWord (wordsSigns P.initOrder.toList)).head? == some "cut".toList) = true) (h2 : (P.doorRows.any fun n => ["(look 8)", "(look 8, test files too)", "(list 7)", "(look 7)"].any (endsIn · n)) = false) (h3 : P.laysLater = false) (h4 : P.bearsReflect = false) : P.mayEnter = true := by
  unfold Program.mayEnter
  split
  · rename_i c rest hc
    rw [hc] at h1
    have e : c = "cut".toList := by simpa using h1
    subst e
    rw [strip_cut, h3, h4, fits_nil h2]
    simp
  · rename_i hc
    rw [hc] at h1
    cases h1
theorem j13 : JP.mayEnter = true := enter_of me1 me2 me3 me4
end Go.Proofs.YtflfeegpkckneaaGreatDoor

namespace Go.Proofs.YtflfeegpkckneaaGreatDoor
open Go
set_option maxRecDepth 100000 in
theorem joined : joinedFacts JP 4 Tryz.f4 JS JC = true := by
  have h2 := j2; have h3 := j3; have h8 := j8; have h9 := j9; have h10 := j10; have h12 := j12; have h15 := j15; have h16 := j16
  rw [Bool.and_eq_true] at h2 h9 h12 h16
  rw [Bool.and_eq_true, Bool.and_eq_true, Bool.and_eq_true] at h3 h10
  rw [Bool.and_eq_true, Bool.and_eq_true] at h8 h15
  unfold joinedFacts
  simp only [Bool.and_eq_true]
  exact ⟨⟨⟨⟨⟨⟨⟨⟨⟨⟨⟨⟨⟨⟨⟨⟨⟨⟨⟨⟨⟨⟨⟨⟨⟨⟨⟨⟨⟨⟨⟨j1, closed.1⟩, closed.2.1⟩, h2.1⟩, h2.2⟩, h3.1.1.1⟩, h3.1.1.2⟩, h3.1.2⟩, h3.2⟩, j4⟩, j5⟩, j6⟩, j7⟩, h8.1.1⟩, h8.1.2⟩, h8.2⟩, h9.1⟩, h9.2⟩, h10.1.1.1⟩, h10.1.1.2⟩, h10.1.2⟩, h10.2⟩, j11⟩, h12.1⟩, h12.2⟩, j13⟩, j14⟩, h15.1.1⟩, h15.1.2⟩, h15.2⟩, h16.1⟩, h16.2⟩
end Go.Proofs.YtflfeegpkckneaaGreatDoor

