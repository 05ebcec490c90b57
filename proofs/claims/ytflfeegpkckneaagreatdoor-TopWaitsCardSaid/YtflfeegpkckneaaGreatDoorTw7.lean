/- PROVED HERE: the tied card of portcullistop.TopWaits: whatever the input, it returns true and the input reads as it did.
   CONDITIONS: those of the given card alone. -/
import Derived.Test.YtflfeegpkckneaaGreatDoorCards
import Derived.Test.YtflfeegpkckneaaGreatDoorTw6
import Derived.Test.YtflfeegpkckneaaGreatDoorTi9
import Derived.Test.YtflfeegpkckneaaGreatDoorTk1
import Derived.Test.YtflfeegpkckneaaGreatDoorTk2
import Derived.Test.YtflfeegpkckneaaGreatDoorTi10
set_option linter.unusedSectionVars false
set_option linter.unusedSimpArgs false
set_option linter.unusedVariables false
/- TopWaits: the card. -/
namespace Go.Proofs.YtflfeegpkckneaaGreatDoor
open Go
theorem fn4' : Tryz.pinned.checked.prog.funcNamed Rows.topWaitsRow.func = some 4 := fn4
theorem topWaits_card : Rows.TopWaitsCardSaid :=
  Claim7.holds_tied_plain_at .later [] [.sentinel, .handle] true (true, "afb6e586591e34aaf61e9c6832309f48834891a865e4fbed274efab1e3269c7d") true
    topWaits_holds (fun _ h => by cases h) cd1 (fun _ h => by cases h) topWaits_tie rfl ⟨rfl, rfl⟩ cd2 rfl
    (fun f fn hf hfn => by
      obtain rfl : f = 4 := Option.some.inj (fn4'.symm.trans hf) |>.symm
      obtain rfl : fn = Tryz.f4 := (Option.some.inj (Tryz.func4.symm.trans hfn)).symm
      exact ⟨cd3, fun j t ht => by
        rw [Tryz.params4] at ht
        match j, ht with
        | 0, ht => simp at ht; subst ht; exact ns22
        | 1, ht => simp at ht; subst ht; exact ns5
        | 2, ht => simp at ht; subst ht; exact ns4
        | 3, ht => simp at ht; subst ht; exact ns3
        | j + 4, ht => simp at ht⟩)
    cd4
#print axioms topWaits_card
end Go.Proofs.YtflfeegpkckneaaGreatDoor

