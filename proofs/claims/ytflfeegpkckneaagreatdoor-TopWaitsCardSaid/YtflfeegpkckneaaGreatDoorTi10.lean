/- A part of the proof of TopWaits: see the last text of the claim. -/
import Derived.Test.YtflfeegpkckneaaGreatDoorTi1
import Derived.SevenTiedAt
set_option linter.unusedSectionVars false
set_option linter.unusedSimpArgs false
set_option linter.unusedVariables false
namespace Go.Proofs.YtflfeegpkckneaaGreatDoor
open Go
theorem goes0 : (Tryz.prog.funcs.toList.take 500).any Func.goes = false := by kernel_rfl
theorem goes1 : ((Tryz.prog.funcs.toList.drop 500).take 500).any Func.goes = false := by kernel_rfl
theorem goes2 : (((Tryz.prog.funcs.toList.drop 500).drop 500).take 500).any Func.goes = false := by kernel_rfl
theorem goes3 : (((Tryz.prog.funcs.toList.drop 500).drop 500).drop 500).any Func.goes = false := by kernel_rfl
theorem any_cut {α : Type} (p : α → Bool) (l : List α) (n : Nat) (h1 : (l.take n).any p = false) (h2 : (l.drop n).any p = false) : l.any p = false := by
  rw [← List.take_append_drop n l, List.any_append, h1, h2]; rfl
theorem goes_all : Tryz.prog.funcs.toList.any Func.goes = false :=
  any_cut _ _ 500 goes0 (any_cut _ _ 500 goes1 (any_cut _ _ 500 goes2 goes3))
theorem goes_none {P : Program} (h : P.funcs.toList.any Func.goes = false) (f : FuncId) : P.goes f = false := by
  have h1 : ∀ g : Nat, (P.funcs[g]?).any Func.goes = false := by
    intro g
    cases hg : P.funcs[g]? with
    | none => rfl
    | some fn =>
      have hm : fn ∈ P.funcs.toList := by
        rw [Array.mem_toList_iff]
        exact Array.mem_of_getElem? hg
      have := List.any_eq_false.1 h fn hm
      simpa using this
  have h2 : P.funcs.any Func.goes = false := by rw [← Array.any_toList]; exact h
  unfold Program.goes
  rw [h2, Bool.and_false, Bool.or_false, List.any_eq_false]
  intro g _
  rw [h1 g]
  simp
theorem goesBy_none {P : Program} (h : P.funcs.toList.any Func.goes = false) {c : OpenClaim} (hs : c.start = .entering) : false = c.goesBy P := by
  unfold OpenClaim.goesBy Program.goesAt Program.goesFrom
  rw [hs]
  cases P.funcNamed c.func with
  | none => rfl
  | some f => simp [goes_none h f]
theorem cd4 : false = Rows.topWaitsRow.goesBy Tryz.pinned.checked.prog := goesBy_none (P := Tryz.prog) goes_all rfl
end Go.Proofs.YtflfeegpkckneaaGreatDoor

