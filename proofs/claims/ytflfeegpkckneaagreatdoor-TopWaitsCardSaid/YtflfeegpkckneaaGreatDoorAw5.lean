/- A part of the proof of TopWaits: see the last text of the claim. -/
import Derived.Test.YtflfeegpkckneaaGreatDoorAw2
import Derived.Test.YtflfeegpkckneaaGreatDoorAw3
import Derived.Test.YtflfeegpkckneaaGreatDoorAw4
import Derived.Test.YtflfeegpkckneaaGreatDoorAx11
import Derived.Test.YtflfeegpkckneaaGreatDoorAx13
set_option linter.unusedSectionVars false
set_option linter.unusedSimpArgs false
set_option linter.unusedVariables false
/- awake: the smallest script, on each engine. -/
namespace Go.Ax.AW
open Go.Proofs

theorem e1 : enterOk bodies 0 Tryz.prog.funcs.toList = true := by kernel_rfl
theorem e2 : Nat.blt bodies (2 ^ Tryz.prog.funcs.size) = true := by kernel_rfl
theorem e3 : Tryz.prog.follows .mixedOrders = true := by kernel_rfl
theorem e4 : Tryz.prog.globals.size = 15 := by kernel_rfl
theorem awake_ok : awakeOk = true := by kernel_rfl

section
variable [Opq]

theorem ctx_ok : ctx.Ok := ok_of e1 e2 e3 (fun p hp => by cases hp)

theorem none_ok : SumsOk ctx (fun _ => none) := fun f g h => by cases h

theorem env0_ok : EnvOk ctx (call ctx (fun _ => none) 100000 300) := call_sound ctx_ok none_ok 100000 300

theorem play_spec {e : Nat} (h : playOk e = true) : ∃ r h' nx', playR e = some (.slice r 0 3 3 false, h', nx') ∧ h'.get r = some (.cells toldC 39 none) := by
  unfold playOk at h
  split at h
  · rename_i r h' nx' hr
    split at h
    · rename_i us el hg
      simp only [Bool.and_eq_true] at h
      have e1 := beqL_eq h.1
      have e2 := Nat.eq_of_beq_eq_true h.2
      subst e1; subst e2
      exact ⟨r, h', nx', hr, hg⟩
    · cases h
  · cases h

theorem play_all (e : Nat) (h : e < 3) : playOk e = true := by
  match e, h with
  | 0, _ => exact play0
  | 1, _ => exact play1
  | 2, _ => exact play2

theorem plainP : plainL passesC = true := by rfl
theorem plainT : plainL toldC = true := by rfl

theorem sums_ok : SumsOk ctx sumsP := by
  intro f g hg args h nx v h' nx' hrun φ w args' hr ha
  unfold sumsP at hg
  cases hb : Nat.beq f 58 with
  | false => rw [hb] at hg; cases hg
  | true =>
    rw [hb] at hg
    cases hg
    have hf := Nat.eq_of_beq_eq_true hb
    subst hf
    unfold sumPlay at hrun
    split at hrun
    rotate_left
    · cases hrun
    rename_i e b
    split at hrun
    rotate_left
    · cases hrun
    rename_i vs el op hget
    cases hc : beqL vs passesC && (decide (e = 0) || (decide (e = 1) || decide (e = 2))) with
    | false => rw [hc] at hrun; cases hrun
    | true =>
      rw [hc] at hrun
      cases hrun
      simp only [Bool.and_eq_true, Bool.or_eq_true, decide_eq_true_eq] at hc
      have hvs := beqL_eq hc.1
      subst hvs
      obtain ⟨n, hn, hn3⟩ : ∃ n : Nat, e = n ∧ n < 3 := ⟨e.toNat, by omega, by omega⟩
      subst hn
      obtain ⟨r, h1, nx1, hrun1, hget1⟩ := play_spec (play_all n hn3)
      exact small_call (C := ctx) (pre := [.int .i64 1, .int .i64 n]) (k := 15) (el := 95) env0_ok (show 15 = Tryz.prog.globals.size from e4.symm) hrun1 (by rfl) plainP hget1 plainT hr hget ha

theorem awake_spec : ∃ h' nx', call ctx sumsP 1000 100 (.fn 38) [] .leaf 15 = some (.bool true, h', nx') := by
  have h := awake_ok
  unfold awakeOk at h
  split at h
  · rename_i h' nx' hr; exact ⟨h', nx', hr⟩
  · cases h

theorem awake_done {φ : Inj} {h : Heap} {nx : Nat} {w : World} (hr : Rep Tryz.prog φ h nx w) : Calls Tryz.prog 38 #[] w (Done ctx φ h nx w (.bool true) h nx) := by
  obtain ⟨h', nx', hrun⟩ := awake_spec
  have hE : EnvOk ctx (call ctx sumsP 1000 100) := call_sound ctx_ok sums_ok 1000 100
  refine pure_bool (C := ctx) hE (f := 38) (b := true) (h' := h') (nx' := nx') ?_ hr
  show call ctx sumsP 1000 100 (.fn 38) [] .leaf Tryz.prog.globals.size = _
  rw [e4]; exact hrun

end
end Go.Ax.AW

