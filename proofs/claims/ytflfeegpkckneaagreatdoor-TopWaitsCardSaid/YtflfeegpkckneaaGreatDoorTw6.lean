/- A part of the proof of TopWaits: see the last text of the claim. -/
import Derived.Test.YtflfeegpkckneaaGreatDoorTw4
import Derived.Test.YtflfeegpkckneaaGreatDoorTl
import Derived.Test.YtflfeegpkckneaaGreatDoorTw5
import Derived.ProofKit
import Derived.LaidMore
import Derived.OpenShut
import Derived.Carry
import Derived.Stop.Joined
import Derived.Test.YtflfeegpkckneaaGreatDoorTj11
set_option linter.unusedSectionVars false
set_option linter.unusedSimpArgs false
set_option linter.unusedVariables false
/- TopWaits: the row. -/
namespace Go.Proofs.YtflfeegpkckneaaGreatDoor
open Go Go.ChangeShapes Go.WideShapes Go.ChangeAt Go.RowKit

theorem door_met (os : Os) (args : Array Value) : laidMetH Tryz.prog tl ((wLaid os).forCall (fun _ _ => 0) ⟨#[], args, []⟩).memory :=
  laidMetH_of_parts (laidMet_of_run' 8 (dm1 os args) (dm2 os args)) (dm3 os args)

theorem rd22 : Tryz.prog.readableRec 22 = true := by kernel_rfl
theorem sz22 : 22 < Tryz.prog.types.size := of_decide_eq_true (by kernel_rfl)

theorem told_same {W W' : World} {e : Ending} (h : Go.Ax.TW.Told W e W') {p : MemPlace} (hp : p.block < W.heap.size) : W.sameAt W' p := by
  obtain ⟨_, _, _, _, h⟩ := h
  cases p with
  | cell b o => exact World.cell?_of_block (w := W) (h b hp)
  | map b => exact h b hp

theorem told_frame {W W' : World} {e : Ending} (h : Go.Ax.TW.Told W e W') (may : MemPlace → Prop) : W.keptBut W' may := by
  obtain ⟨_, h1, h2, _, h⟩ := h
  refine ⟨h1, h2, fun i hi => ?_⟩
  rw [h i hi]
  split <;> simp_all


set_option maxRecDepth 100000 in
theorem lifted (os : Os) (started : os.Started) (H : Type) (enc : TypeId × Value → H) :
    ReturnsInHanded {} Tryz.checked os 4 .any (fun w args => (Rows.topWaitsSpec.pre enc Tryz.prog Tryz.f4 [] false w args ∧ laidMetH Tryz.prog tl w) ∧ sizedMet enc Tryz.prog Tryz.f4 (OpenSpec.ofChange Rows.topWaitsSpec) false w args)
      (Rows.topWaitsSpec.post enc Tryz.prog Tryz.f4 false true false false) := by
  refine returnsInHanded_of_change_and (C := Tryz.checked) (X := fun w _ => laidMetH Tryz.prog tl w) (fun _ _ _ hh h => h.of_heap hh) own started (by kernel_rfl) Tryz.func4
    (ChangeSpec.witness_shaped (enc := enc) (C := Tryz.checked) (os := os) (X := fun w _ => laidMetH Tryz.prog tl w) false (wLaid os) wArgs 8 rfl (World.shaped_of_RefB (ws1 os) (ws2 os)) (ws3 os) (ws4 os enc) (ws5 os enc) (door_met os _)) ?_
  intro W base args ds gs before hval0 hW _ _ hL _
  have hval : ∀ (j : Nat) t v, Tryz.f4.params[j]? = some t → args[j]? = some v → Value.okWide Tryz.prog W .any base t v := hval0
  have hW' := hW
  obtain ⟨p, q, hA0, hV, rfl, hfz, hnd⟩ := hW
  have hA : DataW.TrodAll enc Tryz.prog W 0 (fun _ => true) true Tryz.f4.params.toList args.toList ds p := hA0
  rw [Tryz.params4] at hA hval
  obtain ⟨v0, v1, v2, v3, d0, d1, d2, d3, p0, p1, p2, p3, rfl, rfl, rfl, h0, h1, h2, h3⟩ := trodAll_four hA
  obtain ⟨rfl, rfl⟩ := trodVars_none hV
  have k0 := h0
  have lt0 : ∀ x ∈ p0, x.block < W.heap.size := by obtain ⟨m, hm⟩ := k0; exact DataW.trod_lt m _ _ _ hm
  have hlv := Go.Ax.TW.argOk_of (hval 0 22 v0 rfl rfl) h0
  obtain ⟨a1, rfl, rfl, rfl, w1⟩ := open_int Tryz.underlying5 (hval 1 5 v1 rfl rfl) h1
  obtain ⟨a2, rfl, rfl, rfl⟩ := open_bool Tryz.underlying4 (hval 2 4 v2 rfl rfl) h2
  obtain ⟨a3, rfl, rfl, rfl, w3⟩ := open_int Tryz.underlying3 (hval 3 3 v3 rfl rfl) h3
  clear hA0 hval0
  have hk := Go.Ax.TW.wf_u8 w1
  have he : IntKind.i64.wrap a3 = a3 := Go.Ax.TW.i64_can a3 (by
    simp [Lit.wf, IntKind.min, IntKind.max, IntKind.signed, IntKind.bits] at w3
    omega)
  refine (Go.Ax.TW.tw_calls (stack := a2) hlv hk he).mono fun e W' told => ?_
  have hee := told.1
  subst hee
  exact ⟨_, rfl, _, _, _, [], _, [], hW', trodAll_mk1 (shut_bool Tryz.underlying4 _),
    (trodAll_cons_mk (WideElems.Trod_stays closed.1 rd22 sz22 k0 (fun x hx => told_same told (lt0 x hx)) (fun x hx => by simpa using lt0 x hx))
      (trodAll_cons_mk (shut_int Tryz.underlying5 w1) (trodAll_cons_mk (shut_bool Tryz.underlying4 _) (trodAll_cons_mk (shut_int Tryz.underlying3 w3) trodAll_mk0)))), rfl, told_frame told _, fun h => by cases h⟩
end Go.Proofs.YtflfeegpkckneaaGreatDoor

/- TopWaits: the row holds. -/
namespace Go.Proofs.YtflfeegpkckneaaGreatDoor
open Go

theorem fn4 : Tryz.pinned.checked.prog.funcNamed Rows.topWaitsRow.func = some 4 := by kernel_rfl
theorem inst4 : Tryz.f4.isInstance Tryz.pinned.checked.prog Rows.topWaitsRow.origin Rows.topWaitsRow.targs := of_decide_eq_true (by kernel_rfl)
theorem wrap4 : Tryz.f4.isWrapper Tryz.pinned.checked.prog Rows.topWaitsRow.wrapper Rows.topWaitsRow.mainSum := by
  unfold Func.isWrapper
  first | (rw [if_pos (by decide +kernel)]; kernel_rfl) | (rw [if_neg (by decide +kernel)]; exact ⟨rfl, rfl⟩)

theorem topWaits_holds : Rows.TopWaitsSaid :=
  OpenClaim.holds_of_wide 4 Tryz.f4 rfl rfl rfl rfl rfl rfl rfl ⟨rfl, rfl, rfl, rfl, rfl⟩ rfl rfl rfl rfl rfl fn4 Tryz.func4 joined
    inst4 wrap4 (fun os started H enc _ => lifted os started H enc)
#print axioms topWaits_holds
end Go.Proofs.YtflfeegpkckneaaGreatDoor

