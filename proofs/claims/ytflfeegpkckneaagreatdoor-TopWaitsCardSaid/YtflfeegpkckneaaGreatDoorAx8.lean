/- A part of the proof of TopWaits: see the last text of the claim. -/
import Derived.Test.YtflfeegpkckneaaGreatDoorAx7
import Derived.RangeFuncRecord
set_option linter.unusedSectionVars false
set_option linter.unusedSimpArgs false
set_option linter.unusedVariables false
/- The abstract executor: one step; regions in the order of the text. -/
namespace Go.Ax
variable [Opq]

/-- the plain fence, in a round or not -/
def FW (r : Option Nat) : Fence := { Fence.wide with round := r }

theorem FW_fn (r : Option Nat) (f : FuncId) : (FW r).fn f := trivial
theorem FW_depth (r : Option Nat) (n : Nat) : (FW r).depth.isSome = true → 1 ≤ n := fun h => by cases h
theorem FW_none : FW none = Fence.wide := rfl

def Done (C : Ctx) (φ : Inj) (h : Heap) (nx : Nat) (w : World) (v : AV) (h' : Heap) (nx' : Nat) : Ending → World → Prop :=
  fun e w' => ∃ φ' v', e = .returned v' ∧ conc φ' v = some v' ∧ Rep C.P φ' h' nx' w' ∧ Chg φ h nx w φ' h' nx' w'

structure EnvOk (C : Ctx) (env : Env) : Prop where
  fn : ∀ f args h nx v h' nx', env (.fn f) args h nx = some (v, h', nx') → ∀ φ w args', Rep C.P φ h nx w → concL φ args = some args' →
    Calls C.P f args'.toArray w (Done C φ h nx w v h' nx')
  dfn : ∀ f args h nx v h' nx', env (.dfn f) args h nx = some (v, h', nx') → ∀ φ w args', Rep C.P φ h nx w → concL φ args = some args' →
    ∀ u, CallsDIn Fence.wide 0 C.P f args'.toArray u w fun e u' w' => u' = u ∧ Done C φ h nx w v h' nx' e w'
  yield : ∀ l args h nx v h' nx', env (.yield l) args h nx = some (v, h', nx') → ∀ φ w args' L d x, Rep C.P φ h nx w → concL φ args = some args' → φ l = some (L, d, x) →
    ∃ f tmps assign body, (Instr.yield L args'.toArray).run C.P w = .ok (.round L f tmps assign body) w ∧ RoundIn Fence.wide 0 C.P L f tmps assign body w (Done C φ h nx w v h' nx')

def DsRel (φ : Inj) : List ADef → List Deferred → Prop
  | [], [] => True
  | .call fn captured args :: l, d :: m => (∃ fn' captured' args', concFn φ fn = some fn' ∧ concL φ captured = some captured' ∧ concL φ args = some args' ∧ d = { target := .fn fn' captured'.toArray, args := args'.toArray }) ∧ DsRel φ l m
  | .mark r :: l, d :: m => (∃ R dd x, φ r = some (R, dd, x) ∧ d = { target := .collected R, args := #[] }) ∧ DsRel φ l m
  | _, _ => False

theorem DsRel.mono {φ ψ : Inj} (hle : φ.le ψ) : ∀ {l : List ADef} {m : List Deferred}, DsRel φ l m → DsRel ψ l m
  | [], [], _ => trivial
  | [], _ :: _, h => h
  | .call _ _ _ :: _, [], h => h
  | .mark _ :: _, [], h => h
  | .call fn c a :: l, d :: m, h => by
    obtain ⟨⟨fn', c', a', h1, h2, h3, h4⟩, h5⟩ := h
    exact ⟨⟨fn', c', a', concFn_mono hle h1, concL_mono hle _ _ h2, concL_mono hle _ _ h3, h4⟩, h5.mono hle⟩
  | .mark r :: l, d :: m, h => by
    obtain ⟨⟨R, dd, x, h1, h2⟩, h5⟩ := h
    exact ⟨⟨R, dd, x, hle _ _ h1, h2⟩, h5.mono hle⟩

structure St (C : Ctx) (φ : Inj) (s : AS) (w : World) (a : Act) : Prop where
  rep : Rep C.P φ s.h s.nx w
  ts : TsRel φ s.ts a.tmps
  ds : DsRel φ s.ds a.defers
  nt : a.tmps.size = s.nt

section
variable {C : Ctx} {env : Env} {φ : Inj} {w : World} {a : Act} {o : Oper}

theorem conc_undef (φ : Inj) : conc φ undefA = some undef := rfl

theorem ev_put (ts : Tmps) (d : Nat) (v : AV) (t : Nat) : ev (ts.put d (some v)) (.tmp t) = if t = d then v else ev ts (.tmp t) := by
  by_cases h : t = d
  · subst h; simp only [ev, T.get_put_same, if_true]
  · simp only [ev, T.get_put_ne _ _ h, if_neg h]

theorem TsRel.put {ts : Tmps} {tmps : Array Value} (h : TsRel φ ts tmps) {d : Nat} {v : AV} {v' : Value} (hd : d < tmps.size) (hv : conc φ v = some v') :
    TsRel φ (ts.put d (some v)) (tmps.setIfInBounds d v') := by
  intro t
  rw [ev_put]
  split
  · rename_i e; subst e
    rw [hv]
    simp [hd]
  · rename_i e
    rw [h t]
    simp only [Array.getD_eq_getD_getElem?, Array.getElem?_setIfInBounds]
    rw [if_neg (fun e' => e e'.symm)]

theorem TsRel.putD {ts : Tmps} (h : TsRel φ ts a.tmps) {dst : Option Nat} {v : AV} {v' : Value} (hd : dstOk a.tmps.size dst = true) (hv : conc φ v = some v') :
    TsRel φ (putD ts dst v) (a.put dst v').tmps := by
  cases dst with
  | none => exact h
  | some d => exact h.put (Nat.le_of_ble_eq_true hd) hv

theorem put_size (a : Act) (dst : Option Nat) (v : Value) : (a.put dst v).tmps.size = a.tmps.size := by
  cases dst <;> simp [Act.put]

theorem put_defers (a : Act) (dst : Option Nat) (v : Value) : (a.put dst v).defers = a.defers := by
  cases dst <;> rfl

theorem Rep.lower {P : Program} {h : Heap} {nx nx' : Nat} (r : Rep P φ h nx' w) (hf : ∀ b, nx ≤ b → φ b = none) : Rep P φ h nx w :=
  { r with fresh := hf }

theorem Eff.chg {h h' : Heap} {w' : World} {φ' : Inj} {nx nx' nm : Nat} (e : Eff φ h w nm φ' h' w') (h1 : nx ≤ nm) (h2 : nx ≤ nx') : Chg φ h nx w φ' h' nx' w' where
  ext := fun b hb => e.ext b (by omega)
  nx := h2
  os := e.os
  out := e.out
  size := e.size
  frame := e.frame
  dom := e.dom

theorem norm_d {fs : List (AV × AV)} {r : Option Res} {r' : Res} (h : norm fs r = some r') (hr : ∀ fn c a, r' ≠ .d fn c a) : ∃ r0, r = some r0 ∧ ∀ fn c a, r0 ≠ .d fn c a := by
  cases r with
  | none => cases h
  | some r0 =>
    refine ⟨r0, rfl, fun fn c a e => ?_⟩
    subst e
    cases h
    exact hr _ _ _ rfl

theorem not_defer {nm : Nat} {ts : Tmps} {h : Heap} {r : Res} (hop : op1 C (compOp C.P o) nm ts h = some r) (hr : ∀ fn c a, r ≠ .d fn c a) : ∀ c, o.op ≠ .defer c := by
  unfold op1 at hop
  obtain ⟨r, hop, hr⟩ := norm_d hop hr
  intro c hc
  unfold compOp at hop
  split at hop
  rotate_left
  · simp [op0] at hop
  rename_i ao' hcomp
  simp only [compOp?, hc] at hcomp
  split at hcomp
  · split at hcomp
    · cases hcomp
      simp only [op0] at hop
      split at hop
      · cases hop; exact hr _ _ _ rfl
      · cases hop
    · cases hcomp
  · cases hcomp

theorem semAt_of {r : Option Nat} (ρ : Operand → Value) (h : r = none ∨ ∀ c, o.op ≠ .defer c) : o.semAt r ρ = execOp ρ o := by
  rcases h with rfl | h
  · rfl
  · unfold Oper.semAt
    split
    · rename_i c hc; exact absurd hc (h c)
    · rfl

theorem nxt_ge (nx nm : Nat) : nx ≤ nxt nx nm ∧ nm < nxt nx nm := by
  unfold nxt
  cases h : Nat.ble nx nm with
  | true => have := Nat.le_of_ble_eq_true h; simp only [cond_true]; omega
  | false =>
    have : ¬ nx ≤ nm := fun h' => by rw [Nat.ble_eq_true_of_le h'] at h; cases h
    simp only [cond_false]; omega

theorem IsVal.next {n : Next} {v : Value} (h : IsVal n v) : (n = .value v) ∨ (n = .skip ∧ v = undef) := by
  cases h
  · exact .inl rfl
  · exact .inr ⟨rfl, rfl⟩

/-- one operation -/
theorem step_sound (hC : C.Ok) (hE : EnvOk C env) {ro : Option Nat} {rd : Bool} (hrd : rd = false → ro = none) {n : Nat} {ao : AOper} (hao : ao.op = compOp C.P o) (hdst : ao.dst = o.dst)
    {s s' : AS} {nm : Nat} (hs : St C φ s w a) (hn : φ nm = none) (hd : dstOk s.nt ao.dst = true) (hstep : step1 C env rd ao nm s = some s')
    {K : Act → World → Prop} {Q : Exit → Act → World → Prop}
    (hK : ∀ φ' a' w', St C φ' s' w' a' → (∀ b, b ≠ nm → b < s.nx → φ' b = φ b) → (s.nx ≤ nm → Chg φ s.h s.nx w φ' s'.h s'.nx w') → (φ' nm = φ nm ∨ nm < s'.nx) →
      (w'.os = w.os ∧ w'.output = w.output ∧ w.heap.size ≤ w'.heap.size ∧ (∀ i, i < w.heap.size → (∀ b o, s.h.get b = some o → ¬ φ.owns o b i) → w'.heap[i]? = w.heap[i]?) ∧
        (∀ b o B, s'.h.get b = some o → φ'.owns o b B → w.heap.size ≤ B ∨ ∃ b0 o0, s.h.get b0 = some o0 ∧ φ.owns o0 b0 B)) → s'.nt = s.nt → s.nx ≤ s'.nx → K a' w') :
    o.wpIn (FW ro) n C.P a w K Q := by
  refine ⟨fun f _ => FW_fn ro f, ?_⟩
  show Oper.uponIn (FW ro) n C.P o a K Q ((o.semAt ro a.eval).run C.P w)
  have hi : In C φ s.h (nxt s.nx nm) w s.ts a := ⟨hs.rep.more (nxt_ge _ _).1, hs.ts⟩
  unfold step1 at hstep
  split at hstep
  · -- a value
    rename_i v hop
    cases hstep
    rw [hao] at hop
    have hnd := not_defer hop (by simp)
    obtain ⟨nxv, v', hrun, hval, hv⟩ := op1_sound hC hi hn (nxt_ge _ _).2 hop
    rw [semAt_of _ (.inr hnd), hrun]
    have hk : K (a.put o.dst v') w := by
      refine hK φ _ w ⟨hs.rep, ?_, ?_, ?_⟩ (fun _ _ _ => rfl) (fun _ => Chg.refl ..) (.inl rfl) ⟨rfl, rfl, Nat.le_refl _, fun _ _ _ => rfl, fun b o B h1 h2 => .inr ⟨b, o, h1, h2⟩⟩ rfl (Nat.le_refl _)
      · rw [hdst]; exact hs.ts.putD (by rw [hs.nt, ← hdst]; exact hd) hv
      · rw [put_defers]; exact hs.ds
      · rw [put_size]; exact hs.nt
    rcases hval.next with rfl | ⟨rfl, rfl⟩ <;> exact hk
  · -- a new block
    rename_i v ob ed hop
    cases hstep
    rw [hao] at hop
    have hnd := not_defer hop (by simp)
    obtain ⟨nxv, v', w', φ', hrun, hval, hv, hrep, heff⟩ := op1_sound hC hi hn (nxt_ge _ _).2 hop
    rw [semAt_of _ (.inr hnd), hrun]
    have hle : φ.le φ' := fun b x hb => by rw [heff.ext b (fun e => by subst e; rw [hn] at hb; cases hb)]; exact hb
    have hk : K (a.put o.dst v') w' := by
      refine hK φ' _ w' ⟨hrep, ?_, ?_, ?_⟩ (fun b hb _ => heff.ext b hb) (fun h => heff.chg h (nxt_ge _ _).1) (.inr (nxt_ge _ _).2) ⟨heff.os, heff.out, heff.size, heff.frame, heff.dom⟩ rfl (nxt_ge _ _).1
      · rw [hdst]; exact (hs.ts.mono hle).putD (by rw [hs.nt, ← hdst]; exact hd) hv
      · rw [put_defers]; exact hs.ds.mono hle
      · rw [put_size]; exact hs.nt
    rcases hval.next with rfl | ⟨rfl, rfl⟩ <;> exact hk
  · rename_i v ob ed hop
    cases hstep
    rw [hao] at hop
    have hnd := not_defer hop (by simp)
    obtain ⟨⟨nxv, v', w', φ', hrun, hval, hv, hrep, heff⟩, _⟩ := op1_sound hC hi hn (nxt_ge _ _).2 hop
    rw [semAt_of _ (.inr hnd), hrun]
    have hle : φ.le φ' := fun b x hb => by rw [heff.ext b (fun e => by subst e; rw [hn] at hb; cases hb)]; exact hb
    have hk : K (a.put o.dst v') w' := by
      refine hK φ' _ w' ⟨hrep, ?_, ?_, ?_⟩ (fun b hb _ => heff.ext b hb) (fun h => heff.chg h (nxt_ge _ _).1) (.inr (nxt_ge _ _).2) ⟨heff.os, heff.out, heff.size, heff.frame, heff.dom⟩ rfl (nxt_ge _ _).1
      · rw [hdst]; exact (hs.ts.mono hle).putD (by rw [hs.nt, ← hdst]; exact hd) hv
      · rw [put_defers]; exact hs.ds.mono hle
      · rw [put_size]; exact hs.nt
    rcases hval.next with rfl | ⟨rfl, rfl⟩ <;> exact hk
  · -- a block that is written
    rename_i v h' hop
    cases hstep
    rw [hao] at hop
    have hnd := not_defer hop (by simp)
    obtain ⟨nxv, v', w', hrun, hval, hv, hrep, heff⟩ := op1_sound hC hi hn (nxt_ge _ _).2 hop
    rw [semAt_of _ (.inr hnd), hrun]
    have heff2 : Eff φ s.h w s.nx φ h' w' := { heff with ext := fun _ _ => rfl }
    have hk : K (a.put o.dst v') w' := by
      refine hK φ _ w' ⟨hrep.lower hs.rep.fresh, ?_, ?_, ?_⟩ (fun b _ _ => rfl) (fun _ => heff2.chg (Nat.le_refl _) (Nat.le_refl _)) (.inl rfl) ⟨heff.os, heff.out, heff.size, heff.frame, heff.dom⟩ rfl (Nat.le_refl _)
      · rw [hdst]; exact hs.ts.putD (by rw [hs.nt, ← hdst]; exact hd) hv
      · rw [put_defers]; exact hs.ds
      · rw [put_size]; exact hs.nt
    rcases hval.next with rfl | ⟨rfl, rfl⟩ <;> exact hk
  · -- a call
    rename_i f args hop
    rw [hao] at hop
    have hnd := not_defer hop (by simp)
    have hpost := op1_sound hC hi hn (nxt_ge _ _).2 hop
    split at hstep
    rotate_left
    · cases hstep
    rename_i v h' nx' henv
    cases hstep
    have fin : ∀ e w', Done C φ s.h s.nx w v h' nx' e w' → ∃ v', e = .returned v' ∧ K (a.put o.dst v') w' := by
      rintro e w' ⟨φ', v', rfl, hv, hrep, hchg⟩
      have hle := hs.rep.le hchg
      refine ⟨v', rfl, hK φ' _ w' ⟨hrep, ?_, ?_, ?_⟩ (fun b _ hb => hchg.ext b hb) (fun _ => hchg) ?_ ⟨hchg.os, hchg.out, hchg.size, hchg.frame, hchg.dom⟩ rfl hchg.nx⟩
      · rw [hdst]; exact (hs.ts.mono hle).putD (by rw [hs.nt, ← hdst]; exact hd) hv
      · rw [put_defers]; exact hs.ds.mono hle
      · rw [put_size]; exact hs.nt
      · rcases Nat.lt_or_ge nm s.nx with h1 | h1
        · exact .inl (hchg.ext nm h1)
        · rcases Nat.lt_or_ge nm nx' with h2 | h2
          · exact .inr h2
          · left; rw [hrep.fresh nm h2, hn]
    rw [semAt_of _ (.inr hnd)]
    cases f with
    | dfn f => exact hpost.elim
    | fn f =>
      obtain ⟨args', hrun, hargs⟩ := hpost
      rw [hrun]
      refine ⟨FW_depth ro n, ?_⟩
      have hcalls := hE.fn f args s.h s.nx v h' nx' henv φ w args'.toList hs.rep hargs
      rw [Array.toArray_toList] at hcalls
      have hin : CallsIn (FW ro) (n - 1) C.P f args' w (Done C φ s.h s.nx w v h' nx') := callsIn_wide.2 hcalls
      refine hin.mono fun e w' hdone => ?_
      obtain ⟨v', rfl, hk⟩ := fin e w' hdone
      exact hk
    | yield l =>
      obtain ⟨L, d, x, args', hL, hrun, hargs⟩ := hpost
      obtain ⟨f, tmps, assign, body, hy, hround⟩ := hE.yield l args s.h s.nx v h' nx' henv φ w args'.toList L d x hs.rep hargs hL
      rw [Array.toArray_toList] at hy
      rw [hrun, hy]
      refine ⟨FW_depth ro n, ?_⟩
      have hr2 : RoundIn (FW ro) (n - 1) C.P L f tmps assign body w (Done C φ s.h s.nx w v h' nx') := ⟨trivial, fun c cs _ => hround.2 c cs (fun d hd => by cases hd)⟩
      refine hr2.mono fun e w' hdone => ?_
      obtain ⟨v', rfl, hk⟩ := fin e w' hdone
      exact hk
  · -- a deferred call
    rename_i fn captured args hop
    cases rd with
    | true => cases hstep
    | false =>
      cases hstep
      rw [hao] at hop
      obtain ⟨fn', captured', args', h1, h2, h3, hrun⟩ := op1_sound hC hi hn (nxt_ge _ _).2 hop
      rw [semAt_of _ (.inl (hrd rfl)), hrun w]
      refine hK φ _ w ⟨hs.rep, ?_, ?_, ?_⟩ (fun _ _ _ => rfl) (fun _ => Chg.refl ..) (.inl rfl) ⟨rfl, rfl, Nat.le_refl _, fun _ _ _ => rfl, fun b o B h1 h2 => .inr ⟨b, o, h1, h2⟩⟩ rfl (Nat.le_refl _)
      · rw [hdst]
        have hd' : dstOk a.tmps.size o.dst = true := by rw [hs.nt, ← hdst]; exact hd
        exact TsRel.putD (a := { tmps := a.tmps, defers := { target := .fn fn' captured'.toArray, args := args'.toArray } :: a.defers }) hs.ts hd' (conc_undef φ)
      · rw [put_defers]
        exact ⟨⟨fn', captured', args', h1, h2, h3, rfl⟩, hs.ds⟩
      · rw [put_size]; exact hs.nt
  · cases hstep

/-- where the run stands behind a piece of code -/
structure Post (C : Ctx) (φ : Inj) (s : AS) (w : World) (s' : AS) (φ' : Inj) (a' : Act) (w' : World) : Prop where
  st : St C φ' s' w' a'
  chg : Chg φ s.h s.nx w φ' s'.h s'.nx w'
  nt : s'.nt = s.nt

theorem Post.refl {s : AS} (hs : St C φ s w a) : Post C φ s w s φ a w := ⟨hs, Chg.refl .., rfl⟩

theorem Post.trans {s s1 s2 : AS} {φ1 φ2 : Inj} {w1 w2 : World} {a1 a2 : Act} (h1 : Post C φ s w s1 φ1 a1 w1) (h2 : Post C φ1 s1 w1 s2 φ2 a2 w2) : Post C φ s w s2 φ2 a2 w2 :=
  ⟨h2.st, h1.chg.trans h2.chg, h2.nt.trans h1.nt⟩

theorem wanted_eq {ts : Tmps} (ht : TsRel φ ts a.tmps) (ops : Array Oper) (o : Oper) (hgd : guardOk ts (guardOf ops o) = true) : Region.wanted o (yielded ops a.tmps) = wantedA ts (guardOf ops o) := by
  have hgs : ∀ g w v, guardOf ops o = some (some g, w) → ts.get g = some v → isSym v = false := by
    intro g w v e1 e2
    rw [e1] at hgd
    simp only [guardOk, e2] at hgd
    simpa using hgd
  unfold Region.wanted guardOf
  cases hg : o.guard with
  | none => rfl
  | some p =>
    obtain ⟨j, want⟩ := p
    simp only [yielded]
    cases hd : (ops[j]?).bind (·.dst) with
    | none => rfl
    | some g =>
      have h1 := ht g
      simp only [Option.bind_some, wantedA]
      simp only [ev] at h1
      rw [Array.getD_eq_getD_getElem?] at h1
      cases hv : ts.get g with
      | none =>
        rw [hv] at h1
        simp only [undefA, conc, concL, Option.some.injEq] at h1
        cases hq : a.tmps[g]? with
        | none => rfl
        | some v => rw [hq] at h1; simp only [Option.getD_some] at h1; rw [← h1]; rfl
      | some v =>
        rw [hv] at h1
        simp only at h1
        have hgd2 := hgs g want v (by simp only [guardOf, hg, hd]) hv
        cases v with
        | sym k f args => cases hgd2
        | bool b =>
          have := conc_bool h1
          cases hq : a.tmps[g]? with
          | none => rw [hq] at this; simp [undef] at this
          | some v =>
            rw [hq] at this
            simp only [Option.getD_some] at this
            subst this
            simp
        | _ =>
          have hnb : ∀ b, a.tmps[g]?.getD undef ≠ .bool b := by
            intro b e
            rw [e] at h1
            first
              | (cases conc_int h1; done)
              | (cases conc_str h1; done)
              | (cases conc_nilptr h1; done)
              | (obtain ⟨_, _, _, _, h⟩ := conc_ptr h1; cases h; done)
              | (cases conc_nilslice h1; done)
              | (obtain ⟨_, _, _, _, h⟩ := conc_slice h1; cases h; done)
              | (cases conc_nilmap h1; done)
              | (obtain ⟨_, _, _, _, h⟩ := conc_map h1; cases h; done)
              | (cases conc_nilFunc h1; done)
              | (obtain ⟨_, _, _, _, _, _, h⟩ := conc_func h1; cases h; done)
              | (obtain ⟨_, _, h⟩ := conc_iface h1; cases h; done)
              | (cases conc_nilIface h1; done)
              | (obtain ⟨_, _, h⟩ := conc_agg h1; cases h; done)
              | (obtain ⟨_, _, h⟩ := conc_tuple h1; cases h; done)
              | (obtain ⟨_, _, _, _, h⟩ := conc_sstr h1; cases h; done)
          cases hq : a.tmps[g]? with
          | none => rfl
          | some v =>
            rw [hq] at hnb
            simp only [Option.getD_some] at hnb
            cases v with
            | bool b => exact absurd rfl (hnb b)
            | _ => rfl

/-- an operation that is left out -/
theorem skip_sound {s : AS} {ao : AOper} (hdst : ao.dst = o.dst) (hs : St C φ s w a) (hd : dstOk s.nt ao.dst = true) :
    St C φ { s with ts := putD s.ts ao.dst undefA } w (a.put o.dst undef) := by
  refine ⟨hs.rep, ?_, ?_, ?_⟩
  · rw [hdst]; exact hs.ts.putD (by rw [hs.nt, ← hdst]; exact hd) (conc_undef φ)
  · rw [put_defers]; exact hs.ds
  · rw [put_size]; exact hs.nt

theorem runOps_sound (hC : C.Ok) (hE : EnvOk C env) {ro : Option Nat} {rd : Bool} (hrd : rd = false → ro = none) {n : Nat} {ops : Array Oper} {Q : Exit → Act → World → Prop} :
    ∀ (l : List Oper) (i : Nat) (acc : List Nat), ops.toList.drop i = l → ∀ (s s' : AS) (φ : Inj) (w : World) (a : Act), runOps C env rd (compOps C.P ops l acc) s = some s' → St C φ s w a →
      (∀ φ' a' w', Post C φ s w s' φ' a' w' → Q .normal a' w') → wpOpsIn (FW ro) n C.P ops Q (List.range' i l.length) a w
  | [], i, acc, _, s, s', φ, w, a, hrun, hs, hQ => by
    simp only [compOps, runOps] at hrun; cases hrun
    exact hQ φ a w (Post.refl hs)
  | o :: l, i, acc, hl, s, s', φ, w, a, hrun, hs, hQ => by
    have hget : ops[i]? = some o := by
      rw [← Array.getElem?_toList]
      have := congrArg (fun x : List Oper => x[0]?) hl
      simpa using this
    have hl' : ops.toList.drop (i + 1) = l := by
      rw [← List.drop_drop, hl]; rfl
    simp only [compOps, runOps] at hrun
    simp only [List.length_cons, List.range'_succ, wpOpsIn, hget]
    cases hdg : dstOk s.nt o.dst && guardOk s.ts (guardOf ops o) with
    | false => rw [hdg] at hrun; cases hrun
    | true =>
      rw [hdg] at hrun
      simp only [cond_true] at hrun
      rw [Bool.and_eq_true] at hdg
      obtain ⟨hd, hgd⟩ := hdg
      have hw := wanted_eq hs.ts ops o hgd
      cases hwa : wantedA s.ts (guardOf ops o) with
      | true =>
        rw [hwa] at hrun hw
        simp only at hrun
        rw [hw]
        simp only [if_true]
        split at hrun
        rotate_left
        · cases hrun
        rename_i s1 hstep
        refine step_sound (ao := { dst := o.dst, op := compOp C.P o, guard := _, anc := _ }) hC hE hrd rfl rfl hs (hs.rep.fresh s.nx (Nat.le_refl _)) hd hstep ?_
        intro φ1 a1 w1 hs1 _ hchg _ _ hnt _
        have hpost1 : Post C φ s w s1 φ1 a1 w1 := ⟨hs1, hchg (Nat.le_refl _), hnt⟩
        exact runOps_sound hC hE hrd l (i + 1) _ hl' s1 s' φ1 w1 a1 hrun hs1 fun φ2 a2 w2 hp => hQ φ2 a2 w2 (hpost1.trans hp)
      | false =>
        rw [hwa] at hrun hw
        simp only at hrun
        rw [hw]
        simp only [Bool.false_eq_true, if_false]
        refine ⟨fun f _ => FW_fn ro f, ?_⟩
        have hs1 := skip_sound (ao := { dst := o.dst, op := .bad, guard := none, anc := 0 }) rfl hs hd
        have hpost1 : Post C φ s w { s with ts := putD s.ts o.dst undefA } φ (a.put o.dst undef) w := ⟨hs1, Chg.refl .., rfl⟩
        exact runOps_sound hC hE hrd l (i + 1) _ hl' _ s' φ w _ hrun hs1 fun φ2 a2 w2 hp => hQ φ2 a2 w2 (hpost1.trans hp)

theorem region_sound (hC : C.Ok) (hE : EnvOk C env) {ro : Option Nat} {rd : Bool} (hrd : rd = false → ro = none) {n id : Nat} {ops : Array Oper} {Q : Exit → Act → World → Prop} {s s' : AS}
    (hrun : runOps C env rd (compOps C.P ops ops.toList []) s = some s') (hs : St C φ s w a) (hQ : ∀ φ' a' w', Post C φ s w s' φ' a' w' → Q .normal a' w') :
    (Code.region id ops false).wpIn (FW ro) n C.P Q a w := by
  refine wpIn_region ?_
  have := runOps_sound (n := n) hC hE hrd ops.toList 0 [] (by simp) s s' φ w a hrun hs hQ
  rwa [List.range_eq_range', show ops.size = ops.toList.length from by simp]

end
end Go.Ax

/- The abstract executor: what an operation depends on. -/
namespace Go.Ax

theorem memN_iff (n : Nat) : ∀ l, memN n l = true ↔ n ∈ l
  | [] => by simp [memN]
  | a :: l => by
    simp only [memN, Bool.or_eq_true, memN_iff n l, List.mem_cons]
    constructor
    · rintro (h | h)
      · exact .inl (Nat.eq_of_beq_eq_true h).symm
      · exact .inr h
    · rintro (rfl | h)
      · exact .inl (Nat.beq_refl _)
      · exact .inr h

section
variable {ts ts' : Tmps}

theorem ev_cg {x : Opd} (h : ∀ t ∈ usesO x, ev ts (.tmp t) = ev ts' (.tmp t)) : ev ts x = ev ts' x := by
  cases x with
  | tmp t => exact h t (by simp [usesO])
  | const v => rfl

theorem evO_cg {x : Option Opd} (h : ∀ t ∈ usesOO x, ev ts (.tmp t) = ev ts' (.tmp t)) : evO ts x = evO ts' x := by
  cases x with
  | none => rfl
  | some x => simp only [evO]; rw [ev_cg (x := x) h]

theorem evL_cg : ∀ {l : List Opd}, (∀ t ∈ usesL l, ev ts (.tmp t) = ev ts' (.tmp t)) → evL ts l = evL ts' l
  | [], _ => rfl
  | x :: l, h => by
    simp only [evL]
    rw [ev_cg (x := x) (fun t ht => h t (by simp [usesL, ht])), evL_cg (l := l) (fun t ht => h t (by simp [usesL, ht]))]

theorem evParts_cg : ∀ {l : List (Nat × Nat × Opd)}, (∀ t ∈ usesP l, ev ts (.tmp t) = ev ts' (.tmp t)) → evParts ts l = evParts ts' l
  | [], _ => rfl
  | (i, j, x) :: l, h => by
    simp only [evParts]
    rw [ev_cg (x := x) (fun t ht => h t (by simp [usesP, ht])), evParts_cg (l := l) (fun t ht => h t (by simp [usesP, ht]))]

/-- an operation looks at its operands alone -/
theorem op0_cg {C : Ctx} {nm : Nat} {h : Heap} {o : AOp} (hu : ∀ t ∈ usesOp o, ev ts (.tmp t) = ev ts' (.tmp t)) : op0 C o nm ts h = op0 C o nm ts' h := by
  cases o <;> simp only [usesOp, List.mem_append, List.not_mem_nil, false_implies, implies_true, or_imp, forall_and] at hu <;> simp only [op0] <;>
    first
      | rfl
      | (rw [ev_cg hu])
      | (rw [evL_cg hu])
      | (rw [evParts_cg hu])
      | (rw [ev_cg hu.1, ev_cg hu.2])
      | (rw [ev_cg hu.1, evL_cg hu.2])
      | (rw [evL_cg hu.1, evL_cg hu.2])
      | (rw [ev_cg hu.1, evO_cg hu.2.1, evO_cg hu.2.2])
      | (rw [ev_cg hu.1, evO_cg hu.2.1, evO_cg hu.2.2.1, evO_cg hu.2.2.2])
      | (rw [ev_cg hu.1, ev_cg hu.2.1, ev_cg hu.2.2])

end

/-- a fresh block's operation looks at no heap -/
theorem op0_pure {C : Ctx} {nm : Nat} {ts : Tmps} {h h' : Heap} {o : AOp} (hp : pureFresh o = true) : op0 C o nm ts h = op0 C o nm ts h' := by
  cases o <;> first | rfl | (simp [pureFresh] at hp)

theorem op0_noq {C : Ctx} {nm : Nat} {ts : Tmps} {h : Heap} {o : AOp} {v : AV} {ob : AObj} {ed : Option (Nat × Option AObj)} (hp : pureFresh o = true) (hop : op0 C o nm ts h = some (.f v ob ed)) : isOpq ob = false := by
  cases o <;> (try (simp [pureFresh] at hp; done)) <;> simp only [op0] at hop
  · cases hop; rfl
  · rename_i e x
    cases hn : notAny (ev ts x) with
    | false => rw [hn] at hop; cases hop
    | true => rw [hn] at hop; cases hop; rfl
  · split at hop
    · split at hop
      · cases hop; rfl
      · cases hop
    · cases hop
  · cases hop; rfl
  · split at hop
    · split at hop
      · cases hop; rfl
      · cases hop
    · cases hop
  · split at hop
    · cases hop; rfl
    · cases hop; rfl
    · cases hop

theorem op0_quiet {C : Ctx} {nm : Nat} {ts : Tmps} {h h' : Heap} {o : AOp} {v : AV} (hr : readsHeap o = false) (hl : isLoud o = false) (hq : op0 C o nm ts h = some (.q v)) :
    op0 C o nm ts h' = some (.q v) := by
  cases o <;> first
    | exact hq
    | (simp [readsHeap] at hr; done)
    | (simp [isLoud] at hl; done)
    | skip
  rename_i es x lo hi mx
  simp only [op0] at hq ⊢
  split at hq <;> first | exact hq | (cases hq; done) | skip
  generalize hop : opOf mx _ = op' at hq ⊢
  cases op'
  · exact hq
  · split at hq
    · split at hq
      · rename_i hm
        rw [if_pos hm]
        simp only at hq ⊢
        split at hq
        · exact hq
        · split at hq
          · split at hq <;> cases hq
          · cases hq
      · rename_i hm; rw [if_neg hm]; exact hq
    · cases hq

theorem op1_cg {C : Ctx} {nm : Nat} {h : Heap} {o : AOp} {ts ts' : Tmps} (hu : ∀ t ∈ usesOp o, ev ts (.tmp t) = ev ts' (.tmp t)) : op1 C o nm ts h = op1 C o nm ts' h := by
  unfold op1; rw [op0_cg hu]

theorem op1_pure {C : Ctx} {nm : Nat} {ts : Tmps} {h h' : Heap} {o : AOp} (hp : pureFresh o = true) : op1 C o nm ts h = op1 C o nm ts h' := by
  unfold op1; rw [op0_pure hp]

theorem norm_f {fs : List (AV × AV)} {r : Option Res} {v : AV} {ob : AObj} {ed : Option (Nat × Option AObj)} (h : norm fs r = some (.f v ob ed)) : r = some (.f v ob ed) := by
  cases r with
  | none => cases h
  | some r0 => cases r0 <;> cases h; rfl

theorem op1_noq {C : Ctx} {nm : Nat} {ts : Tmps} {h : Heap} {o : AOp} {v : AV} {ob : AObj} {ed : Option (Nat × Option AObj)} (hp : pureFresh o = true) (hop : op1 C o nm ts h = some (.f v ob ed)) : isOpq ob = false :=
  op0_noq hp (norm_f hop)

theorem norm_q {fs : List (AV × AV)} {r : Option Res} {v : AV} (h : norm fs r = some (.q v)) : ∃ v0, r = some (.q v0) := by
  cases r with
  | none => cases h
  | some r0 => cases r0 <;> first | exact ⟨_, rfl⟩ | cases h

theorem op1_quiet {C : Ctx} {nm : Nat} {ts : Tmps} {h h' : Heap} {o : AOp} {v : AV} (hr : readsHeap o = false) (hl : isLoud o = false) (hq : op1 C o nm ts h = some (.q v)) :
    op1 C o nm ts h' = some (.q v) := by
  unfold op1 at hq ⊢
  obtain ⟨v0, h0⟩ := norm_q hq
  rw [op0_quiet (h' := h') hr hl h0, ← h0, hq]

/-! ### the pending blocks -/
theorem absorb_inv {anc : Nat} {b : Nat} {o : AObj} : ∀ {pd : Pend} {h : Heap}, (absorb anc pd h).get b = some o →
    (∃ j, (j, b, o) ∈ pd ∧ anc.testBit j = true) ∨ h.get b = some o
  | [], h, hg => .inr hg
  | (i, nm, ob) :: l, h, hg => by
    simp only [absorb] at hg
    cases hb : anc.testBit i with
    | false =>
      rw [hb] at hg
      simp only [cond_false] at hg
      rcases absorb_inv hg with ⟨j, h1, h2⟩ | h1
      · exact .inl ⟨j, by simp [h1], h2⟩
      · exact .inr h1
    | true =>
      rw [hb] at hg
      simp only [cond_true] at hg
      rcases absorb_inv hg with ⟨j, h1, h2⟩ | h1
      · exact .inl ⟨j, by simp [h1], h2⟩
      · rw [T.get_put] at h1
        split at h1
        · rename_i e; subst e; cases h1; exact .inl ⟨i, by simp, hb⟩
        · exact .inr h1

theorem absorb_old {anc : Nat} {b : Nat} : ∀ {pd : Pend} {h : Heap}, (∀ j ob, (j, b, ob) ∈ pd → anc.testBit j = false) → (absorb anc pd h).get b = h.get b
  | [], _, _ => rfl
  | (i, nm, ob) :: l, h, hn => by
    simp only [absorb]
    cases hb : anc.testBit i with
    | false => simp only [cond_false]; exact absorb_old fun j ob hj => hn j ob (by simp [hj])
    | true =>
      simp only [cond_true]
      rw [absorb_old fun j ob hj => hn j ob (by simp [hj])]
      rw [T.get_put_ne]
      rintro rfl
      rw [hn i ob (by simp)] at hb; cases hb

theorem absorb_new {anc : Nat} {b j : Nat} {o : AObj} : ∀ {pd : Pend} {h : Heap}, (∀ j' o', (j', b, o') ∈ pd → o' = o) → ((j, b, o) ∈ pd ∧ anc.testBit j = true ∨ h.get b = some o) →
    (absorb anc pd h).get b = some o
  | [], h, _, hm => by
    rcases hm with ⟨h1, _⟩ | h1
    · cases h1
    · exact h1
  | (i, nm, ob) :: l, h, hf, hm => by
    have hf' : ∀ j' o', (j', b, o') ∈ l → o' = o := fun j' o' hj => hf j' o' (by simp [hj])
    simp only [absorb]
    cases hb : anc.testBit i with
    | false =>
      simp only [cond_false]
      refine absorb_new (j := j) hf' ?_
      rcases hm with ⟨h1, h2⟩ | h1
      · rcases List.mem_cons.1 h1 with e | h1
        · cases e; rw [hb] at h2; cases h2
        · exact .inl ⟨h1, h2⟩
      · exact .inr h1
    | true =>
      simp only [cond_true]
      refine absorb_new (j := j) hf' ?_
      by_cases hbn : b = nm
      · subst hbn
        right
        rw [T.get_put_same, hf i ob (by simp)]
      · rcases hm with ⟨h1, h2⟩ | h1
        · rcases List.mem_cons.1 h1 with e | h1
          · cases e; exact absurd rfl hbn
          · exact .inl ⟨h1, h2⟩
        · right
          rw [T.get_put_ne _ _ hbn]; exact h1

theorem mem_keepP {anc : Nat} {e : Nat × Nat × AObj} : ∀ {pd : Pend}, e ∈ keepP anc pd ↔ e ∈ pd ∧ anc.testBit e.1 = false
  | [] => by simp [keepP]
  | (i, nm, ob) :: l => by
    simp only [keepP]
    cases hb : anc.testBit i with
    | true =>
      simp only [cond_true, mem_keepP (pd := l), List.mem_cons]
      constructor
      · rintro ⟨h1, h2⟩; exact ⟨.inr h1, h2⟩
      · rintro ⟨rfl | h1, h2⟩
        · rw [hb] at h2; cases h2
        · exact ⟨h1, h2⟩
    | false =>
      simp only [cond_false, List.mem_cons, mem_keepP (pd := l)]
      constructor
      · rintro (rfl | ⟨h1, h2⟩)
        · exact ⟨.inl rfl, hb⟩
        · exact ⟨.inr h1, h2⟩
      · rintro ⟨rfl | h1, h2⟩
        · exact .inl rfl
        · exact .inr ⟨h1, h2⟩

end Go.Ax

