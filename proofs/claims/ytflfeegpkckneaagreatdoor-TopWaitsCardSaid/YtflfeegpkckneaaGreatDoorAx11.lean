/- A part of the proof of TopWaits: see the last text of the claim. -/
import Derived.Test.YtflfeegpkckneaaGreatDoorAx10
import Derived.LoopNIn
set_option linter.unusedSectionVars false
set_option linter.unusedSimpArgs false
set_option linter.unusedVariables false
/- The abstract executor: code. -/
namespace Go.Ax
variable [Opq]

def xr : AExit → Exit
  | .normal => .normal
  | .exit id => .exit id
  | .ret => .ret

theorem Inj.set_blk_ne {φ : Inj} {nm b : Nat} (t : Nat × Nat × Nat) (h : b ≠ nm) : (φ.set nm t).blk b = φ.blk b := by
  unfold Inj.blk; rw [Inj.set_ne _ _ h]

section
variable {P : Program} {φ : Inj} {h : Heap} {nx nm : Nat} {w : World}

/-- a new block of the world under a new name -/
theorem Rep.new (r : Rep P φ h nx w) {c : Obj} {ob : AObj} (x : Nat) (ho : objRep (φ.set nx (w.heap.size, 0, x)) 0 x ob c) (hob : isOpq ob = false := by rfl) :
    Rep P (φ.set nx (w.heap.size, 0, x)) (h.put nx (some ob)) (nx + 1) (w.alloc c) := by
  have hn := r.fresh nx (Nat.le_refl _)
  have r1 := ((r.more (Nat.le_succ nx)).set hn (Nat.lt_succ_self nx) (w.heap.size, 0, x)).alloc c
  refine r1.add (Inj.set_same ..) (by simp) ho ?_ ?_ hob
  · intro b o' d' x' hb hg hB
    rw [Inj.set_ne _ _ hb] at hB
    exact absurd (r.lt hg hB) (by omega)
  · intro b o' hb hg _ hB
    rw [Inj.owns_set_ne hb] at hB
    exact absurd (r.owns_lt hg hB) (by omega)

theorem Chg.new (r : Rep P φ h nx w) (c : Obj) (ob : AObj) (x : Nat) (hob : isOpq ob = false := by rfl) : Chg φ h nx w (φ.set nx (w.heap.size, 0, x)) (h.put nx (some ob)) (nx + 1) (w.alloc c) where
  ext := fun b hb => Inj.set_ne _ _ (by omega)
  nx := Nat.le_succ _
  os := rfl
  out := rfl
  size := by show w.heap.size ≤ (w.heap.push c).size; simp
  frame := by
    intro i hi _
    show (w.heap.push c)[i]? = w.heap[i]?
    rw [Array.getElem?_push, if_neg (by omega)]
  dom := by
    intro b o B hb hB
    rw [T.get_put] at hb
    split at hb
    · rename_i e; subst e; cases hb
      rw [Inj.owns_blk hob] at hB
      obtain ⟨d, y, hB'⟩ := Inj.blk_some hB
      rw [Inj.set_same] at hB'; cases hB'
      exact .inl (Nat.le_refl _)
    · rename_i e
      rw [Inj.owns_set_ne e] at hB
      exact .inr ⟨b, o, hb, hB⟩

/-- another content for a block that is no row -/
theorem Rep.turn (r : Rep P φ h nx w) {b B d x : Nat} {o o' : AObj} {c' : Obj} (hb : h.get b = some o) (hB : φ b = some (B, d, x)) (hno : reach o x = none) (ho : objRep φ d x o' c') (hq : isOpq o = false := by rfl) (hq' : isOpq o' = false := by rfl) :
    Rep P φ (h.put b (some o')) nx (w.putObj B c') :=
  r.write hb hB ho (fun n hn => by rw [hno] at hn; cases hn) (fun b1 o1 d1 x1 _ hne h1 hB1 _ _ _ => (r.alone hb hB hno b1 o1 d1 x1 hne h1 hB1).elim) hq hq'

/-- a block that is no row is given up -/
theorem Rep.drop (r : Rep P φ h nx w) {b B d x : Nat} {o : AObj} (hb : h.get b = some o) (hB : φ b = some (B, d, x)) (hno : reach o x = none) (c' : Obj) :
    Rep P φ (h.put b none) nx (w.putObj B c') where
  obj := by
    intro b1 o1 h1
    rw [T.get_put] at h1
    split at h1
    · cases h1
    · rename_i e
      obtain ⟨B1, d1, x1, c1, hB1, hc1, ho1⟩ := r.obj b1 o1 h1
      refine ⟨B1, d1, x1, c1, hB1, ?_, ho1⟩
      rw [World.putObj_heap_other]
      · exact hc1
      · rintro rfl
        exact r.alone hb hB hno b1 o1 d1 x1 e h1 hB1
  inj := by
    intro b1 b2 o1 o2 B' d1 x1 d2 x2 hne h1 h2
    rw [T.get_put] at h1 h2
    split at h1
    · cases h1
    · split at h2
      · cases h2
      · exact r.inj b1 b2 o1 o2 B' d1 x1 d2 x2 hne h1 h2
  fresh := r.fresh
  glob := r.glob
  opq := by
    intro b1 tag data B1 d1 x1 h1 hB1
    rw [T.get_put] at h1
    split at h1
    · cases h1
    · rename_i e
      obtain ⟨k1, k2⟩ := r.opq b1 tag data B1 d1 x1 h1 hB1
      refine ⟨Opq.loc _ _ _ _ _ _ k1 fun i hi => ?_, fun i hi => by simpa using k2 i hi⟩
      rw [World.putObj_heap_other]
      rintro rfl
      exact r.sep b1 b _ o _ e rfl h1 hb ⟨B1, d1, x1, hB1, .inr ⟨rfl, hi⟩⟩ (Inj.owns_self hB)
  sep := by
    intro b1 b2 o1 o2 i hne hq h1 h2 p1 p2
    rw [T.get_put] at h1 h2
    split at h1
    · cases h1
    · split at h2
      · cases h2
      · exact r.sep b1 b2 o1 o2 i hne hq h1 h2 p1 p2

theorem Chg.turn (r : Rep P φ h nx w) {b B d x : Nat} {o : AObj} {ob : Option AObj} {c' : Obj} (hb : h.get b = some o) (hB : φ b = some (B, d, x)) (hq : isOpq o = false := by rfl) (hq' : ∀ o', ob = some o' → isOpq o' = false := by intro o' e; first | (cases e; done) | (cases e; rfl)) : Chg φ h nx w φ (h.put b ob) nx (w.putObj B c') where
  ext := fun _ _ => rfl
  nx := Nat.le_refl _
  os := rfl
  out := rfl
  size := by simp
  frame := by
    intro i hi hno
    refine World.putObj_heap_other ?_
    rintro rfl
    exact hno b o hb (Inj.owns_self hB)
  dom := by
    intro b1 o1 B1 h1 hB1
    rw [T.get_put] at h1
    split at h1
    · rename_i e; subst e
      rw [Inj.owns_blk (hq' o1 h1)] at hB1
      exact .inr ⟨b1, o, hb, (Inj.owns_blk hq).2 hB1⟩
    · exact .inr ⟨b1, o1, h1, hB1⟩

def loopSt : Bool → Option AJump → LoopState
  | true, none => .ready
  | true, some _ => .done
  | false, _ => .busy

theorem rep_loop (r : Rep P φ h nx w) {l B d x : Nat} {ready : Bool} {jump : Option AJump} {nt : Nat} {ts : Tmps} {params : List Nat} {assign body : Code} (hl : h.get l = some (.loop ready jump nt ts params assign body)) (hB : φ l = some (B, d, x)) :
    ∃ rec : Loop, w.heap[B]? = some (.loop rec) ∧ rec.state = loopSt ready jump ∧ rec.pending = jump.map jumpCode ∧
    rec.tmps.size = nt ∧ TsRel φ ts rec.tmps ∧ rec.params.toList = params ∧ rec.assign = assign ∧ rec.body = body := by
  obtain ⟨B', d', x', c, h1, h2, h3⟩ := r.obj l _ hl
  rw [hB] at h1; cases h1
  cases c <;> simp only [objRep] at h3
  refine ⟨_, h2, ?_, h3.2⟩
  rw [h3.1]
  cases ready <;> cases jump <;> rfl

end

section
variable {C : Ctx} {env : Env} {φ : Inj} {w : World} {a : Act}

theorem Post.of_chg {s s' : AS} {φ' : Inj} {a' : Act} {w' : World} (st : St C φ' s' w' a') (chg : Chg φ s.h s.nx w φ' s'.h s'.nx w') (nt : s'.nt = s.nt) : Post C φ s w s' φ' a' w' := ⟨st, chg, nt⟩

theorem jump_wp {F : Fence} {n : Nat} {Q : Exit → Act → World → Prop} {j : AJump} (h : match j with | .ret => Q .ret a w | .exit id => Q (.exit id) a w) : (jumpCode j).wpIn F n C.P Q a w := by
  cases j with
  | ret => exact wpIn_ret h
  | exit id => exact wpIn_exit h

theorem exec_sound (hC : C.Ok) (hE : EnvOk C env) {ro : Option Nat} {rd : Bool} (hrd : rd = false → ro = none) {n fuel : Nat} : ∀ (c : Code) {s s' : AS} {x : AExit} {φ : Inj} {w : World} {a : Act} {Q : Exit → Act → World → Prop},
    exec C env rd fuel (comp C.P c) s = some (x, s') → St C φ s w a → (∀ φ' a' w', Post C φ s w s' φ' a' w' → Q (xr x) a' w') → c.wpIn (FW ro) n C.P Q a w
  | .skip, s, s', x, φ, w, a, Q, hrun, hs, hQ => by
    simp only [comp, exec] at hrun; cases hrun
    exact wpIn_skip (hQ φ a w (Post.refl hs))
  | .label l, s, s', x, φ, w, a, Q, hrun, hs, hQ => by
    simp only [comp, exec] at hrun; cases hrun
    exact wpIn_label (hQ φ a w (Post.refl hs))
  | .region id ops false, s, s', x, φ, w, a, Q, hrun, hs, hQ => by
    simp only [comp, exec] at hrun
    split at hrun
    · rename_i s1 h1
      cases hrun
      exact region_sound hC hE hrd h1 hs hQ
    · cases hrun
  | .region id ops true, s, s', x, φ, w, a, Q, hrun, hs, hQ => by
    simp only [comp, exec] at hrun
    split at hrun
    · rename_i s1 h1
      cases hrun
      exact dregion_sound hC hE hrd h1 hs hQ
    · cases hrun
  | .seq c1 c2, s, s', x, φ, w, a, Q, hrun, hs, hQ => by
    simp only [comp, exec] at hrun
    refine wpIn_seq ?_
    cases h1 : exec C env rd fuel (comp C.P c1) s with
    | none => rw [h1] at hrun; cases hrun
    | some r =>
      obtain ⟨x1, s1⟩ := r
      rw [h1] at hrun
      cases x1 with
      | normal =>
        simp only at hrun
        refine exec_sound hC hE hrd c1 h1 hs fun φ1 a1 w1 p1 => ?_
        exact exec_sound hC hE hrd c2 hrun p1.st fun φ2 a2 w2 p2 => hQ φ2 a2 w2 (p1.trans p2)
      | exit id =>
        cases hrun
        exact exec_sound hC hE hrd c1 h1 hs fun φ1 a1 w1 p1 => hQ φ1 a1 w1 p1
      | ret =>
        cases hrun
        exact exec_sound hC hE hrd c1 h1 hs fun φ1 a1 w1 p1 => hQ φ1 a1 w1 p1
  | .cond c c1 c2, s, s', x, φ, w, a, Q, hrun, hs, hQ => by
    simp only [comp] at hrun
    cases hc : opd C.P c with
    | none => rw [hc] at hrun; cases hrun
    | some y =>
      rw [hc] at hrun
      simp only [exec] at hrun
      have hv := opd_sound hs.rep.glob hs.ts hc
      cases hb : ev s.ts y with
      | bool b =>
        rw [hb] at hrun hv
        refine wpIn_cond (conc_bool hv) ?_
        cases b with
        | true => exact exec_sound hC hE hrd c1 hrun hs hQ
        | false => exact exec_sound hC hE hrd c2 hrun hs hQ
      | _ => rw [hb] at hrun; cases hrun
  | .block id c, s, s', x, φ, w, a, Q, hrun, hs, hQ => by
    simp only [comp, exec] at hrun
    refine wpIn_block ?_
    cases h1 : exec C env rd fuel (comp C.P c) s with
    | none => rw [h1] at hrun; cases hrun
    | some r =>
      obtain ⟨x1, s1⟩ := r
      rw [h1] at hrun
      cases x1 with
      | normal =>
        cases hrun
        exact exec_sound hC hE hrd c h1 hs fun φ1 a1 w1 p1 => hQ φ1 a1 w1 p1
      | ret =>
        cases hrun
        exact exec_sound hC hE hrd c h1 hs fun φ1 a1 w1 p1 => hQ φ1 a1 w1 p1
      | exit id' =>
        simp only at hrun
        refine exec_sound hC hE hrd c h1 hs fun φ1 a1 w1 p1 => ?_
        show if id' = id then Q .normal a1 w1 else Q (.exit id') a1 w1
        cases he : Nat.beq id' id with
        | true =>
          rw [he] at hrun
          cases hrun
          rw [if_pos (Nat.eq_of_beq_eq_true he)]
          exact hQ φ1 a1 w1 p1
        | false =>
          rw [he] at hrun
          cases hrun
          rw [if_neg (Nat.ne_of_beq_eq_false he)]
          exact hQ φ1 a1 w1 p1
  | .loop c, s, s', x, φ, w, a, Q, hrun, hs, hQ => by
    simp only [comp, exec] at hrun
    have key : ∀ (k : Nat) (s : AS) (φ : Inj) (w : World) (a : Act), iter (exec C env rd fuel (comp C.P c)) k s = some (x, s') → St C φ s w a → (∀ φ' a' w', Post C φ s w s' φ' a' w' → Q (xr x) a' w') → Code.roundsIn (FW ro) n C.P c Q k a w := by
      intro k
      induction k with
      | zero => intro s φ w a h; simp [iter] at h
      | succ k ih =>
        intro s φ w a h hs hQ
        simp only [iter] at h
        rw [roundsIn_succ]
        cases h1 : exec C env rd fuel (comp C.P c) s with
        | none => rw [h1] at h; cases h
        | some r =>
          obtain ⟨x1, s1⟩ := r
          rw [h1] at h
          cases x1 with
          | normal =>
            simp only at h
            refine exec_sound hC hE hrd c h1 hs fun φ1 a1 w1 p1 => ?_
            exact ih s1 φ1 w1 a1 h p1.st fun φ2 a2 w2 p2 => hQ φ2 a2 w2 (p1.trans p2)
          | exit id =>
            cases h
            exact exec_sound hC hE hrd c h1 hs fun φ1 a1 w1 p1 => hQ φ1 a1 w1 p1
          | ret =>
            cases h
            exact exec_sound hC hE hrd c h1 hs fun φ1 a1 w1 p1 => hQ φ1 a1 w1 p1
    exact wpIn_loop_rounds fuel (key fuel s φ w a hrun hs hQ)
  | .scope c, s, s', x, φ, w, a, Q, hrun, hs, hQ => by
    simp only [comp, exec] at hrun
    cases rd with
    | true => cases hrun
    | false =>
      have hro := hrd rfl
      subst hro
      simp only [cond_false] at hrun
      have h1 : c.wpIn (FW none) n C.P (Exit.noGoto Q) a w := exec_sound hC hE hrd c hrun hs fun φ1 a1 w1 p1 => by
        have := hQ φ1 a1 w1 p1
        cases x <;> exact this
      exact wpIn_wide.2 (wp_scope_straight (wpIn_wide.1 h1))
  | .rangeFunc f params assign body, s, s', x, φ, w, a, Q, hrun, hs, hQ => by
    simp only [comp] at hrun
    cases hf : opd C.P f with
    | none => rw [hf] at hrun; cases hrun
    | some y =>
    rw [hf] at hrun
    simp only [exec] at hrun
    cases rd with
    | true => cases hrun
    | false =>
    have hro := hrd rfl
    subst hro
    simp only [cond_false] at hrun
    have hv := opd_sound hs.rep.glob hs.ts hf
    split at hrun
    rotate_left
    · cases hrun
    rename_i g first captured hev
    rw [hev] at hv
    obtain ⟨fn', first', captured', hfn, h1, h2, hval⟩ := conc_func hv
    cases hfn
    cases hbit : C.bodies.testBit g with
    | false => rw [hbit] at hrun; cases hrun
    | true =>
    rw [hbit] at hrun
    simp only [Bool.not_true, cond_false] at hrun
    split at hrun
    rotate_left
    · cases hrun
    rename_i rv h nx' henv
    have hL : ∃ φ1 w1, w1 = (w.alloc (.deferred (some []))).alloc (.loop { state := .ready, pending := none, fn := 0, tmps := a.tmps, params := params, assign := assign, body := body, defers := w.heap.size }) ∧ φ1 = φ := ⟨_, _, rfl, rfl⟩
    clear hL
    refine wpIn_rangeFunc fun fn _ => ?_
    let wA := w.alloc (.deferred (some []))
    let rec0 : Loop := { state := .ready, pending := none, fn := fn, tmps := a.tmps, params := params, assign := assign, body := body, defers := w.heap.size }
    let wB := wA.alloc (.loop rec0)
    let φA := φ.set s.nx (w.heap.size, 0, 0)
    let φB := φA.set (s.nx + 1) (wA.heap.size, 0, 0)
    have hszA : wA.heap.size = w.heap.size + 1 := by show (w.heap.push _).size = _; simp
    have hrA : Rep C.P φA (s.h.put s.nx (some (.deferred false))) (s.nx + 1) wA := hs.rep.new 0 ⟨rfl, rfl⟩
    have hleA : φ.le φA := Inj.le_set _ (hs.rep.fresh _ (Nat.le_refl _))
    have hleB : φA.le φB := Inj.le_set _ (hrA.fresh _ (Nat.le_refl _))
    have hle := Inj.le_trans hleA hleB
    have hrB : Rep C.P φB ((s.h.put s.nx (some (.deferred false))).put (s.nx + 1) (some (.loop true none s.nt s.ts params.toList assign body))) (s.nx + 2) wB :=
      hrA.new 0 ⟨rfl, rfl, hs.nt, hs.ts.mono hle, rfl, rfl, rfl⟩
    have hcA := Chg.new hs.rep (.deferred (some [])) (.deferred false) 0
    have hcB := Chg.new hrA (.loop rec0) (.loop true none s.nt s.ts params.toList assign body) 0
    have hyield : conc φB (.func (.yield (s.nx + 1)) [] []) = some (.func (.yield (w.heap.size + 1)) #[] #[]) := by
      simp only [conc, concL, concFn]
      rw [show φB (s.nx + 1) = some (wA.heap.size, 0, 0) from Inj.set_same ..]
      simp [hszA]
    have hargs : concL φB (first ++ (.func (.yield (s.nx + 1)) [] [] :: captured)) = some (first' ++ (Value.func (.yield (w.heap.size + 1)) #[] #[] :: captured')) :=
      concL_append (concL_mono hle _ _ h1) (concL_cons_mk hyield (concL_mono hle _ _ h2))
    refine ⟨w.heap.size + 1, [{ target := .collected w.heap.size, args := #[] }], wB, { target := .fn (.func g) captured'.toArray, args := first'.toArray ++ #[Value.func (.yield (w.heap.size + 1)) #[] #[]] }, wB, g, (first' ++ (Value.func (.yield (w.heap.size + 1)) #[] #[] :: captured')).toArray, wB, ?_, ?_, fun _ _ => trivial, ?_, fun h => (by cases h), ?_⟩
    · exact run_enterLoop_outer ..
    · show (Deferred.ofValue (a.eval f) _).run C.P wB = _
      rw [hval]
      simp [rangeCall, Deferred.ofValue, Act.eval]
    · have := hC.enter g hbit (first' ++ (Value.func (.yield (w.heap.size + 1)) #[] #[] :: captured')).toArray wB
      rw [← this]
      simp only [invoke]
      congr 2
      apply Array.ext'
      simp
    · refine callsIn_wide.2 ?_
      have hcalls := hE.fn g _ _ _ rv h nx' henv φB wB _ hrB hargs
      refine Calls.mono hcalls ?_
      rintro e w3 ⟨φ', v', rfl, hv', hrep, hchg⟩
      have hB' : φ' (s.nx + 1) = some (w.heap.size + 1, 0, 0) := by
        rw [hchg.ext _ (by omega), ← hszA]; exact Inj.set_same ..
      have hD' : φ' s.nx = some (w.heap.size, 0, 0) := by
        rw [hchg.ext _ (by omega)]
        show (φA.set (s.nx + 1) _) s.nx = _
        rw [Inj.set_ne _ _ (by omega)]; exact Inj.set_same ..
      have hall := (hcA.trans hcB).trans hchg
      have hle3 := hs.rep.le hall
      have fin : ∀ (jump : Option AJump) nt2 ts2 ps2 as2 bo2, h.get (s.nx + 1) = some (.loop true jump nt2 ts2 ps2 as2 bo2) →
          s' = { s with ds := .mark s.nx :: s.ds, h := h.put (s.nx + 1) none, nx := nx' } →
          (match jump with | none => x = .normal | some .ret => x = .ret | some (.exit id) => x = .exit id) →
          rangePost (FW none) n C.P (w.heap.size + 1) Q { a with defers := [{ target := .collected w.heap.size, args := #[] }] ++ a.defers } (.returned v') w3 := by
        intro jump nt2 ts2 ps2 as2 bo2 hget hs' hx
        obtain ⟨rec, hrec, hst, hpend, _⟩ := rep_loop hrep hget hB'
        have hnb : rec.state ≠ .busy := by
          rw [hst]; cases jump <;> simp [loopSt]
        have hend := run_endLoop (P := C.P) hrec hnb
        refine ⟨rec.pending, _, hend, ?_⟩
        have hpost : Post C φ s w s' φ' { a with defers := [{ target := .collected w.heap.size, args := #[] }] ++ a.defers } (w3.putObj (w.heap.size + 1) (.loop { rec with state := .exhausted })) := by
          subst hs'
          refine ⟨⟨hrep.drop hget hB' rfl _, hs.ts.mono hle3, ?_, hs.nt⟩, hall.trans (Chg.turn hrep hget hB'), rfl⟩
          exact ⟨⟨w.heap.size, 0, 0, hD', rfl⟩, hs.ds.mono hle3⟩
        have hq := hQ _ _ _ hpost
        rw [hpend] at hq ⊢
        cases jump with
        | none => simp only at hx; subst hx; exact hq
        | some j =>
          refine jump_wp ?_
          cases j with
          | ret => simp only at hx; subst hx; exact hq
          | exit id => simp only at hx; subst hx; exact hq
      split at hrun
      · rename_i hget; cases hrun; exact fin _ _ _ _ _ _ hget rfl rfl
      · rename_i hget; cases hrun; exact fin _ _ _ _ _ _ hget rfl rfl
      · rename_i hget; cases hrun; exact fin _ _ _ _ _ _ hget rfl rfl
      · cases hrun
  | .exit id, s, s', x, φ, w, a, Q, hrun, hs, hQ => by
    simp only [comp, exec] at hrun; cases hrun
    exact wpIn_exit (hQ φ a w (Post.refl hs))
  | .goto l, s, s', x, φ, w, a, Q, hrun, hs, hQ => by
    simp only [comp, exec] at hrun; cases hrun
  | .ret, s, s', x, φ, w, a, Q, hrun, hs, hQ => by
    simp only [comp, exec] at hrun; cases hrun
    exact wpIn_ret (hQ φ a w (Post.refl hs))
  | .refuse why, s, s', x, φ, w, a, Q, hrun, hs, hQ => by
    simp only [comp, exec] at hrun; cases hrun

end
end Go.Ax

/- The abstract executor: rounds, bodies, calls. -/
namespace Go.Ax
variable [Opq]

section
variable {C : Ctx} {env : Env} {φ : Inj} {h : Heap} {nx : Nat} {w : World}

/-! ### a round of a range over a function -/
theorem putParams_spec {nt : Nat} : ∀ (ps : List Nat) (args : List AV) (ts ts' : Tmps) (args' : List Value) (tmps : Array Value), putParams nt ps args ts = some ts' → concL φ args = some args' → TsRel φ ts tmps → tmps.size = nt →
    args'.length = ps.length ∧ TsRel φ ts' ((ps.zip args').foldl (fun t p => t.setIfInBounds p.1 p.2) tmps) ∧ ((ps.zip args').foldl (fun t p => t.setIfInBounds p.1 p.2) tmps).size = nt
  | [], [], ts, ts', args', tmps, hp, ha, ht, hn => by
    simp only [putParams] at hp; cases hp
    simp only [concL] at ha; cases ha
    exact ⟨rfl, ht, hn⟩
  | [], _ :: _, ts, ts', args', tmps, hp, ha, ht, hn => by simp [putParams] at hp
  | _ :: _, [], ts, ts', args', tmps, hp, ha, ht, hn => by simp [putParams] at hp
  | p :: ps, v :: args, ts, ts', args', tmps, hp, ha, ht, hn => by
    simp only [putParams] at hp
    cases hb : Nat.blt p nt with
    | false => rw [hb] at hp; cases hp
    | true =>
      rw [hb] at hp
      simp only [cond_true] at hp
      obtain ⟨v', l', hv, hl, rfl⟩ := concL_cons ha
      have hlt : p < nt := Nat.le_of_ble_eq_true hb
      obtain ⟨h1, h2, h3⟩ := putParams_spec ps args _ ts' l' (tmps.setIfInBounds p v') hp hl (ht.put (by omega) hv) (by simp [hn])
      exact ⟨by simp [h1], by simpa using h2, by simpa using h3⟩

theorem zip_foldl (ps : Array Nat) (args : Array Value) (tmps : Array Value) :
    (ps.zip args).foldl (fun t (p : Nat × Value) => t.setIfInBounds p.1 p.2) tmps = (ps.toList.zip args.toList).foldl (fun t p => t.setIfInBounds p.1 p.2) tmps := by
  rw [← Array.foldl_toList, Array.toList_zip]

theorem round_sound (hC : C.Ok) (hE : EnvOk C env) {fuel l : Nat} {args : List AV} {v : AV} {h' : Heap} {nx' : Nat} (hrun : round C env fuel l args h nx = some (v, h', nx')) {args' : List Value} {L d x : Nat}
    (hr : Rep C.P φ h nx w) (ha : concL φ args = some args') (hL : φ l = some (L, d, x)) :
    ∃ f tmps assign body, (Instr.yield L args'.toArray).run C.P w = .ok (.round L f tmps assign body) w ∧ RoundIn Fence.wide 0 C.P L f tmps assign body w (Done C φ h nx w v h' nx') := by
  unfold round at hrun
  split at hrun
  rotate_left
  · cases hrun
  rename_i nt ts params assign body hl
  split at hrun
  · cases hrun
  rename_i ts' hp
  obtain ⟨rec, hrec, hst, hpend, hnt, hts, hps, has, hbo⟩ := rep_loop hr hl hL
  obtain ⟨hlen, hts', hnt'⟩ := putParams_spec params args ts ts' args' rec.tmps hp ha hts hnt
  have hy := run_yield (P := C.P) (args := args'.toArray) hrec (by simp [hlen, ← hps])
  refine ⟨rec.fn, _, rec.assign, rec.body, hy, ?_⟩
  have hz : (rec.params.zip args'.toArray).foldl (fun tmps (x : Tmp × Value) => tmps.setIfInBounds x.1 x.2) rec.tmps = (params.zip args').foldl (fun t p => t.setIfInBounds p.1 p.2) rec.tmps := by
    rw [zip_foldl, hps]
  rw [hz, has, hbo]
  split at hrun
  rotate_left
  · cases hrun
  rename_i s1 h1
  split at hrun
  rotate_left
  · cases hrun
  rename_i nt2 ts2 params2 assign2 body2 hl1
  split at hrun
  rotate_left
  · cases hrun
  rename_i x2 s2 h2
  refine roundIn_of_wpIn trivial ?_
  refine exec_sound (ro := some L) (rd := true) hC hE (fun h => by cases h) assign h1 ⟨hr, hts', trivial, hnt'⟩ fun φ1 a1 w1 p1 => ?_
  have hL1 : φ1 l = some (L, d, x) := hr.le p1.chg _ _ hL
  obtain ⟨rec1, hrec1, hst1, hpend1, hnt1, hts1, hps1, has1, hbo1⟩ := rep_loop p1.st.rep hl1 hL1
  refine ⟨_, run_beginRound hrec1 hst1, ?_⟩
  have hrep1 := p1.st.rep.turn (o' := .loop false none nt2 ts2 params2 assign2 body2) (c' := .loop { rec1 with state := .busy }) hl1 hL1 rfl ⟨rfl, hpend1, hnt1, hts1, hps1, has1, hbo1⟩
  refine exec_sound (ro := some L) (rd := true) hC hE (fun h => by cases h) body h2 ⟨hrep1, p1.st.ts, p1.st.ds, p1.st.nt⟩ fun φ2 a2 w2 p2 => ?_
  split at hrun
  rotate_left
  · cases hrun
  rename_i nt3 ts3 params3 assign3 body3 hl2
  have hL2 : φ2 l = some (L, d, x) := hrep1.le p2.chg _ _ hL1
  obtain ⟨rec2, hrec2, hst2, hpend2, hnt2, hts2, hps2, has2, hbo2⟩ := rep_loop p2.st.rep hl2 hL2
  have hchg := (p1.chg.trans (Chg.turn p1.st.rep hl1 hL1)).trans p2.chg
  have fin : ∀ (jump : Option AJump) (c' : Obj), c' = .loop { rec2 with state := if (jump.map jumpCode).isNone then .ready else .done, pending := jump.map jumpCode } →
      Done C φ h nx w (.bool jump.isNone) (s2.h.put l (some (.loop true jump nt3 ts3 params3 assign3 body3))) s2.nx (.returned (.bool jump.isNone)) (w2.putObj L c') := by
    intro jump c' hc'
    refine ⟨φ2, _, rfl, rfl, ?_, hchg.trans (Chg.turn p2.st.rep hl2 hL2)⟩
    refine p2.st.rep.turn hl2 hL2 rfl ?_
    rw [hc']
    refine ⟨?_, rfl, hnt2, hts2, hps2, has2, hbo2⟩
    cases jump <;> rfl
  cases x2 with
  | normal =>
    cases hrun
    exact ⟨_, _, run_endRound none hrec2, fin none _ rfl⟩
  | ret =>
    cases hrun
    exact ⟨_, _, run_endRound (some .ret) hrec2, fin (some .ret) _ rfl⟩
  | exit id =>
    cases hrun
    exact ⟨_, _, run_endRound (some (.exit id)) hrec2, fin (some (.exit id)) _ rfl⟩

/-! ### bodies -/
theorem argsT_get : ∀ (args : List AV) (i : Nat) (ts : Tmps) (t : Nat), ev (argsT i args ts) (.tmp t) = if t < i then ev ts (.tmp t) else match args[t - i]? with | some v => v | none => ev ts (.tmp t)
  | [], i, ts, t => by simp [argsT]
  | v :: l, i, ts, t => by
    rw [argsT, argsT_get l (i + 1), ev_put]
    by_cases h1 : t < i
    · rw [if_pos (by omega), if_pos h1, if_neg (by omega)]
    · rw [if_neg h1]
      by_cases h2 : t = i
      · subst h2
        rw [if_pos (by omega), if_pos rfl]; simp
      · rw [if_neg (by omega), if_neg h2, show t - i = t - (i + 1) + 1 from by omega]
        simp

theorem concL_get : ∀ {l : List AV} {r : List Value}, concL φ l = some r → ∀ i : Nat, (∃ (v : AV) (v' : Value), l[i]? = some v ∧ r[i]? = some v' ∧ conc φ v = some v') ∨ (l[i]? = none ∧ r[i]? = none)
  | [], r, h, i => by simp only [concL] at h; cases h; right; simp
  | v :: l, r, h, i => by
    obtain ⟨v', l', hv, hl, rfl⟩ := concL_cons h
    cases i with
    | zero => exact .inl ⟨v, v', rfl, rfl, hv⟩
    | succ i => simpa using concL_get hl i

theorem args_ts {args : List AV} {args' : List Value} (ha : concL φ args = some args') (k : Nat) : TsRel φ (argsT 0 args .leaf) (args'.toArray ++ Array.replicate k undef) := by
  intro t
  rw [argsT_get, if_neg (by omega), Nat.sub_zero]
  have hleaf : ev (.leaf : Tmps) (.tmp t) = undefA := by simp [ev]
  rcases concL_get ha t with ⟨v, v', h1, h2, h3⟩ | ⟨h1, h2⟩
  · rw [h1]
    have : (args'.toArray ++ Array.replicate k undef).getD t undef = v' := by
      have hlt := (List.getElem?_eq_some_iff.1 h2).1
      rw [Array.getD_eq_getD_getElem?, Array.getElem?_append_left (by simpa using hlt)]
      simp [h2]
    rw [this]; exact h3
  · rw [h1]
    simp only
    rw [hleaf, conc_undef]
    congr 1
    rw [Array.getD_eq_getD_getElem?, Array.getElem?_append]
    split
    · rename_i hlt
      have : args'[t]? = some (args'[t]'(by simpa using hlt)) := List.getElem?_eq_getElem _
      rw [h2] at this; cases this
    · rw [Array.getElem?_replicate]
      split <;> rfl

theorem optMap_get {α β : Type} {f : α → Option β} : ∀ {l : List α} {r : List β}, optMap f l = some r → ∀ (i : Nat) (x : α), l[i]? = some x → ∃ y, f x = some y ∧ r[i]? = some y
  | [], r, h, i, x, hx => by simp at hx
  | a :: l, r, h, i, x, hx => by
    simp only [optMap] at h
    cases h1 : f a with
    | none => rw [h1] at h; cases h
    | some y =>
      cases h2 : optMap f l with
      | none => rw [h1, h2] at h; cases h
      | some ys =>
        rw [h1, h2] at h
        cases h
        cases i with
        | zero => simp at hx; subst hx; exact ⟨y, h1, rfl⟩
        | succ i => simpa using optMap_get h2 i x (by simpa using hx)

theorem resM_sound {tmps : Array Value} {ts : Tmps} (hr : Rep C.P φ h nx w) (ht : TsRel φ ts tmps) : ∀ (l : List ResultVar) (rs : List ARes) (vs : List AV), optMap (compRes C.P) l = some rs → optMap (resA ts h) rs = some vs →
    ∃ vs', concL φ vs = some vs' ∧ (l.mapM fun | ResultVar.tmp t => (pure (tmps.getD t undef) : Sem Value) | .cell a t => do loadVar t (← asAddr (tmps.getD a undef))).run C.P w = .ok vs' w
  | [], rs, vs, h1, h2 => by
    simp only [optMap] at h1; cases h1
    simp only [optMap] at h2; cases h2
    exact ⟨[], rfl, by simp⟩
  | r :: l, rs, vs, h1, h2 => by
    simp only [optMap] at h1
    cases e1 : compRes C.P r with
    | none => rw [e1] at h1; cases h1
    | some y =>
    cases e2 : optMap (compRes C.P) l with
    | none => rw [e1, e2] at h1; cases h1
    | some ys =>
    rw [e1, e2] at h1
    cases h1
    simp only [optMap] at h2
    cases e3 : resA ts h y with
    | none => rw [e3] at h2; cases h2
    | some z =>
    cases e4 : optMap (resA ts h) ys with
    | none => rw [e3, e4] at h2; cases h2
    | some zs =>
    rw [e3, e4] at h2
    cases h2
    obtain ⟨vs', hv, hrun⟩ := resM_sound hr ht l ys zs e2 e4
    have hone : ∃ z', conc φ z = some z' ∧ ((match r with | ResultVar.tmp t => (pure (tmps.getD t undef) : Sem Value) | .cell a t => do loadVar t (← asAddr (tmps.getD a undef)))).run C.P w = .ok z' w := by
      cases r with
      | tmp t =>
        simp only [compRes] at e1; cases e1
        simp only [resA] at e3; cases e3
        exact ⟨_, ht t, rfl⟩
      | cell a t =>
        simp only [compRes] at e1
        split at e1
        rotate_left
        · cases e1
        rename_i g n hg hn
        cases e1
        simp only [resA] at e3
        obtain ⟨B, o', cs, el, fr, rv', hu, hcc, hcv, g1, g2⟩ := loadA_sound hr e3 (ht a)
        refine ⟨rv', hcv, ?_⟩
        simp only [Sem.run_bind]
        rw [hu]
        simp only [asAddr, Sem.run_pure, Result.andThen_ok]
        exact r_loadVar hg hn hcc g1 g2
    obtain ⟨z', hz, hzr⟩ := hone
    refine ⟨z' :: vs', concL_cons_mk hz hv, ?_⟩
    simp only [List.mapM_cons, Sem.run_bind, hzr, Result.andThen_ok, hrun, Sem.run_pure]

theorem results_sound {fn : Func} {tmps : Array Value} {ts : Tmps} {rs : List ARes} {v : AV} (hr : Rep C.P φ h nx w) (ht : TsRel φ ts tmps) (hrs : optMap (compRes C.P) fn.results.toList = some rs) (hv : resL ts h rs = some v) :
    ∃ v', conc φ v = some v' ∧ (results fn tmps).run C.P w = .ok v' w := by
  unfold resL at hv
  cases hm : optMap (resA ts h) rs with
  | none => rw [hm] at hv; cases hv
  | some vs =>
    obtain ⟨vs', hc, hrun⟩ := resM_sound hr ht fn.results.toList rs vs hrs hm
    have hmap : (fn.results.mapM fun | ResultVar.tmp t => (pure (tmps.getD t undef) : Sem Value) | .cell a t => do loadVar t (← asAddr (tmps.getD a undef))).run C.P w = .ok vs'.toArray w := by
      rw [Array.mapM_eq_mapM_toList, Sem.run_map, hrun]
      rfl
    have hres : (results fn tmps).run C.P w = .ok (if h : vs'.toArray.size = 1 then vs'.toArray[0] else .tuple vs'.toArray) w := by
      unfold results
      rw [Sem.run_bind]
      exact (congrArg (fun r : Result (Array Value) => r.andThen fun vs w => (pure (if h : vs.size = 1 then vs[0] else Value.tuple vs) : Sem Value).run C.P w) hmap).trans rfl
    rw [hm] at hv
    cases vs with
    | nil =>
      simp only at hv; cases hv
      simp only [concL] at hc; cases hc
      exact ⟨_, rfl, hres⟩
    | cons z zs =>
      obtain ⟨z', zs', hz, hzs, rfl⟩ := concL_cons hc
      cases zs with
      | nil =>
        simp only at hv; cases hv
        simp only [concL] at hzs; cases hzs
        exact ⟨z', hz, hres⟩
      | cons y ys =>
        obtain ⟨y', ys', hy, hys, rfl⟩ := concL_cons hzs
        simp only at hv; cases hv
        refine ⟨.tuple (z' :: y' :: ys').toArray, ?_, ?_⟩
        · simp only [conc, hc]
        · rw [hres, dif_neg (by simp)]

end
end Go.Ax

/- The abstract executor: calls are sound. -/
namespace Go.Ax
variable [Opq]

section
variable {C : Ctx} {env : Env}

theorem leaves_sound (hC : C.Ok) (hE : EnvOk C env) {fn : Func} {tmps : Array Value} {R : Ending → World → Prop} : ∀ (ds : List ADef) (dl : List Deferred) (φ : Inj) (h : Heap) (nx : Nat) (w : World) (h' : Heap) (nx' : Nat),
    runDefers C env ds h nx = some (h', nx') → DsRel φ ds dl → Rep C.P φ h nx w →
    (∀ φ' w', Rep C.P φ' h' nx' w' → Chg φ h nx w φ' h' nx' w' → ∃ v, (results fn tmps).run C.P w' = .ok v w' ∧ R (.returned v) w') → LeavesInM Fence.wide 0 C.P fn tmps R dl .returning w
  | [], [], φ, h, nx, w, h', nx', hrun, hds, hr, hK => by
    simp only [runDefers] at hrun; cases hrun
    exact hK φ w hr (Chg.refl ..)
  | [], _ :: _, φ, h, nx, w, h', nx', hrun, hds, hr, hK => hds.elim
  | .call _ _ _ :: _, [], φ, h, nx, w, h', nx', hrun, hds, hr, hK => hds.elim
  | .mark _ :: _, [], φ, h, nx, w, h', nx', hrun, hds, hr, hK => hds.elim
  | .call f captured args :: ds, d :: dl, φ, h, nx, w, h', nx', hrun, hds, hr, hK => by
    obtain ⟨⟨fn', captured', args', h1, h2, h3, rfl⟩, hds'⟩ := hds
    cases f with
    | func f =>
      cases h1
      simp only [runDefers] at hrun
      cases hb : C.bodies.testBit f with
      | false => rw [hb] at hrun; cases hrun
      | true =>
        rw [hb] at hrun
        simp only [cond_true] at hrun
        split at hrun
        rotate_left
        · cases hrun
        rename_i v h1 nx1 henv
        refine ⟨by simp, .inr ⟨fun h => (by cases h), .func f, captured'.toArray, f, (args' ++ captured').toArray, rfl, ?_, fun _ _ => trivial, ?_⟩⟩
        · rw [← hC.enter f hb (args' ++ captured').toArray w]
          simp [invoke]
        · have hcall := hE.dfn f _ h nx v h1 nx1 henv φ w (args' ++ captured') hr (concL_append h3 h2) .returning
          refine CallsDIn.mono hcall ?_
          rintro e u' w' ⟨rfl, φ', v', rfl, hv', hrep, hchg⟩
          show LeavesInM Fence.wide 0 C.P fn tmps R dl .returning w'
          exact leaves_sound hC hE ds dl φ' h1 nx1 w' h' nx' hrun (hds'.mono (hr.le hchg)) hrep fun φ2 w2 r2 c2 => hK φ2 w2 r2 (hchg.trans c2)
    | _ => simp [runDefers] at hrun
  | .mark r :: ds, d :: dl, φ, h, nx, w, h', nx', hrun, hds, hr, hK => by
    obtain ⟨⟨B, dd, x, hB, rfl⟩, hds'⟩ := hds
    simp only [runDefers] at hrun
    split at hrun
    rotate_left
    · cases hrun
    rename_i hget
    obtain ⟨B', d', x', c, h1, h2, h3⟩ := hr.obj r _ hget
    rw [hB] at h1; cases h1
    cases c <;> simp only [objRep] at h3
    rename_i calls
    have h4 := h3.2
    subst h4
    refine ⟨by simp, .inl ⟨B, _, rfl, run_takeDeferred h2, ?_⟩⟩
    exact leaves_sound hC hE ds dl φ _ nx _ h' nx' hrun hds' (hr.drop hget hB rfl _) fun φ2 w2 r2 c2 => hK φ2 w2 r2 ((Chg.turn hr hget hB).trans c2)

theorem callBody_sound (hC : C.Ok) (hE : EnvOk C env) {fuel f : Nat} {fn : Func} (hf : C.P.funcs[f]? = some fn) {args : List AV} {h : Heap} {nx : Nat} {v : AV} {h' : Heap} {nx' : Nat} {φ : Inj} {w : World} {args' : List Value}
    (hrun : callBody C env fuel fn false args h nx = some (v, h', nx')) (hr : Rep C.P φ h nx w) (ha : concL φ args = some args') : Calls C.P f args'.toArray w (Done C φ h nx w v h' nx') := by
  unfold callBody at hrun
  split at hrun
  · cases hrun
  rename_i c hb
  split at hrun
  · cases hrun
  rename_i rs hrs
  have hs : St C φ { nt := args.length + (fn.ntmps - args.length), ts := argsT 0 args .leaf, ds := [], h := h, nx := nx } w { tmps := args'.toArray ++ Array.replicate (fn.ntmps - args'.toArray.size) undef, defers := [] } :=
    ⟨hr, args_ts ha _, trivial, by simp [concL_length ha]⟩
  have main : ∀ (x : AExit) (s : AS), exec C env false fuel (comp C.P c) { nt := args.length + (fn.ntmps - args.length), ts := argsT 0 args .leaf, ds := [], h := h, nx := nx } = some (x, s) → (∀ id, x ≠ .exit id) →
      (match runDefers C env s.ds s.h s.nx with | some (h', nx') => (match resL s.ts h' rs with | some v => some (v, h', nx') | none => none) | none => none) = some (v, h', nx') → Calls C.P f args'.toArray w (Done C φ h nx w v h' nx') := by
    intro x s hex hx hrd
    split at hrd
    rotate_left
    · cases hrd
    rename_i h1 nx1 hdef
    split at hrd
    rotate_left
    · cases hrd
    rename_i v1 hres
    cases hrd
    refine (callsIn_wide (n := 0)).1 (callsIn_of_wp_marks hf hb trivial ?_)
    refine exec_sound (ro := none) (rd := false) hC hE (fun _ => rfl) c hex hs fun φ1 a1 w1 p1 => ?_
    have hl : LeavesInM Fence.wide 0 C.P fn a1.tmps (Done C φ h nx w v h' nx') a1.defers .returning w1 :=
      leaves_sound hC hE s.ds a1.defers φ1 s.h s.nx w1 h' nx' hdef p1.st.ds p1.st.rep fun φ2 w2 r2 c2 => by
        obtain ⟨v', hv', hrr⟩ := results_sound r2 (p1.st.ts.mono (p1.st.rep.le c2)) hrs hres
        exact ⟨v', hrr, φ2, v', rfl, hv', r2, p1.chg.trans c2⟩
    cases x with
    | normal => exact hl
    | ret => exact hl
    | exit id => exact absurd rfl (hx id)
  split at hrun
  · cases hrun
  · rename_i x s hno hex
    refine main x s hex (fun id e => ?_) ?_
    · subst e; exact hno id rfl
    · exact hrun
  · cases hrun

theorem callBody_dsound (hC : C.Ok) (hE : EnvOk C env) {fuel f : Nat} {fn : Func} (hf : C.P.funcs[f]? = some fn) {args : List AV} {h : Heap} {nx : Nat} {v : AV} {h' : Heap} {nx' : Nat} {φ : Inj} {w : World} {args' : List Value}
    (hrun : callBody C env fuel fn true args h nx = some (v, h', nx')) (hr : Rep C.P φ h nx w) (ha : concL φ args = some args') (u : FrameMode) :
    CallsDIn Fence.wide 0 C.P f args'.toArray u w fun e u' w' => u' = u ∧ Done C φ h nx w v h' nx' e w' := by
  unfold callBody at hrun
  split at hrun
  · cases hrun
  rename_i c hb
  split at hrun
  · cases hrun
  rename_i rs hrs
  have hs : St C φ { nt := args.length + (fn.ntmps - args.length), ts := argsT 0 args .leaf, ds := [], h := h, nx := nx } w { tmps := args'.toArray ++ Array.replicate (fn.ntmps - args'.toArray.size) undef, defers := [] } :=
    ⟨hr, args_ts ha _, trivial, by simp [concL_length ha]⟩
  split at hrun
  · cases hrun
  · rename_i x s hno hex
    split at hrun
    · cases hrun
    · rename_i hne
      have hds : s.ds = [] := by
        cases hd : s.ds with
        | nil => rfl
        | cons d l => exact absurd hd (hne d l rfl)
      rw [hds] at hrun
      simp only [runDefers] at hrun
      split at hrun
      rotate_left
      · cases hrun
      rename_i v1 hres
      cases hrun
      refine callsDIn_of_wp hf hb trivial ?_
      refine exec_sound (ro := none) (rd := false) hC hE (fun _ => rfl) c hex hs fun φ1 a1 w1 p1 => ?_
      have hd1 : a1.defers = [] := by
        have := p1.st.ds
        rw [hds] at this
        cases hl : a1.defers with
        | nil => rfl
        | cons d l => rw [hl] at this; exact this.elim
      obtain ⟨v', hv', hrr⟩ := results_sound p1.st.rep p1.st.ts hrs hres
      have hl : a1.defers = [] ∧ ∃ v, (results fn a1.tmps).run C.P w1 = .ok v w1 ∧ Done C φ h nx w _ s.h s.nx (.returned v) w1 :=
        ⟨hd1, v', hrr, φ1, v', rfl, hv', p1.st.rep, p1.chg⟩
      cases x with
      | normal => exact hl
      | ret => exact hl
      | exit id => exact absurd rfl (hno id)
  · cases hrun

/-- what is known of some functions -/
def SumsOk (C : Ctx) (sums : FuncId → Option (List AV → Heap → Nat → Option (AV × Heap × Nat))) : Prop :=
  ∀ f g, sums f = some g → ∀ args h nx v h' nx', g args h nx = some (v, h', nx') → ∀ φ w args', Rep C.P φ h nx w → concL φ args = some args' → Calls C.P f args'.toArray w (Done C φ h nx w v h' nx')

theorem call_sound (hC : C.Ok) {sums : FuncId → Option (List AV → Heap → Nat → Option (AV × Heap × Nat))} (hS : SumsOk C sums) (fuel : Nat) : ∀ n, EnvOk C (call C sums fuel n)
  | 0 => ⟨fun _ _ _ _ _ _ _ h => (by cases h), fun _ _ _ _ _ _ _ h => (by cases h), fun _ _ _ _ _ _ _ h => (by cases h)⟩
  | n + 1 => by
    have ih := call_sound hC hS fuel n
    refine ⟨?_, ?_, ?_⟩
    · intro f args h nx v h' nx' hrun φ w args' hr ha
      simp only [call] at hrun
      split at hrun
      · rename_i g hg
        exact hS f g hg args h nx v h' nx' hrun φ w args' hr ha
      · split at hrun
        · rename_i fn hf
          exact callBody_sound hC ih hf hrun hr ha
        · cases hrun
    · intro f args h nx v h' nx' hrun φ w args' hr ha u
      simp only [call] at hrun
      split at hrun
      · rename_i fn hf
        exact callBody_dsound hC ih hf hrun hr ha u
      · cases hrun
    · intro l args h nx v h' nx' hrun φ w args' L d x hr ha hL
      simp only [call] at hrun
      exact round_sound hC ih hrun hr ha hL

end
end Go.Ax
#print axioms Go.Ax.call_sound

/- The abstract executor: runs over a small heap, brought into a large one. -/
namespace Go.Ax
variable [Opq]

/-- values without pointers -/
def plain : AV → Bool
  | .bool _ | .int _ _ | .str _ | .nilptr | .nilslice | .nilmap | .nilFunc | .nilIface => true
  | _ => false

def plainL : List AV → Bool
  | [] => true
  | v :: l => plain v && plainL l

theorem plain_conc {v : AV} (h : plain v = true) (φ ψ : Inj) : conc φ v = conc ψ v := by
  cases v <;> first | rfl | (simp [plain] at h)

theorem plainL_conc : ∀ {l : List AV}, plainL l = true → ∀ (φ ψ : Inj), concL φ l = concL ψ l
  | [], _, _, _ => rfl
  | v :: l, h, φ, ψ => by
    simp only [plainL, Bool.and_eq_true] at h
    simp only [concL]
    rw [plain_conc h.1 φ ψ, plainL_conc h.2 φ ψ]

def Inj.cut (φ : Inj) (k : Nat) : Inj := fun b => if b < k then φ b else none

section
variable {C : Ctx} {env : Env}

/-- a call without arguments over the empty heap tells a Boolean: so it does over each heap, and changes nothing -/
theorem pure_bool (hE : EnvOk C env) {f : FuncId} {b : Bool} {h' : Heap} {nx' : Nat} (hrun : env (.fn f) [] .leaf C.P.globals.size = some (.bool b, h', nx')) {φ : Inj} {h : Heap} {nx : Nat} {w : World} (hr : Rep C.P φ h nx w) :
    Calls C.P f #[] w (Done C φ h nx w (.bool b) h nx) := by
  have h0 : Rep C.P (φ.cut C.P.globals.size) .leaf C.P.globals.size w := by
    refine ⟨fun b o hb => by simp at hb, fun b b' o o' B d x d' x' _ hb => by simp at hb, fun b hb => ?_, fun g hg => ?_, fun b tag data B d x hb => by simp at hb, fun b b' o o' i _ _ hb => by simp at hb⟩
    · simp only [Inj.cut]; rw [if_neg (by omega)]
    · simp only [Inj.cut]; rw [if_pos hg]; exact hr.glob g hg
  refine Calls.mono (hE.fn f [] .leaf _ (.bool b) h' nx' hrun _ w [] h0 rfl) ?_
  rintro e w' ⟨φ', v', rfl, hv, hrep, hchg⟩
  have hold : ∀ i, i < w.heap.size → w'.heap[i]? = w.heap[i]? := fun i hi => hchg.frame i hi (fun b o hb => by simp at hb)
  refine ⟨φ, v', rfl, by rw [← hv]; rfl, ?_, ?_⟩
  · refine ⟨fun b o hb => ?_, hr.inj, hr.fresh, hr.glob, fun b tag data B d x hb hB => ?_, hr.sep⟩
    · obtain ⟨B, d, x, c, h1, h2, h3⟩ := hr.obj b o hb
      exact ⟨B, d, x, c, h1, by rw [hold B (hr.lt hb h1)]; exact h2, h3⟩
    · obtain ⟨k1, k2⟩ := hr.opq b tag data B d x hb hB
      exact ⟨Opq.loc _ _ _ _ _ _ k1 fun i hi => hold i (k2 i hi), fun i hi => Nat.lt_of_lt_of_le (k2 i hi) hchg.size⟩
  · exact ⟨fun _ _ => rfl, Nat.le_refl _, hchg.os, hchg.out, hchg.size, fun i hi _ => hold i hi, fun b o B hb hB => .inr ⟨b, o, hb, hB⟩⟩

/-- a call that takes a row of plain cells behind plain arguments, and gives such a row -/
theorem small_call (hE : EnvOk C env) {f : FuncId} {pre : List AV} {k n c m c' : Nat} {op op' : Bool} {vs us : List AV} {el el' : TypeId} {opn' : Option Nat} {r nx' : Nat} {h' : Heap} (hk : k = C.P.globals.size)
    (hrun : env (.fn f) (pre ++ [.slice k 0 n c op]) (T.put .leaf k (some (.cells vs el none))) (k + 1) = some (.slice r 0 m c' op', h', nx'))
    (hpre : plainL pre = true) (hvs : plainL vs = true) (hget : h'.get r = some (.cells us el' opn')) (hus : plainL us = true)
    {φ : Inj} {h : Heap} {nx b : Nat} {w : World} {el2 : TypeId} {opn2 : Option Nat} (hr : Rep C.P φ h nx w) (hb : h.get b = some (.cells vs el2 opn2)) {args' : List Value}
    (ha : concL φ (pre ++ [.slice b 0 n c op]) = some args') :
    Calls C.P f args'.toArray w (Done C φ h nx w (.slice nx 0 m c' op') (T.put .leaf nx (some (.cells us el' opn'))) (nx + 1)) := by
  subst hk
  obtain ⟨B, d, x, cb, hB, hcb, hob⟩ := hr.obj b _ hb
  let φ0 : Inj := fun y => if y < C.P.globals.size then φ y else if y = C.P.globals.size then φ b else none
  have e0 : φ0 C.P.globals.size = φ b := by simp [φ0]
  have eb : φ0.blk C.P.globals.size = φ.blk b := by unfold Inj.blk; rw [e0]
  have hdom : ∀ y o, (T.put .leaf C.P.globals.size (some (.cells vs el none)) : Heap).get y = some o → y = C.P.globals.size ∧ o = .cells vs el none := by
    intro y o hy
    rw [T.get_put] at hy
    split at hy
    · rename_i e; cases hy; exact ⟨e, rfl⟩
    · simp at hy
  have h0 : Rep C.P φ0 (T.put .leaf C.P.globals.size (some (.cells vs el none))) (C.P.globals.size + 1) w := by
    refine ⟨fun y o hy => ?_, fun y y' o o' B d x d' x' hne hy hy' => ?_, fun y hy => ?_, fun g hg => ?_, fun y tag data B d x hy => by (have := (hdom y _ hy).2; cases this), fun y y' o o' i _ hq hy => by (have := (hdom y _ hy).2; subst this; cases hq)⟩
    · obtain ⟨rfl, rfl⟩ := hdom y o hy
      refine ⟨B, d, x, cb, by rw [e0]; exact hB, hcb, ?_⟩
      cases cb <;> simp only [objRep] at hob ⊢
      obtain ⟨⟨l, hl, hcs⟩, _, h3⟩ := hob
      exact ⟨⟨l, by rw [← hl]; exact plainL_conc hvs _ _, hcs⟩, fun s hs => (by cases hs), h3⟩
    · exact absurd ((hdom y o hy).1.trans (hdom y' o' hy').1.symm) hne
    · simp only [φ0]; rw [if_neg (by omega), if_neg (by omega)]
    · simp only [φ0]; rw [if_pos hg]; exact hr.glob g hg
  have ha0 : concL φ0 (pre ++ [.slice C.P.globals.size 0 n c op]) = some args' := by
    obtain ⟨p, q, hp, hq, rfl⟩ := concL_append_inv ha
    refine concL_append (by rw [← hp]; exact plainL_conc hpre _ _) ?_
    rw [← hq]
    simp only [concL, conc, e0]
  refine Calls.mono (hE.fn f _ _ _ _ h' nx' hrun φ0 w args' h0 ha0) ?_
  rintro e w' ⟨φ1, v', rfl, hv, hrep, hchg⟩
  obtain ⟨R, dr, xr, cr, hR, hcr, hor⟩ := hrep.obj r _ hget
  have hnx := hr.fresh nx (Nat.le_refl _)
  refine ⟨φ.set nx (R, dr, xr), v', rfl, ?_, ?_, ?_⟩
  · rw [← hv]
    simp only [conc, Inj.set_same, hR]
  · have hdom1 : ∀ y o, (T.put .leaf nx (some (.cells us el' opn')) : Heap).get y = some o → y = nx ∧ o = .cells us el' opn' := by
      intro y o hy
      rw [T.get_put] at hy
      split at hy
      · rename_i e; cases hy; exact ⟨e, rfl⟩
      · simp at hy
    refine ⟨fun y o hy => ?_, fun y y' o o' B d x d' x' hne hy hy' => ?_, fun y hy => ?_, fun g hg => ?_, fun y tag data B d x hy => by (have := (hdom1 y _ hy).2; cases this), fun y y' o o' i _ hq hy => by (have := (hdom1 y _ hy).2; subst this; cases hq)⟩
    · obtain ⟨rfl, rfl⟩ := hdom1 y o hy
      refine ⟨R, dr, xr, cr, Inj.set_same .., hcr, ?_⟩
      cases cr <;> simp only [objRep] at hor ⊢
      obtain ⟨⟨l, hl, hcs⟩, h2, h3⟩ := hor
      exact ⟨⟨l, by rw [← hl]; exact plainL_conc hus _ _, hcs⟩, h2, h3⟩
    · exact absurd ((hdom1 y o hy).1.trans (hdom1 y' o' hy').1.symm) hne
    · rw [Inj.set_ne _ _ (by omega)]; exact hr.fresh y (by omega)
    · rw [Inj.set_ne _ _ (fun e => by rw [← e, hr.glob g hg] at hnx; cases hnx)]; exact hr.glob g hg
  · refine ⟨fun y hy => Inj.set_ne _ _ (by omega), Nat.le_succ _, hchg.os, hchg.out, hchg.size, fun i hi hno => ?_, fun y o By hy hBy => ?_⟩
    · refine hchg.frame i hi fun y o hy hyi => ?_
      obtain ⟨rfl, rfl⟩ := hdom y o hy
      rw [Inj.owns_blk rfl, eb] at hyi
      exact hno b _ hb ((Inj.owns_blk rfl).2 hyi)
    · rw [T.get_put] at hy
      split at hy
      · rename_i e; subst e; cases hy
        rw [Inj.owns_blk rfl, Inj.blk_of (Inj.set_same ..)] at hBy
        cases hBy
        rcases hchg.dom r _ R hget (Inj.owns_self hR) with h1 | ⟨b0, o0, h1, h2⟩
        · exact .inl h1
        · obtain ⟨rfl, rfl⟩ := hdom b0 o0 h1
          rw [Inj.owns_blk rfl, eb] at h2
          exact .inr ⟨b, _, hb, (Inj.owns_blk rfl).2 h2⟩
      · simp at hy

end
end Go.Ax

