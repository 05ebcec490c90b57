/- A part of the proof of TopWaits: see the last text of the claim. -/
import Derived.Test.YtflfeegpkckneaaGreatDoorAx3
set_option linter.unusedSectionVars false
set_option linter.unusedSimpArgs false
set_option linter.unusedVariables false
/- The abstract executor: slices and addresses. -/
namespace Go.Ax
variable [Opq]
section
variable {C : Ctx} {φ : Inj} {h : Heap} {nx nm : Nat} {w : World} {ts : Tmps} {a : Act} {o : Oper}

theorem r_sliceL {P : Program} {t e : TypeId} {es : Nat} (ht : P.underlying t = some (.slice e)) (hes : sizeA P e = some es) {base : Option Addr} {len cap l h' m : Nat} {low high max : Option Value}
    (hb : (Instr.sliceBounds true len cap low high max).run P w = .ok (l, h', m) w) :
    (Instr.sliceAt t (.slice base len cap) low high max).run P w = .ok (.slice (if m = l then base else base.map (·.add (l * es))) (h' - l) (m - l)) w := by
  simp only [Instr.sliceAt, Sem.run_bind, r_underlying ht, Result.andThen_ok, Instr.slice, hb, r_sizeOf hes, Sem.run_pure]

theorem s_sliceL (hi : In C φ h nx w ts a) (hn : φ nm = none) (hlt : nm < nx) {t e : TypeId} {x : Operand} {lo hi' mx : Option Operand} (ho : o.op = .slice t x lo hi' mx)
    (hd : C.P.underlying t = some (.slice e)) {es : Nat} (hes : sizeA C.P e = some es)
    {x' : Opd} {l1 h1 m1 : Option Opd} (hx : opd C.P x = some x') (hl : opdO C.P lo = some l1) (hh : opdO C.P hi' = some h1) (hm : opdO C.P mx = some m1) {r : Res}
    (hop : op0 C (.sliceL es x' l1 h1 m1) nm ts h = some r) : OpPost C φ h nx w nm a o r := by
  have hv := hi.opd hx
  simp only [op0] at hop
  split at hop
  · -- nil
    rename_i hs
    rw [hs] at hv
    split at hop
    · rename_i t3 hb
      obtain ⟨l, h', m⟩ := t3
      cases hop
      obtain ⟨hbb, _, hle, hhm, hhn, hmc⟩ := r_bounds3 (P := C.P) (w := w) (s := true) hb (Nat.le_refl _) (hi.opdO hl) (hi.opdO hh) (hi.opdO hm)
      have hm0 : capOf (evO ts m1) 0 m = 0 := by unfold capOf; split <;> omega
      rw [hm0] at hbb
      have hh0 : h' = 0 := by
        cases hhi : evO ts h1 with
        | none => exact hhn hhi
        | some _ => have := hhm (by simp [hhi]); omega
      have hl0 : l = 0 := by omega
      subst hh0 hl0
      refine Vals.mk' rfl ?_
      simp only [execOp, ho, conc_nilslice hv, Sem.run_bind, r_sliceL hd hes hbb, Result.andThen_ok, Sem.run_pure]
      rfl
    · cases hop
  · rename_i b p len cap op hs
    rw [hs] at hv
    obtain ⟨B, d, y, hB, hu⟩ := conc_slice hv
    split at hop
    · rename_i l h' m hb
      have hcap : cap ≤ (bif op then cap + y else cap) := by cases op <;> simp
      obtain ⟨hbb, hmn, hle, hhm, hhn, hmc⟩ := r_bounds3 (P := C.P) (w := w) (s := true) hb hcap (hi.opdO hl) (hi.opdO hh) (hi.opdO hm)
      have hrun : ∀ (m' : Nat), capOf (evO ts m1) (bif op then cap + y else cap) m = m' →
          (execOp a.eval o).run C.P w = .ok (.value (.slice (if m' = l then some ⟨B, d + p, none⟩ else some ⟨B, d + p + l * es, none⟩) (h' - l) (m' - l))) w := by
        intro m' hm'
        rw [hm'] at hbb
        simp only [execOp, ho, hu, Sem.run_bind, r_sliceL hd hes hbb, Result.andThen_ok, Sem.run_pure, Option.map_some, addr_add]
      -- the further elements
      generalize hop' : opOf m1 op = op' at hop
      have hm' : capOf (evO ts m1) (bif op then cap + y else cap) m = m + (bif op' then y else 0) := by
        unfold capOf
        cases m1 with
        | some z => simp only [evO, opOf] at hop' ⊢; subst hop'; rfl
        | none =>
          simp only [evO, opOf] at hop' ⊢
          rw [hmn rfl, ← hop']
          cases op <;> rfl
      have hrun' := hrun _ hm'
      clear hrun
      split at hop
      · rename_i hml
        subst hml
        split at hop
        · -- closed
          cases hop
          refine Vals.mk' (v' := .slice (some ⟨B, d + p, none⟩) (h' - m) 0) (by simp only [conc, hB]; simp) ?_
          rw [hrun']; simp
        · -- open
          split at hop
          · -- from the beginning
            cases hop
            refine Vals.mk' (v' := .slice (some ⟨B, d + p, none⟩) h' y) (by simp only [conc, hB]; simp) ?_
            rw [hrun']
            by_cases hy : y = 0 <;> simp [hy]
          · -- the empty rest
            rename_i l0
            split at hop
            · rename_i vs el s' hg
              split at hop
              · rename_i hcond
                obtain ⟨rfl, hlen, rfl⟩ := hcond
                cases hop
                obtain ⟨B', d', x2, cs, el', fr, lst, hB', hcc, hll, hcs, hsz, hfr⟩ := hi.rep.cells hg
                rw [hB] at hB'; cases hB'
                have hsize := hsz _ rfl
                simp only [Nat.succ_eq_add_one] at hlen
                simp only [Nat.succ_eq_add_one, cond_true, Nat.sub_self, Nat.add_sub_cancel_left] at hrun'
                -- where it lies
                let e0 : Nat := if y = 0 then d + p else d + p + (l0 + 1) * s'
                have hval : (if l0 + 1 + y = l0 + 1 then some (⟨B, d + p, none⟩ : Addr) else some ⟨B, d + p + (l0 + 1) * s', none⟩) = some ⟨B, e0, none⟩ := by
                  by_cases hy : y = 0 <;> simp [e0, hy]
                have hrun2 : (execOp a.eval o).run C.P w = .ok (.value (.slice (some ⟨B, e0, none⟩) 0 y)) w := by
                  rw [hrun']; rw [hval]
                have he0 : y = 0 ∨ e0 = d + vs.length := by
                  by_cases hy : y = 0
                  · exact .inl hy
                  · right; simp only [e0, hy, if_false]; omega
                have he1 : e0 + y * s' ≤ cs.size := by
                  rcases he0 with hy | hy
                  · subst hy; simp only [e0, if_true]; omega
                  · omega
                have hbn : b ≠ nm := fun e => by subst e; rw [hn] at hB; cases hB
                have hconc : conc (φ.set nm (B, e0, y)) (.slice nm 0 0 0 true) = some (.slice (some ⟨B, e0, none⟩) 0 y) := by
                  simp only [conc, Inj.set_same]; simp
                refine ⟨⟨_, _, w, φ.set nm (B, e0, y), hrun2, .val _, hconc, ?_, ?_⟩, ⟨_, _, (B, e0, y), hrun2, .val _, hconc⟩⟩
                · -- the relation
                  have r1 := hi.rep.write (o' := .cells vs el none) (c' := .cells cs el' fr) hg hB ⟨⟨lst, hll, hcs⟩, (by intro s hs; cases hs), hfr⟩
                    (by intro n hr; simp only [reach] at hr ⊢; cases hr; exact ⟨_, rfl, by omega⟩)
                    (by intro b1 o1 d1 x1 c hne h1 hb1 hc0 _ ho1; rw [hcc] at hc0; cases hc0; exact ho1)
                  rw [heap_same w hcc] at r1
                  have r2 := r1.set hn hlt (B, e0, y)
                  refine r2.add (Inj.set_same ..) hcc ⟨⟨[], rfl, by simp⟩, (by intro s hs; cases hs; simpa using he1), hfr⟩ ?_ ?_ rfl
                  rotate_left
                  · intro b1 o1 hne h1 hq hw
                    rw [Inj.owns_set_ne hne] at hw
                    rw [T.get_put] at h1
                    split at h1
                    · cases h1; cases hq
                    · rename_i e
                      exact hi.rep.sep b1 b o1 _ B e hq h1 hg hw (Inj.owns_self hB)
                  intro b1 o1 d1 x1 hne h1 hb1
                  rw [Inj.set_ne _ _ hne] at hb1
                  rw [T.get_put] at h1
                  split at h1
                  · rename_i e; subst e; cases h1
                    rw [hB] at hb1; cases hb1
                    refine ⟨_, _, rfl, rfl, fun i hi' => ?_⟩
                    simp at hi'
                    rcases he0 with hy | hy
                    · subst hy; omega
                    · omega
                  · rename_i e
                    obtain ⟨n, n', hr1, hr2, hdis⟩ := hi.rep.inj b b1 _ o1 B d y d1 x1 (Ne.symm e) hg h1 hB hb1
                    simp only [reach] at hr1; cases hr1
                    refine ⟨_, n', rfl, hr2, fun i hi' => ?_⟩
                    simp at hi'
                    rcases he0 with hy | hy
                    · subst hy; omega
                    · exact hdis i ⟨by omega, by omega, by omega, by omega⟩
                · exact {
                    ext := fun b1 hb1 => Inj.set_ne _ _ hb1
                    os := rfl
                    out := rfl
                    size := Nat.le_refl _
                    frame := fun _ _ _ => rfl
                    dom := by
                      intro b1 o1 B1 h1 hb1
                      right
                      rw [T.get_put] at h1
                      split at h1
                      · rename_i e; subst e; cases h1
                        rw [Inj.owns_blk rfl] at hb1
                        obtain ⟨d1, x1, hB1⟩ := Inj.blk_some hb1
                        rw [Inj.set_same] at hB1; cases hB1
                        exact ⟨b, _, hg, Inj.owns_self hB⟩
                      · rename_i e
                        have hb2 : φ.owns o1 b1 B1 := by rwa [Inj.owns_set_ne e] at hb1
                        simp only [edit] at h1
                        rw [T.get_put] at h1
                        split at h1
                        · rename_i e'; subst e'; cases h1
                          rw [Inj.owns_blk rfl] at hb2
                          exact ⟨b1, _, hg, (Inj.owns_blk rfl).2 hb2⟩
                        · exact ⟨b1, _, h1, hb2⟩ }
              · cases hop
            · cases hop
      · -- a part
        rename_i hml
        split at hop
        rotate_left
        · cases hop
        rename_i hhm'
        cases hop
        have hne : m + (bif op' then y else 0) ≠ l := by omega
        refine Vals.mk' (v' := .slice (some ⟨B, d + p + l * es, none⟩) (h' - l) (m + (bif op' then y else 0) - l)) ?_ ?_
        · simp only [conc, hB]
          rw [show d + (p + l * es) = d + p + l * es from by omega]
          cases op'
          · simp
          · have : l ≤ m := by omega
            simp; omega
        · rw [hrun', if_neg hne]
    · cases hop
  · cases hop

end
end Go.Ax

/- The abstract executor: addresses, parts, indexes. -/
namespace Go.Ax
variable [Opq]
section
variable {C : Ctx} {φ : Inj} {h : Heap} {nx nm : Nat} {w : World} {ts : Tmps} {a : Act} {o : Oper}

theorem s_sliceA (hi : In C φ h nx w ts a) {t e : TypeId} {n : Nat} {x : Operand} {lo hi' mx : Option Operand} (ho : o.op = .slice t x lo hi' mx)
    (hd : C.P.underlying t = some (.array n e)) {es : Nat} (hes : sizeA C.P e = some es)
    {x' : Opd} {l1 h1 m1 : Option Opd} (hx : opd C.P x = some x') (hl : opdO C.P lo = some l1) (hh : opdO C.P hi' = some h1) (hm : opdO C.P mx = some m1) {r : Res}
    (hop : op0 C (.sliceA n es x' l1 h1 m1) nm ts h = some r) : OpPost C φ h nx w nm a o r := by
  have hv := hi.opd hx
  simp only [op0] at hop
  split at hop
  · rename_i b p hs
    rw [hs] at hv
    obtain ⟨B, d, y, hB, hu⟩ := conc_ptr hv
    split at hop
    · rename_i l h' m hb
      cases hop
      obtain ⟨hbb, hmn, _, _, _, _⟩ := r_bounds3 (P := C.P) (w := w) (s := false) hb (Nat.le_refl _) (hi.opdO hl) (hi.opdO hh) (hi.opdO hm)
      have hm' : capOf (evO ts m1) n m = m := by
        unfold capOf
        cases hq : evO ts m1 with
        | none => exact (hmn hq).symm
        | some _ => rfl
      rw [hm'] at hbb
      refine Vals.mk' (v' := .slice (some ⟨B, d + (if m = l then p else p + l * es), none⟩) (h' - l) (m - l)) (by simp only [conc, hB]; simp) ?_
      simp only [execOp, ho, hu, Instr.sliceAt, Sem.run_bind, r_underlying hd, Result.andThen_ok, Instr.sureAddr, Sem.run_pure, hbb, r_sizeOf hes]
      by_cases hml : m = l
      · simp [hml]
      · simp only [if_neg hml, addr_add]; simp [Nat.add_assoc]
    · cases hop
  · cases hop

theorem s_slice (hi : In C φ h nx w ts a) (hn : φ nm = none) (hlt : nm < nx) {t : TypeId} {x : Operand} {lo hi' mx : Option Operand} (ho : o.op = .slice t x lo hi' mx) {ao : AOp} {r : Res}
    (hc : compOp? C.P o = some ao) (hop : op0 C ao nm ts h = some r) : OpPost C φ h nx w nm a o r := by
  simp only [compOp?, ho] at hc
  split at hc
  · rename_i x' l1 h1 hd hx hl hh hm
    cases hc
    cases mx with
    | some z =>
      simp only [opdO] at hm
      split at hm
      · cases hm
      · cases hm
    | none => exact s_sliceS hi ho hd hx hl hh hop
  · rename_i e x' l1 h1 m1 hd hx hl hh hm
    split at hc
    · rename_i n hes
      cases hc
      exact s_sliceL hi hn hlt ho hd hes hx hl hh hm hop
    · cases hc
  · rename_i k e x' l1 h1 m1 hd hx hl hh hm
    split at hc
    · rename_i n hes
      cases hc
      exact s_sliceA hi ho hd hes hx hl hh hm hop
    · cases hc
  · cases hc

theorem s_fieldAddr (hi : In C φ h nx w ts a) {t : TypeId} {x : Operand} {f : Nat} (ho : o.op = .fieldAddr t x f) {ao : AOp} {r : Res}
    (hc : compOp? C.P o = some ao) (hop : op0 C ao nm ts h = some r) : OpPost C φ h nx w nm a o r := by
  simp only [compOp?, ho] at hc
  split at hc
  · rename_i fields x' hd hx
    split at hc
    · rename_i fd hf
      split at hc
      · rename_i n hn
        cases hc
        have hv := hi.opd hx
        simp only [op0] at hop
        split at hop
        · rename_i b p hs
          cases hop
          rw [hs] at hv
          obtain ⟨B, d, y, hB, hu⟩ := conc_ptr hv
          refine Vals.mk' (v' := .pointer (some ⟨B, d + (p + fd.offset), none⟩)) (by simp only [conc, hB]) ?_
          simp only [execOp, ho, hu, Instr.fieldAt, Sem.run_bind, r_underlying hd, Result.andThen_ok, hf, Instr.sureAddr, Sem.run_pure, fieldPlace, r_sizeOf hn, addr_add]
          simp [Nat.add_assoc]
        · cases hop
      · cases hc
    · cases hc
  · cases hc

theorem r_part {P : Program} {t : TypeId} {g : Bool} {n off : Nat} (hg : aggA P t = some g) (hn : sizeA P t = some n) {cs : List AV} {l : List Value} (hl : concL φ cs = some l)
    {v : AV} (hv : part g off n cs = some v) : ∃ v', (Go.part t l.toArray off).run P w = .ok v' w ∧ conc φ v = some v' := by
  cases g with
  | true =>
    simp only [part] at hv
    split at hv
    · rename_i l1 ht
      cases hv
      obtain ⟨rfl, hle⟩ := takeN_eq _ _ _ ht
      rw [dropN_eq] at hle ⊢
      refine ⟨.agg ((l.drop off).take n).toArray, ?_, by simp only [conc, concL_take n (concL_drop off hl)]⟩
      simp only [Go.part, Sem.run_bind, r_isAgg hg, Result.andThen_ok, if_true, r_sizeOf hn, Sem.run_pure]
      congr 2
      apply Array.ext'
      simp [List.extract_eq_take_drop]
    · cases hv
  | false =>
    simp only [part] at hv
    split at hv
    · rename_i y ys hd
      cases hv
      rw [dropN_eq] at hd
      have h1 := concL_drop off hl
      rw [hd] at h1
      obtain ⟨v', l', hv', _, hl'⟩ := concL_cons h1
      refine ⟨v', ?_, hv'⟩
      have : l[off]? = some v' := by
        have := congrArg (fun x : List Value => x[0]?) hl'
        simpa using this
      simp only [Go.part, Sem.run_bind, r_isAgg hg, Result.andThen_ok, Bool.false_eq_true, if_false, List.getElem?_toArray, this, Sem.run_pure]
    · cases hv

theorem s_field (hi : In C φ h nx w ts a) {t : TypeId} {x : Operand} {f : Nat} (ho : o.op = .field t x f) {ao : AOp} {r : Res}
    (hc : compOp? C.P o = some ao) (hop : op0 C ao nm ts h = some r) : OpPost C φ h nx w nm a o r := by
  simp only [compOp?, ho] at hc
  split at hc
  · rename_i fields x' hd hx
    split at hc
    · rename_i fd hf
      split at hc
      · rename_i n g hn hg
        cases hc
        have hv := hi.opd hx
        simp only [op0] at hop
        split at hop
        · rename_i cs hs
          obtain ⟨v, hp, rfl⟩ := qO_some hop
          rw [hs] at hv
          obtain ⟨l, hl, hu⟩ := conc_agg hv
          obtain ⟨v', hr, hcv⟩ := r_part (w := w) hg hn hl hp
          refine Vals.mk' hcv ?_
          simp only [execOp, ho, hu, Instr.field, Sem.run_bind, r_underlying hd, Result.andThen_ok, hf, asAgg, Sem.run_pure, hr]
        · cases hop
      · cases hc
    · cases hc
  · cases hc

theorem s_indexAddr (hi : In C φ h nx w ts a) {t : TypeId} {x i : Operand} (ho : o.op = .indexAddr t x i) {ao : AOp} {r : Res}
    (hc : compOp? C.P o = some ao) (hop : op0 C ao nm ts h = some r) : OpPost C φ h nx w nm a o r := by
  simp only [compOp?, ho] at hc
  split at hc
  · rename_i len e x' i' hd hx hi'
    split at hc
    · rename_i n hn
      cases hc
      have hv := hi.opd hx
      have hw := hi.opd hi'
      simp only [op0] at hop
      split at hop
      · rename_i b p k j hs hj
        split at hop
        · rename_i hlt
          cases hop
          rw [hs] at hv; rw [hj] at hw
          obtain ⟨B, d, y, hB, hu⟩ := conc_ptr hv
          refine Vals.mk' (v' := .pointer (some ⟨B, d + (p + j.toNat * n), none⟩)) (by simp only [conc, hB]) ?_
          simp only [execOp, ho, hu, conc_int hw, Instr.indexAt, asIntOf, Sem.run_bind, r_underlying hd, Result.andThen_ok, Instr.sureAddr, Sem.run_pure]
          rw [if_pos hlt]
          simp only [Sem.run_bind, r_sizeOf hn, Result.andThen_ok, Sem.run_pure, addr_add]
          simp [Nat.add_assoc]
        · cases hop
      · cases hop
    · cases hc
  · rename_i e x' i' hd hx hi'
    split at hc
    · rename_i n hn
      cases hc
      have hv := hi.opd hx
      have hw := hi.opd hi'
      simp only [op0] at hop
      split at hop
      · rename_i b p len c q k j hs hj
        split at hop
        · rename_i hlt
          cases hop
          rw [hs] at hv; rw [hj] at hw
          obtain ⟨B, d, y, hB, hu⟩ := conc_slice hv
          refine Vals.mk' (v' := .pointer (some ⟨B, d + (p + j.toNat * n), none⟩)) (by simp only [conc, hB]) ?_
          simp only [execOp, ho, hu, conc_int hw, Instr.indexAt, asIntOf, Sem.run_bind, r_underlying hd, Result.andThen_ok, Sem.run_pure]
          rw [if_pos hlt]
          simp only [Sem.run_bind, r_sizeOf hn, Result.andThen_ok, Sem.run_pure, addr_add]
          simp [Nat.add_assoc]
        · cases hop
      · cases hop
    · cases hc
  · cases hc

theorem s_index (hi : In C φ h nx w ts a) {t : TypeId} {x i : Operand} (ho : o.op = .index t x i) {ao : AOp} {r : Res}
    (hc : compOp? C.P o = some ao) (hop : op0 C ao nm ts h = some r) : OpPost C φ h nx w nm a o r := by
  simp only [compOp?, ho] at hc
  split at hc
  · rename_i len e x' i' hd hx hi'
    split at hc
    · rename_i n g hn hg
      cases hc
      have hv := hi.opd hx
      have hw := hi.opd hi'
      simp only [op0] at hop
      split at hop
      · rename_i cs k j hs hj
        split at hop
        · rename_i hlt
          obtain ⟨v, hp, rfl⟩ := qO_some hop
          rw [hs] at hv; rw [hj] at hw
          obtain ⟨l, hl, hu⟩ := conc_agg hv
          obtain ⟨v', hr, hcv⟩ := r_part (w := w) hg hn hl hp
          refine Vals.mk' hcv ?_
          simp only [execOp, ho, hu, conc_int hw, Instr.index, asIntOf, Sem.run_bind, r_underlying hd, Result.andThen_ok, Sem.run_pure]
          rw [if_pos hlt]
          simp only [Sem.run_bind, r_sizeOf hn, Result.andThen_ok, hr]
        · cases hop
      · cases hop
    · cases hc
  · rename_i x' i' hd hx hi'
    cases hc
    have hv := hi.opd hx
    have hw := hi.opd hi'
    simp only [op0] at hop
    split at hop
    · rename_i s k j hs hj
      split at hop
      · rename_i hge
        split at hop
        · rename_i c cs hdr
          cases hop
          rw [hs] at hv; rw [hj] at hw
          refine Vals.mk' rfl ?_
          rw [dropN_eq] at hdr
          have hget : s[j.toNat]? = some c := by
            have := congrArg (fun x : List UInt8 => x[0]?) hdr
            simpa using this
          have hb : (⟨s.toArray⟩ : ByteArray)[j.toNat]? = some c := by
            have hlt : j.toNat < s.length := by
              rcases Nat.lt_or_ge j.toNat s.length with h | h
              · exact h
              · rw [List.getElem?_eq_none h] at hget; cases hget
            have hlt' : j.toNat < (⟨s.toArray⟩ : ByteArray).size := by simpa [ByteArray.size] using hlt
            rw [getElem?_pos (⟨s.toArray⟩ : ByteArray) j.toNat hlt']
            rw [List.getElem?_eq_getElem hlt] at hget
            have e1 : s.toArray[j.toNat]'(by simpa using hlt) = c := by simpa using hget
            exact congrArg some e1
          simp only [execOp, ho, conc_str hv, conc_int hw, Instr.index, asIntOf, Sem.run_bind, r_underlying hd, Result.andThen_ok, Sem.run_pure]
          rw [if_pos hge, hb]
          rfl
        · cases hop
      · cases hop
    · rename_i cs k j hs hj
      split at hop
      · rename_i hge
        split at hop
        · rename_i c cs' hdr
          cases hop
          rw [hs] at hv; rw [hj] at hw
          obtain ⟨s, hcl, _, hval⟩ := conc_sstr' hv
          rw [dropN_eq] at hdr
          have h1 := concL_drop j.toNat hcl
          rw [hdr] at h1
          obtain ⟨v', l', hv', _, hl'⟩ := concL_cons h1
          rw [← List.map_drop] at hl'
          obtain ⟨b, r, hd2, rfl⟩ : ∃ b r, s.drop j.toNat = b :: r ∧ v' = Value.int .u8 (UInt8.toNat b) := by
            cases hq : s.drop j.toNat with
            | nil => rw [hq] at hl'; cases hl'
            | cons b r => rw [hq] at hl'; cases hl'; exact ⟨b, r, rfl, rfl⟩
          refine Vals.mk' hv' ?_
          have hget : s[j.toNat]? = some b := by
            have := congrArg (fun x : List UInt8 => x[0]?) hd2
            simpa using this
          have hb : (⟨s.toArray⟩ : ByteArray)[j.toNat]? = some b := by
            have hlt : j.toNat < s.length := by
              rcases Nat.lt_or_ge j.toNat s.length with h | h
              · exact h
              · rw [List.getElem?_eq_none h] at hget; cases hget
            have hlt' : j.toNat < (⟨s.toArray⟩ : ByteArray).size := by simpa [ByteArray.size] using hlt
            rw [getElem?_pos (⟨s.toArray⟩ : ByteArray) j.toNat hlt']
            rw [List.getElem?_eq_getElem hlt] at hget
            have e1 : s.toArray[j.toNat]'(by simpa using hlt) = b := by simpa using hget
            exact congrArg some e1
          simp only [execOp, ho, hval, conc_int hw, Instr.index, asIntOf, Sem.run_bind, r_underlying hd, Result.andThen_ok, Sem.run_pure]
          rw [if_pos hge, hb]
          rfl
        · cases hop
      · cases hop
    · cases hop
  · cases hc

end
end Go.Ax

/- The abstract executor: maps, assertions, lengths, literals. -/
namespace Go.Ax
variable [Opq]
section
variable {C : Ctx} {φ : Inj} {h : Heap} {nx nm : Nat} {w : World} {ts : Tmps} {a : Act} {o : Oper}

def kindDesc : KeyKind → TypeDesc → Bool
  | .int, .int _ => true
  | .string, .string => true
  | _, _ => false

theorem keyKind_of {P : Program} {t : TypeId} {kk : KeyKind} (hk : keyKind P t = some kk) : ∃ d, P.underlying t = some d ∧ kindDesc kk d = true := by
  unfold keyKind at hk
  split at hk
  · rename_i k hd; cases hk; exact ⟨_, hd, rfl⟩
  · rename_i hd; cases hk; exact ⟨_, hd, rfl⟩
  · cases hk

theorem sameKey_sound {kk : KeyKind} {d : TypeDesc} (hd : kindDesc kk d = true) {x y : AV} {b : Bool} (hs : sameKey kk x y = some b) {u v : Value} (hu : conc φ x = some u) (hv : conc φ y = some v) :
    Instr.sameNow d u v = some b := by
  cases kk <;> cases x <;> cases y <;> simp only [sameKey, reduceCtorEq] at hs
  · cases d <;> simp only [kindDesc, Bool.false_eq_true] at hd
    split at hs
    · cases hs
      cases conc_int hu; cases conc_int hv
      simp [Instr.sameNow, *]
    · cases hs
  · cases d <;> simp only [kindDesc, Bool.false_eq_true] at hd
    cases hs
    cases conc_str hu; cases conc_str hv
    simp only [Instr.sameNow]
    congr 1
    rename_i s1 s2
    have e : ((⟨s1.toArray⟩ : ByteArray) == ⟨s2.toArray⟩) = (s1.toArray == s2.toArray) := rfl
    rw [e, Bool.eq_iff_iff]
    simp

theorem findA_sound {kk : KeyKind} {d : TypeDesc} (hd : kindDesc kk d = true) {k : AV} {u : Value} (hu : conc φ k = some u) : ∀ {es : List (AV × AV × Nat)} {ms : List MapEntry} {i : Nat} {r : Option (Nat × AV)},
    findA kk k es i = some r → concE φ es = some ms → ∃ r', Instr.findNow d u ms i = some r' ∧
      (match r with
       | none => r' = none
       | some (j, v) => ∃ v', r' = some (j, v') ∧ conc φ v = some v' ∧ ∃ k' b n, es[j - i]? = some (k', b, n) ∧ i ≤ j ∧ sameKey kk k k' = some true ∧ ∃ m, ms[j - i]? = some m ∧ conc φ k' = some m.key ∧ m.born = n)
  | [], ms, i, r, hf, he => by
    simp only [concE] at he; cases he
    simp only [findA] at hf; cases hf
    exact ⟨none, rfl, rfl⟩
  | (k', v, n) :: es, ms, i, r, hf, he => by
    simp only [concE] at he
    cases hk : conc φ k' with
    | none => rw [hk] at he; simp at he
    | some k'' =>
      cases hv : conc φ v with
      | none => rw [hk, hv] at he; simp at he
      | some v'' =>
        cases hl : concE φ es with
        | none => rw [hk, hv, hl] at he; simp at he
        | some l'' =>
          rw [hk, hv, hl] at he; cases he
          simp only [findA] at hf
          split at hf
          · rename_i hs
            cases hf
            refine ⟨some (i, v''), ?_, v'', rfl, hv, k', v, n, by simp, Nat.le_refl _, hs, ⟨k'', v'', n⟩, by simp, hk, rfl⟩
            simp only [Instr.findNow, sameKey_sound hd hs hu hk]
          · rename_i hs
            obtain ⟨r', hr', hrest⟩ := findA_sound hd hu hf hl
            refine ⟨r', by simp only [Instr.findNow, sameKey_sound hd hs hu hk, hr'], ?_⟩
            cases r with
            | none => exact hrest
            | some jv =>
              obtain ⟨j, x⟩ := jv
              obtain ⟨v', e1, e2, kq, b, n', e3, e4, e5, m, e6, e7, e8⟩ := hrest
              refine ⟨v', e1, e2, kq, b, n', ?_, by omega, e5, m, ?_, e7, e8⟩
              · rw [show j - i = (j - (i + 1)) + 1 from by omega]; simpa using e3
              · rw [show j - i = (j - (i + 1)) + 1 from by omega]; simpa using e6
          · cases hf

theorem r_findKey {P : Program} {kt : TypeId} {kk : KeyKind} {d : TypeDesc} (hd : P.underlying kt = some d) {u : Value} {ms : List MapEntry} {r : Option (Nat × Value)}
    (hf : Instr.findNow d u ms 0 = some r) : (Instr.findKey kt u ms).run P w = .ok r w := by
  simp only [Instr.findKey, Sem.run_bind, r_underlying hd, Result.andThen_ok, hf, Sem.run_pure]

theorem r_checkKey {P : Program} {kt : TypeId} {kk : KeyKind} {d : TypeDesc} (hd : P.underlying kt = some d) (hk : kindDesc kk d = true) (b : Bool) (u : Value) :
    (Instr.checkKey b 10000 kt u).run P w = .ok () w := by
  rw [show (10000 : Nat) = 9999 + 1 from rfl, Instr.checkKey]
  simp only [Sem.run_bind, r_underlying hd, Result.andThen_ok]
  cases kk <;> cases d <;> simp only [kindDesc, Bool.false_eq_true] at hk <;> rfl

theorem zeroA_sound {P : Program} {t : TypeId} {z : AV} (hz : zeroA P t = some z) : ∃ z', (∀ w, (zeroValue t).run P w = .ok z' w) ∧ ∀ φ, conc φ z = some z' := by
  unfold zeroA at hz
  split at hz
  · rename_i i hi
    split at hz
    · rename_i v hv
      exact ⟨v, fun w => r_zeroValue hi hv, fun φ => absV_sound _ _ _ hz⟩
    · cases hz
  · cases hz

theorem conc_pair {v : AV} {v' : Value} (hv : conc φ v = some v') (b : Bool) : conc φ (.tuple [v, .bool b]) = some (.tuple #[v', .bool b]) := by
  simp only [conc, concL, hv]

theorem s_lookup (hi : In C φ h nx w ts a) {t : TypeId} {x k : Operand} {ok : Bool} (ho : o.op = .lookup t x k ok) {ao : AOp} {r : Res}
    (hc : compOp? C.P o = some ao) (hop : op0 C ao nm ts h = some r) : OpPost C φ h nx w nm a o r := by
  simp only [compOp?, ho] at hc
  split at hc
  · rename_i kt e x' k' hd hx hk
    split at hc
    · rename_i kk z hkk hz
      cases hc
      have hv := hi.opd hx
      have hu := hi.opd hk
      obtain ⟨d, hkd, hdesc⟩ := keyKind_of hkk
      obtain ⟨z', hzr, hzc⟩ := zeroA_sound hz
      have fin : ∀ (v : AV) (v' : Value) (b : Bool), conc φ v = some v' → conc φ (bif ok then .tuple [v, .bool b] else v) = some (if ok then .tuple #[v', .bool b] else v') := by
        intro v v' b hv
        cases ok
        · simpa using hv
        · simpa using conc_pair hv b
      simp only [op0] at hop
      split at hop
      · rename_i hs
        split at hop
        · cases hop
          rw [hs] at hv
          refine Vals.mk' (fin z z' false (hzc φ)) ?_
          have hfk : (Instr.findKey kt (a.eval k) []).run C.P w = .ok none w := r_findKey (kk := kk) hkd rfl
          simp [execOp, ho, conc_nilmap hv, Instr.lookup, r_underlying hd, r_checkKey hkd hdesc, hfk, hzr]
        · cases hop
      · rename_i q hs
        rw [hs] at hv
        obtain ⟨B, dd, y, hB, hmv⟩ := conc_map hv
        split at hop
        · rename_i es ck hg
          obtain ⟨B', d', y', ms, hB', hmc, hes⟩ := hi.rep.mapObj hg
          rw [hB] at hB'; cases hB'
          have hgo : (getObj B).run C.P w = .ok (.map ms ck) w := by simp [getObj, Sem.run, hmc]
          split at hop
          · rename_i j v hsk hf
            cases hop
            obtain ⟨r', hr', v', e1, e2, _⟩ := findA_sound hdesc hu hf hes
            subst e1
            refine Vals.mk' (fin v v' true e2) ?_
            have hfk := r_findKey (w := w) (kk := kk) hkd hr'
            simp [execOp, ho, hmv, Instr.lookup, r_underlying hd, hgo, r_checkKey hkd hdesc, hfk]
          · rename_i hsk hf
            cases hop
            obtain ⟨r', hr', e1⟩ := findA_sound hdesc hu hf hes
            simp only at e1; subst e1
            refine Vals.mk' (fin z z' false (hzc φ)) ?_
            have hfk := r_findKey (w := w) (kk := kk) hkd hr'
            simp [execOp, ho, hmv, Instr.lookup, r_underlying hd, hgo, r_checkKey hkd hdesc, hfk, hzr]
          · cases hop
        · cases hop
      · cases hop
    · cases hc
  · cases hc

theorem s_assert (hi : In C φ h nx w ts a) {s t : TypeId} {x : Operand} {ok : Bool} (ho : o.op = .typeAssert x s t ok) {ao : AOp} {r : Res}
    (hc : compOp? C.P o = some ao) (hop : op0 C ao nm ts h = some r) : OpPost C φ h nx w nm a o r := by
  simp only [compOp?, ho] at hc
  split at hc
  · cases hc
  · rename_i x' d z hno hx hd hz
    cases hc
    have hv := hi.opd hx
    obtain ⟨z', hzr, hzc⟩ := zeroA_sound hz
    have hni : ∀ ms, d ≠ .interface ms := fun ms e => hno ms e
    simp only [op0] at hop
    split at hop
    · rename_i t' v hs
      rw [hs] at hv
      obtain ⟨v', hv', hu⟩ := conc_iface hv
      split at hop
      · rename_i e; subst e
        cases hop
        refine Vals.mk' (v' := if ok then .tuple #[v', .bool true] else v') ?_ ?_
        · cases ok
          · simpa using hv'
          · simpa using conc_pair hv' true
        · simp only [execOp, ho, hu, Instr.typeAssert, Sem.run_bind, r_underlying hd, Result.andThen_ok]
          cases d <;> first
            | (exact absurd rfl (hni _))
            | (cases ok <;> simp)
      · rename_i hne
        cases ok with
        | false => cases hop
        | true =>
          cases hop
          refine Vals.mk' (v' := .tuple #[z', .bool false]) (conc_pair (hzc φ) false) ?_
          simp only [execOp, ho, hu, Instr.typeAssert, Sem.run_bind, r_underlying hd, Result.andThen_ok]
          cases d <;> first
            | (exact absurd rfl (hni _))
            | (simp [hne, hzr])
    · rename_i hs
      rw [hs] at hv
      cases ok with
      | false => cases hop
      | true =>
        cases hop
        refine Vals.mk' (v' := .tuple #[z', .bool false]) (conc_pair (hzc φ) false) ?_
        simp only [execOp, ho, conc_nilIface hv, Instr.typeAssert, Sem.run_bind, r_underlying hd, Result.andThen_ok]
        cases d <;> first
          | (exact absurd rfl (hni _))
          | (simp [hzr])
    · cases hop
  · cases hc

theorem s_extract (hi : In C φ h nx w ts a) {x : Operand} {i : Nat} (ho : o.op = .extract x i) {ao : AOp} {r : Res}
    (hc : compOp? C.P o = some ao) (hop : op0 C ao nm ts h = some r) : OpPost C φ h nx w nm a o r := by
  simp only [compOp?, ho] at hc
  split at hc
  · rename_i x' hx
    cases hc
    have hv := hi.opd hx
    simp only [op0] at hop
    split at hop
    · rename_i vs hs
      split at hop
      · rename_i v vs' hd
        cases hop
        rw [hs] at hv
        obtain ⟨l, hl, hu⟩ := conc_tuple hv
        rw [dropN_eq] at hd
        have h1 := concL_drop i hl
        rw [hd] at h1
        obtain ⟨v', l', hv', _, hl'⟩ := concL_cons h1
        have hget : l[i]? = some v' := by
          have := congrArg (fun x : List Value => x[0]?) hl'
          simpa using this
        refine Vals.mk' hv' ?_
        simp [execOp, ho, hu, Instr.extract, hget]
      · cases hop
    · cases hop
  · cases hc

theorem s_s2a (hi : In C φ h nx w ts a) {t : TypeId} {x : Operand} (ho : o.op = .sliceToArrayPointer t x) {ao : AOp} {r : Res}
    (hc : compOp? C.P o = some ao) (hop : op0 C ao nm ts h = some r) : OpPost C φ h nx w nm a o r := by
  simp only [compOp?, ho] at hc
  split at hc
  · rename_i x' n e hx hd
    cases hc
    have hv := hi.opd hx
    simp only [op0] at hop
    split at hop
    · rename_i b p len c q hs
      split at hop
      · cases hop
      · rename_i hge
        cases hop
        rw [hs] at hv
        obtain ⟨B, d, y, hB, hu⟩ := conc_slice hv
        refine Vals.mk' (v' := .pointer (some ⟨B, d + p, none⟩)) (by simp only [conc, hB]) ?_
        simp [execOp, ho, hu, Instr.arrayAt, r_underlying hd, hge]
    · cases hop
  · cases hc

/-! parts of a literal -/
theorem evParts_sound (hi : In C φ h nx w ts a) {place : Nat → Option (Nat × Nat)} : ∀ {l : List (Nat × Operand)} {ps : List (Nat × Nat × Opd)}, compParts C.P place l = some ps →
    ∀ (cells : List AV) (cells' : List Value) (out : List AV), concL φ cells = some cells' → fillA cells (evParts ts ps) = some out →
      ∃ out', concL φ out = some out' ∧ Instr.fill place cells'.toArray (l.map fun p => (p.1, a.eval p.2)) = some out'.toArray
  | [], ps, hps, cells, cells', out, hc, hf => by
    simp only [compParts] at hps; cases hps
    simp only [evParts, fillA] at hf; cases hf
    exact ⟨cells', hc, by simp [Instr.fill]⟩
  | (i, x) :: l, ps, hps, cells, cells', out, hc, hf => by
    simp only [compParts] at hps
    split at hps
    · rename_i off n y r hpl hx hr
      cases hps
      simp only [evParts, fillA] at hf
      cases hna : notAny (ev ts y) with
      | false => rw [hna] at hf; cases hf
      | true =>
      rw [hna] at hf
      simp only [cond_true] at hf
      split at hf
      · rename_i hcond
        obtain ⟨hlen, hle⟩ := hcond
        have hv := conc_cells (hi.opd hx) hna
        have hlen' : (a.eval x).cells.size = n := by
          have := concL_length hv
          simp only [Array.length_toList] at this
          rw [this, hlen]
        have hcl := concL_length hc
        -- the new cells
        have hnew : concL φ (cells.take off ++ ((ev ts y).cells ++ cells.drop (off + n))) = some (cells'.take off ++ ((a.eval x).cells.toList ++ cells'.drop (off + n))) :=
          concL_append (concL_take off hc) (concL_append hv (concL_drop (off + n) hc))
        obtain ⟨out', h1, h2⟩ := evParts_sound hi hr _ _ out hnew hf
        refine ⟨out', h1, ?_⟩
        simp only [List.map_cons, Instr.fill, hpl]
        rw [if_neg (by
          rw [hlen']
          simp only [ne_eq, not_true, decide_false, List.size_toArray, hcl, gt_iff_lt, Bool.false_or, decide_eq_true_eq]
          omega)]
        rw [← h2]
        congr 1
        -- the fold
        have key : ∀ (vs : List Value) (j : Nat) (cs : List Value), off + j + vs.length ≤ cs.length →
            (vs.zipIdx j).foldl (fun (cs : Array Value) (p : Value × Nat) => cs.setIfInBounds (off + p.2) p.1) cs.toArray = (cs.take (off + j) ++ (vs ++ cs.drop (off + j + vs.length))).toArray := by
          intro vs
          induction vs with
          | nil => intro j cs _; simp
          | cons v vs ih =>
            intro j cs hle
            simp only [List.length_cons] at hle
            simp only [List.zipIdx_cons, List.foldl_cons, List.setIfInBounds_toArray]
            rw [ih (j + 1) _ (by simp; omega)]
            have hset : cs.set (off + j) v = cs.take (off + j) ++ v :: cs.drop (off + j + 1) := by
              rw [List.set_eq_take_append_cons_drop, if_pos (by omega)]
            have hL : (cs.take (off + j)).length = off + j := by simp; omega
            have h1 : (cs.set (off + j) v).take (off + (j + 1)) = cs.take (off + j) ++ [v] := by
              rw [hset, show off + (j + 1) = (cs.take (off + j)).length + 1 from by omega, List.take_length_add_append]
              simp
            have h2 : (cs.set (off + j) v).drop (off + (j + 1) + vs.length) = cs.drop (off + j + (vs.length + 1)) := by
              rw [hset, show off + (j + 1) + vs.length = (cs.take (off + j)).length + (vs.length + 1) from by omega, List.drop_length_add_append]
              simp [List.drop_drop]
              congr 1; omega
            rw [h1, h2]
            simp
        have hk := key (a.eval x).cells.toList 0 cells' (by simp only [Array.length_toList, hlen']; omega)
        simp only [Nat.add_zero, Array.length_toList, hlen'] at hk
        rw [← hk]
        rw [← Array.foldl_toList, Array.toList_zipIdx]
      · cases hf
    · cases hps

end
end Go.Ax

