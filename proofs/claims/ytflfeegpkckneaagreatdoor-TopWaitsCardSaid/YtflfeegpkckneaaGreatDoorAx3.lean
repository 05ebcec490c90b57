/- A part of the proof of TopWaits: see the last text of the claim. -/
import Derived.Test.YtflfeegpkckneaaGreatDoorAx2
set_option linter.unusedSectionVars false
set_option linter.unusedSimpArgs false
set_option linter.unusedVariables false
/- The abstract executor: operations on values, further. -/
namespace Go.Ax
variable [Opq]
section
variable {C : Ctx} {φ : Inj} {h : Heap} {nx nm : Nat} {w : World} {ts : Tmps} {a : Act} {o : Oper}

theorem s_bin (hi : In C φ h nx w ts a) {op : BinOp} {t t' : TypeId} {x y : Operand} (ho : o.op = .binOp op t x y t') {ao : AOp} {r : Res}
    (hc : compOp? C.P o = some ao) (hop : op0 C ao nm ts h = some r) : OpPost C φ h nx w nm a o r := by
  simp only [compOp?, ho] at hc
  split at hc
  · rename_i x' y' hxx hyy
    cases hc
    have h1 := hi.opd hxx
    have h2 := hi.opd hyy
    simp only [op0] at hop
    obtain ⟨v, hv, rfl⟩ := qO_some hop
    unfold binA at hv
    split at hv
    · rename_i u u' hu hu'
      have e1 : a.eval x = u := by have := toVal_sound (φ := φ) _ _ _ hu; rw [h1] at this; exact Option.some.inj this
      have e2 : a.eval y = u' := by have := toVal_sound (φ := φ) _ _ _ hu'; rw [h2] at this; exact Option.some.inj this
      obtain ⟨v', hr, hcv⟩ := scal_sound (φ := φ) hv w
      refine Vals.mk' hcv ?_
      simp only [execOp, ho]
      rw [e1, e2]
      rw [eqGuard_same (x' := cstOpd (isC x' || isC y')) (y' := cstOpd (isC x' || isC y'))]
      · simp only [Sem.run_bind] at hr ⊢
        rw [hr]; rfl
      · intro hn1 hn2
        rw [isC_of (a := a) hxx (e1.trans hn1), isC_of (a := a) hyy (e2.trans hn2)]
        cases isC x' || isC y' <;> rfl
    · split at hv
      · rename_i v1 hsym
        cases hv
        obtain ⟨⟨v', hcv, hr⟩, hn1, hn2⟩ := symBin_sound hsym h1 h2
        refine Vals.mk' hcv ?_
        have hg := eqGuard_pure (C := C) (op := op) (t := t) (x := x) (y := y) (v := a.eval y) (fun e => hn1 e.1) (fun cs ds e => hn2 cs e.1) w
        simp only [execOp, ho, Sem.run_bind, hg, Result.andThen_ok, hr]
        rfl
      rename_i hno
      have hno' : ¬ (a.eval x = .nilIface ∧ a.eval y = .nilIface) ∧ (∀ cs ds, ¬ (a.eval x = .agg cs ∧ a.eval y = .agg ds)) ∧
          ∃ d r, C.P.underlying t = some d ∧ nilEq (ev ts x') (ev ts y') = some r ∧ nilKind d (ev ts x') = true ∧ (op = .eql ∧ v = .bool r ∨ op = .neq ∧ v = .bool (!r)) := by
        split at hv
        all_goals first
          | cases hv; done
          | skip
        all_goals
          rename_i d r hd hr
          split at hv
          · rename_i hk
            cases hv
            refine ⟨?_, ?_, d, r, hd, hr, hk.1, ?_⟩
            · rintro ⟨e1, e2⟩
              rw [e1] at h1; rw [e2] at h2
              generalize ev ts x' = X at *
              generalize ev ts y' = Y at *
              cases X <;> cases Y <;> simp only [nilEq, Option.some.injEq, reduceCtorEq] at hr <;> simp only [nilKind, Bool.false_eq_true, and_self, false_and, and_false] at hk <;>
                first
                  | (cases conc_nilptr h1; done)
                  | (obtain ⟨_, _, _, _, h⟩ := conc_ptr h1; cases h; done)
                  | (cases conc_nilslice h1; done)
                  | (obtain ⟨_, _, _, _, h⟩ := conc_slice h1; cases h; done)
                  | (cases conc_nilmap h1; done)
                  | (obtain ⟨_, _, _, _, h⟩ := conc_map h1; cases h; done)
                  | (cases conc_nilFunc h1; done)
                  | (obtain ⟨_, _, _, _, _, _, h⟩ := conc_func h1; cases h; done)
                  | (obtain ⟨_, _, h⟩ := conc_iface h1; cases h; done)
                  | (obtain ⟨_, _, h⟩ := conc_iface h2; cases h; done)
            · rintro cs ds ⟨e1, e2⟩
              rw [e1] at h1; rw [e2] at h2
              generalize ev ts x' = X at *
              generalize ev ts y' = Y at *
              cases X <;> cases Y <;> simp only [nilEq, Option.some.injEq, reduceCtorEq] at hr <;>
                first
                  | (cases conc_nilptr h1; done)
                  | (obtain ⟨_, _, _, _, h⟩ := conc_ptr h1; cases h; done)
                  | (cases conc_nilslice h1; done)
                  | (obtain ⟨_, _, _, _, h⟩ := conc_slice h1; cases h; done)
                  | (cases conc_nilmap h1; done)
                  | (obtain ⟨_, _, _, _, h⟩ := conc_map h1; cases h; done)
                  | (cases conc_nilFunc h1; done)
                  | (obtain ⟨_, _, _, _, _, _, h⟩ := conc_func h1; cases h; done)
                  | (obtain ⟨_, _, h⟩ := conc_iface h1; cases h; done)
                  | (cases conc_nilIface h1; done)
            · simp
          · cases hv
      obtain ⟨g1, g2, d, r, hd, hr, hk, hres⟩ := hno'
      have heq := nil_eq hd hr hk h1 h2 w
      have hb := r_eql (P := C.P) (t := t) (u := a.eval x) (v := a.eval y) (r := r) (w := w) ?_ ?_ ?_ ?_ heq
      · rcases hres with ⟨rfl, rfl⟩ | ⟨rfl, rfl⟩
        · exact Vals.mk' rfl (by simp only [execOp, ho, Sem.run_bind, eqGuard_pure g1 g2, Result.andThen_ok, hb.1]; rfl)
        · exact Vals.mk' rfl (by simp only [execOp, ho, Sem.run_bind, eqGuard_pure g1 g2, Result.andThen_ok, hb.2]; rfl)
      all_goals
        intros
        intro e
        rw [e] at h1
        generalize ev ts x' = X at *
        cases X <;> simp only [nilKind, Bool.false_eq_true] at hk <;> (try (cases d <;> simp only [Bool.false_eq_true] at hk)) <;>
          first
            | (cases conc_nilptr h1; done)
            | (obtain ⟨_, _, _, _, h⟩ := conc_ptr h1; cases h; done)
            | (cases conc_nilslice h1; done)
            | (obtain ⟨_, _, _, _, h⟩ := conc_slice h1; cases h; done)
            | (cases conc_nilmap h1; done)
            | (obtain ⟨_, _, _, _, h⟩ := conc_map h1; cases h; done)
            | (cases conc_nilFunc h1; done)
            | (obtain ⟨_, _, _, _, _, _, h⟩ := conc_func h1; cases h; done)
            | (obtain ⟨_, _, h⟩ := conc_iface h1; cases h; done)
            | (cases conc_nilIface h1; done)
  · cases hc

theorem s_un (hi : In C φ h nx w ts a) {op : UnOp} {t : TypeId} {x : Operand} (ho : o.op = .unOp op t x) {ao : AOp} {r : Res}
    (hc : compOp? C.P o = some ao) (hop : op0 C ao nm ts h = some r) : OpPost C φ h nx w nm a o r := by
  simp only [compOp?, ho] at hc
  split at hc
  · rename_i x' hxx
    cases hc
    have h1 := hi.opd hxx
    simp only [op0] at hop
    obtain ⟨v, hv, rfl⟩ := qO_some hop
    unfold unA at hv
    split at hv
    · rename_i u hu
      have e1 : a.eval x = u := by have := toVal_sound (φ := φ) _ _ _ hu; rw [h1] at this; exact Option.some.inj this
      obtain ⟨v', hr, hcv⟩ := scal_sound (φ := φ) hv w
      exact Vals.mk' hcv (by simp [execOp, ho, e1, hr])
    · obtain ⟨v', hcv, hr⟩ := symUn_sound hv h1
      exact Vals.mk' hcv (by simp [execOp, ho, hr])
  · cases hc

end
end Go.Ax

/- The abstract executor: conversions, parts, indexes, slices. -/
namespace Go.Ax
variable [Opq]
section
variable {C : Ctx} {φ : Inj} {h : Heap} {nx nm : Nat} {w : World} {ts : Tmps} {a : Act} {o : Oper}

/-- a row of the abstract heap, in the world -/
theorem Rep.cells {P : Program} (hr : Rep P φ h nx w) {b : Nat} {vs : List AV} {el : TypeId} {op : Option Nat} (hb : h.get b = some (.cells vs el op)) :
    ∃ B d x cs el' fr l, φ b = some (B, d, x) ∧ w.heap[B]? = some (.cells cs el' fr) ∧ concL φ vs = some l ∧ (∀ i v, l[i]? = some v → cs[d + i]? = some v) ∧
      (∀ s, op = some s → d + vs.length + x * s ≤ cs.size) ∧ (∀ i, i < cs.size → ¬ (fr.1 ≤ i ∧ i < fr.2)) := by
  obtain ⟨B, d, x, c, hB, hc, ho⟩ := hr.obj b _ hb
  cases c <;> simp only [objRep] at ho
  rename_i cs el' fr
  obtain ⟨⟨l, hl, hcs⟩, h2, h3⟩ := ho
  exact ⟨B, d, x, cs, el', fr, l, hB, hc, hl, hcs, h2, h3⟩

theorem Rep.mapObj {P : Program} (hr : Rep P φ h nx w) {b : Nat} {es : List (AV × AV × Nat)} {ck : Nat} (hb : h.get b = some (.map es ck)) :
    ∃ B d x ms, φ b = some (B, d, x) ∧ w.heap[B]? = some (.map ms ck) ∧ concE φ es = some ms.toList := by
  obtain ⟨B, d, x, c, hB, hc, ho⟩ := hr.obj b _ hb
  cases c <;> simp only [objRep] at ho
  rename_i ms ck'
  obtain ⟨rfl, he⟩ := ho
  exact ⟨B, d, x, ms, hB, hc, he⟩

/-- loading: the cells from an address on -/
theorem loadA_sound {P : Program} (hr : Rep P φ h nx w) {g : Bool} {n : Nat} {p : AV} {v : AV} {u : Value} (hv : loadA h g n p = some v) (hp : conc φ p = some u) :
    ∃ B o cs el fr v', u = .pointer (some ⟨B, o, none⟩) ∧ w.heap[B]? = some (.cells cs el fr) ∧ conc φ v = some v' ∧
      (g = true → ∃ l : List Value, v' = .agg l.toArray ∧ l.length = n ∧ ∀ i v, l[i]? = some v → cs[o + i]? = some v) ∧ (g = false → cs[o]? = some v') := by
  unfold loadA at hv
  split at hv
  · rename_i b o
    split at hv
    · rename_i vs el op hb
      obtain ⟨B, d, x, hB, rfl⟩ := conc_ptr hp
      obtain ⟨B', d', x', cs, el', fr, l, hB', hc, hl, hcs, _, _⟩ := hr.cells hb
      rw [hB] at hB'; cases hB'
      refine ⟨B, d + o, cs, el', fr, ?_⟩
      cases g with
      | true =>
        simp only [part] at hv
        split at hv
        · rename_i l1 ht
          cases hv
          obtain ⟨rfl, hle⟩ := takeN_eq _ _ _ ht
          rw [dropN_eq] at hle ⊢
          have h1 : concL φ ((vs.drop o).take n) = some ((l.drop o).take n) := concL_take n (concL_drop o hl)
          refine ⟨.agg ((l.drop o).take n).toArray, rfl, hc, by simp only [conc, h1], fun _ => ⟨_, rfl, ?_, ?_⟩, fun e => by cases e⟩
          · rw [concL_length h1]; simp at hle ⊢; omega
          · intro i v hi
            rw [List.getElem?_take] at hi
            split at hi
            · rw [List.getElem?_drop] at hi
              rw [show d + o + i = d + (o + i) from by omega]
              exact hcs _ _ hi
            · cases hi
        · cases hv
      | false =>
        simp only [part] at hv
        split at hv
        · rename_i y ys hd
          cases hv
          rw [dropN_eq] at hd
          have h1 := concL_drop o hl
          rw [hd] at h1
          obtain ⟨v', l', hv', _, hl'⟩ := concL_cons h1
          refine ⟨v', rfl, hc, hv', (fun e => by cases e), fun _ => hcs o v' ?_⟩
          have := congrArg (fun x : List Value => x[0]?) hl'
          simpa using this
        · cases hv
    · cases hv
  · cases hv

theorem r_loadVar {P : Program} {t : TypeId} {g : Bool} {n : Nat} (hg : aggA P t = some g) (hn : sizeA P t = some n) {B o : Nat} {cs : Array Value} {el : TypeId} {fr : Nat × Nat} {v' : Value}
    (hc : w.heap[B]? = some (.cells cs el fr)) (h1 : g = true → ∃ l : List Value, v' = .agg l.toArray ∧ l.length = n ∧ ∀ i v, l[i]? = some v → cs[o + i]? = some v)
    (h2 : g = false → cs[o]? = some v') : (loadVar t ⟨B, o, none⟩).run P w = .ok v' w := by
  unfold loadVar
  simp only [Sem.run_bind, r_isAgg hg, Result.andThen_ok]
  cases g with
  | true =>
    obtain ⟨l, rfl, hl, hcs⟩ := h1 rfl
    simp only [if_true, Sem.run_bind, r_sizeOf hn, Result.andThen_ok, r_loadCells hc hcs hl, Sem.run_pure]
  | false =>
    simp only [Bool.false_eq_true, if_false, run_load, cell_of hc, h2 rfl]

theorem s_load (hi : In C φ h nx w ts a) {t : TypeId} {x : Operand} (ho : o.op = .load t x) {ao : AOp} {r : Res}
    (hc : compOp? C.P o = some ao) (hop : op0 C ao nm ts h = some r) : OpPost C φ h nx w nm a o r := by
  simp only [compOp?, ho] at hc
  split at hc
  · rename_i x' g n hxx hg hn
    cases hc
    simp only [op0] at hop
    obtain ⟨v, hv, rfl⟩ := qO_some hop
    obtain ⟨B, p, cs, el, fr, v', hu, hcc, hcv, h1, h2⟩ := loadA_sound hi.rep hv (hi.opd hxx)
    refine Vals.mk' hcv ?_
    have := r_loadVar (w := w) hg hn hcc h1 h2
    simp [execOp, ho, Instr.loadAt, Instr.sureAddr, hu, this]
  · cases hc

theorem r_bytesFold {P : Program} (f : Value → ByteArray → Sem (ForInStep ByteArray)) (hf : ∀ n s, f (.int .u8 n) s = pure (.yield (s.push (UInt8.ofNat n.toNat)))) :
    ∀ (vs : List AV) (l : List Value) (str : List UInt8) (acc : ByteArray), concL φ vs = some l → bytesStr vs = some str →
      (forIn l acc f).run P w = .ok ⟨acc.data ++ str.toArray⟩ w := by
  intro vs
  induction vs with
  | nil => intro l str acc hl hs; simp only [concL] at hl; cases hl; simp only [bytesStr] at hs; cases hs; simp
  | cons v vs ih =>
    intro l str acc hl hs
    obtain ⟨v', l', hv', hl', rfl⟩ := concL_cons hl
    cases v with
    | int k n =>
      cases k with
      | u8 =>
        simp only [bytesStr] at hs
        split at hs
        · rename_i r hr
          cases hs
          cases conc_int hv'
          simp only [List.forIn_cons, Sem.run_bind, hf, Sem.run_pure, Result.andThen_ok]
          rw [ih l' r _ hl' hr]
          simp [ByteArray.push]
        · cases hs
      | _ => simp [bytesStr] at hs
    | _ => simp [bytesStr] at hs

theorem r_bytesFold2 {P : Program} (f : Value → ByteArray → Sem (ForInStep ByteArray)) (hf : ∀ n s, f (.int .u8 n) s = pure (.yield (s.push (UInt8.ofNat n.toNat)))) :
    ∀ (l : List Value) (str : List UInt8) (acc : ByteArray), bytesV l = some str → (forIn l acc f).run P w = .ok ⟨acc.data ++ str.toArray⟩ w := by
  intro l
  induction l with
  | nil => intro str acc hs; simp only [bytesV] at hs; cases hs; simp
  | cons v l ih =>
    intro str acc hs
    simp only [bytesV] at hs
    split at hs
    · rename_i _ n r hr
      split at hs
      · cases hs
        simp only [List.forIn_cons, Sem.run_bind, hf, Sem.run_pure, Result.andThen_ok]
        rw [ih r _ hr]
        simp [ByteArray.push]
      · cases hs
    · cases hs

theorem okBytes_sound {φ : Inj} : ∀ {vs : List AV} {l : List Value}, okBytes vs = true → concL φ vs = some l → ∃ s, bytesV l = some s
  | [], l, _, hl => by simp only [concL] at hl; cases hl; exact ⟨[], rfl⟩
  | v :: vs, l, h, hl => by
    simp only [okBytes, Bool.and_eq_true] at h
    obtain ⟨v', l', hv', hl', rfl⟩ := concL_cons hl
    obtain ⟨s, hs⟩ := okBytes_sound h.2 hl'
    have hv : ∃ n, v' = .int .u8 n ∧ 0 ≤ n ∧ n < 256 := by
      have h1 := h.1
      unfold okByte at h1
      split at h1
      · cases conc_int hv'; exact ⟨_, rfl, by simpa using h1⟩
      · obtain ⟨n, rfl, hn⟩ := conc_sym_knd hv'
        rw [wrap_range] at hn
        simp only [IntKind.min, IntKind.max, IntKind.signed, IntKind.bits, Bool.false_eq_true, if_false] at hn
        exact ⟨n, rfl, by omega, by omega⟩
      · cases h1
    obtain ⟨n, rfl, hn⟩ := hv
    exact ⟨UInt8.ofNat n.toNat :: s, by simp only [bytesV, hs, if_pos hn]⟩

/-- a string of a row's cells -/
theorem mkStr_sound {φ : Inj} {P : Program} {vs : List AV} {l : List Value} {v : AV} (h : mkStr vs = some v) (hl : concL φ vs = some l) :
    ∃ s : List UInt8, conc φ v = some (.string ⟨s.toArray⟩) ∧ ∀ (f : Value → ByteArray → Sem (ForInStep ByteArray)), (∀ n s, f (.int .u8 n) s = pure (.yield (s.push (UInt8.ofNat n.toNat)))) →
      ∀ acc, (forIn l acc f).run P w = .ok ⟨acc.data ++ s.toArray⟩ w := by
  unfold mkStr at h
  split at h
  · rename_i s hs
    cases h
    exact ⟨s, rfl, fun f hf acc => r_bytesFold f hf vs l s acc hl hs⟩
  · cases hb : okBytes vs with
    | false => rw [hb] at h; cases h
    | true =>
      rw [hb] at h; cases h
      obtain ⟨s, hs⟩ := okBytes_sound hb hl
      exact ⟨s, by simp only [conc, hl, hs], fun f hf acc => r_bytesFold2 f hf l s acc hs⟩

theorem s_convert (hi : In C φ h nx w ts a) {s d : TypeId} {x : Operand} (ho : o.op = .convert s d x) {ao : AOp} {r : Res}
    (hc : compOp? C.P o = some ao) (hop : op0 C ao nm ts h = some r) (hb : ∀ e y, ao ≠ .bytesOf e y) : OpPost C φ h nx w nm a o r := by
  simp only [compOp?, ho] at hc
  split at hc
  · rename_i x' k0 k hxx hs hd
    cases hc
    have h1 := hi.opd hxx
    simp only [op0] at hop
    split at hop
    · rename_i k1 n hv; cases hop
      rw [hv] at h1
      refine Vals.mk' rfl ?_
      simp [execOp, ho, conc_int h1, convert, r_underlying hs, r_underlying hd, Conv.intToInt]
    · rename_i k1 f args hv; cases hop
      rw [hv] at h1
      obtain ⟨n, e, hn⟩ := conc_sym_knd h1
      rw [e] at h1
      refine Vals.mk' (sym_conv h1) ?_
      simp [execOp, ho, e, convert, r_underlying hs, r_underlying hd, Conv.intToInt]
    · cases hop
  · rename_i x' hxx hs hd
    cases hc
    have h1 := hi.opd hxx
    simp only [op0] at hop
    split at hop
    · rename_i n hv; cases hop
      rw [hv] at h1
      refine Vals.mk' rfl ?_
      simp [execOp, ho, conc_str h1, convert, r_underlying hs, r_underlying hd]
    · rename_i l hv; cases hop
      rw [hv] at h1
      obtain ⟨_, s, _, _, e⟩ := conc_sstr h1
      refine Vals.mk' h1 ?_
      simp [execOp, ho, e, convert, r_underlying hs, r_underlying hd]
    · cases hop
  · split at hc
    · cases hc; exact absurd rfl (hb _ _)
    · cases hc
  · rename_i x' e hxx hs hd
    split at hc
    · rename_i he
      cases hc
      have h1 := hi.opd hxx
      simp only [op0] at hop
      split at hop
      · rename_i hv; cases hop
        rw [hv] at h1
        refine Vals.mk' rfl ?_
        simp [execOp, ho, conc_nilslice h1, convert, r_underlying hs, r_underlying hd, r_underlying he, Conv.bytesToString]
        rfl
      · rename_i b p len cap q hv
        split at hop
        · rename_i vs hl
          obtain ⟨av, hstr, rfl⟩ := qO_some hop
          rw [hv] at h1
          obtain ⟨B, d', y, hB, hu⟩ := conc_slice h1
          have hp : conc φ (.ptr b p) = some (.pointer (some ⟨B, d' + p, none⟩)) := by simp only [conc, hB]
          obtain ⟨B', p', cs, el, fr, v', hu', hcc, hcv, g1, _⟩ := loadA_sound hi.rep hl hp
          cases hu'
          obtain ⟨l, rfl, hlen, hcs⟩ := g1 rfl
          obtain ⟨l', hl', he'⟩ := conc_agg hcv
          cases he'
          obtain ⟨s, hs1, hs2⟩ := mkStr_sound (P := C.P) (w := w) hstr hl'
          refine Vals.mk' hs1 ?_
          have hload := r_loadCells (P := C.P) hcc hcs hlen
          simp only [execOp, ho, hu, convert, Sem.run_bind, r_underlying hs, r_underlying hd, r_underlying he, Result.andThen_ok, Conv.bytesToString, hload, List.forIn_toArray]
          rw [hs2 _ (fun _ _ => rfl)]
          simp [ByteArray.empty, ByteArray.emptyWithCapacity]
          rfl
        · cases hop
      · cases hop
    · cases hc
  · cases hc

end
end Go.Ax

/- The abstract executor: interfaces, parts, slices, indexes, maps. -/
namespace Go.Ax
variable [Opq]
section
variable {C : Ctx} {φ : Inj} {h : Heap} {nx nm : Nat} {w : World} {ts : Tmps} {a : Act} {o : Oper}

theorem s_iface (hi : In C φ h nx w ts a) {t : TypeId} {x : Operand} (ho : o.op = .makeInterface t x) {ao : AOp} {r : Res}
    (hc : compOp? C.P o = some ao) (hop : op0 C ao nm ts h = some r) : OpPost C φ h nx w nm a o r := by
  simp only [compOp?, ho] at hc
  split at hc
  · cases hc
  · rename_i x' d hno hxx hd
    cases hc
    simp only [op0] at hop; cases hop
    refine Vals.mk' (v' := .iface t (a.eval x)) (by simp only [conc, hi.opd hxx]) ?_
    simp only [execOp, ho, Instr.makeInterface, Sem.run_bind, r_underlying hd, Result.andThen_ok]
    cases d <;> first
      | rfl
      | (exact absurd rfl (hno _))
  · cases hc

theorem s_func (hi : In C φ h nx w ts a) {fn : Fn} {x y : Array Operand} (ho : o.op = .makeFunc fn x y) {ao : AOp} {r : Res}
    (hc : compOp? C.P o = some ao) (hop : op0 C ao nm ts h = some r) : OpPost C φ h nx w nm a o r := by
  have hc' : ∃ x' y', opds C.P x.toList = some x' ∧ opds C.P y.toList = some y' ∧ ao = .func fn x' y' ∧ ∀ l, fn ≠ .yield l := by
    cases fn with
    | yield l => simp [compOp?, ho] at hc
    | _ =>
      simp only [compOp?, ho] at hc
      split at hc
      · rename_i x' y' hxx hyy
        cases hc
        exact ⟨x', y', hxx, hyy, rfl, by simp⟩
      · cases hc
  obtain ⟨x', y', hxx, hyy, rfl, hfn⟩ := hc'
  simp only [op0] at hop; cases hop
  have h1 := hi.opds hxx
  have h2 := hi.opds hyy
  refine Vals.mk' (v' := .func fn (x.map a.eval) (y.map a.eval)) ?_ ?_
  · have hf : concFn φ fn = some fn := by
      cases fn with
      | yield l => exact absurd rfl (hfn l)
      | _ => rfl
    simp only [conc, hf, h1, h2]
    congr 1
    simp [← Array.toList_map]
  · simp [execOp, ho, Instr.makeFunc]

/-! bounds -/
def OptRel (φ : Inj) (x : Option AV) (u : Option Value) : Prop :=
  (x = none ∧ u = none) ∨ ∃ x' u', x = some x' ∧ u = some u' ∧ conc φ x' = some u'

theorem In.opdO (hi : In C φ h nx w ts a) {x : Option Operand} {y : Option Opd} (hx : opdO C.P x = some y) : OptRel φ (evO ts y) (x.map a.eval) := by
  rcases opdO_sound hi.rep.glob hi.ts hx with ⟨rfl, rfl⟩ | ⟨x', y', rfl, rfl, hc⟩
  · exact .inl ⟨rfl, rfl⟩
  · exact .inr ⟨_, _, rfl, rfl, hc⟩

theorem r_bound {P : Program} {v : AV} {y n : Nat} {u : Value} (hb : bound v y = some n) (hc : conc φ v = some u) {y' : Nat} (hy : y ≤ y') (code : BoundsCode) :
    (Instr.sliceBound u y' code).run P w = .ok n w ∧ n ≤ y := by
  unfold bound at hb
  split at hb
  · rename_i k i
    split at hb
    · rename_i hi
      cases hb
      cases conc_int hc
      refine ⟨?_, by omega⟩
      have : 0 ≤ i ∧ i ≤ (y' : Int) := by omega
      simp [Instr.sliceBound, asIntOf, this]
    · cases hb
  · cases hb

/-- the capacity that is told, or the whole one -/
def capOf (mx : Option AV) (cap m : Nat) : Nat := match mx with | none => cap | some _ => m

theorem r_bounds3 {P : Program} {len cap cap' l h' m : Nat} {lo hi mx : Option AV} {low high max : Option Value} {s : Bool} (hb : bounds3 len cap lo hi mx = some (l, h', m))
    (hle : cap ≤ cap') (h1 : OptRel φ lo low) (h2 : OptRel φ hi high) (h3 : OptRel φ mx max) :
    (Instr.sliceBounds s len cap' low high max).run P w = .ok (l, h', capOf mx cap' m) w ∧ (mx = none → m = cap) ∧ l ≤ h' ∧ (hi.isSome = true → h' ≤ m) ∧ (hi = none → h' = len) ∧ m ≤ cap := by
  unfold bounds3 at hb
  unfold Instr.sliceBounds
  rcases h3 with ⟨rfl, rfl⟩ | ⟨xm, um, rfl, rfl, hm⟩
  · simp only [boundO] at hb
    rcases h2 with ⟨rfl, rfl⟩ | ⟨xh, uh, rfl, rfl, hh⟩
    · simp only at hb
      rcases h1 with ⟨rfl, rfl⟩ | ⟨xl, ul, rfl, rfl, hl⟩
      · simp only [boundO] at hb
        cases hb
        simp [capOf]
      · simp only [boundO] at hb
        split at hb
        · cases hb
        · rename_i l' hl'
          cases hb
          have := r_bound (P := P) (w := w) hl' hl (Nat.le_refl len) .sliceB
          simp [capOf, this.1, this.2]
    · simp only at hb
      split at hb
      · cases hb
      · rename_i h'' hh'
        have hbh := fun (code : BoundsCode) => r_bound (P := P) (w := w) hh' hh hle code
        rcases h1 with ⟨rfl, rfl⟩ | ⟨xl, ul, rfl, rfl, hl⟩
        · simp only [boundO] at hb
          cases hb
          simp [capOf, (hbh _).1, (hbh .sliceB).2]
        · simp only [boundO] at hb
          split at hb
          · cases hb
          · rename_i l' hl'
            cases hb
            have := r_bound (P := P) (w := w) hl' hl (Nat.le_refl _) .sliceB
            simp [capOf, (hbh _).1, this.1, this.2, (hbh .sliceB).2]
  · simp only [boundO] at hb
    split at hb
    · cases hb
    · rename_i m' hm'
      have hbm := fun (code : BoundsCode) => r_bound (P := P) (w := w) hm' hm hle code
      rcases h2 with ⟨rfl, rfl⟩ | ⟨xh, uh, rfl, rfl, hh⟩
      · simp at hb
      · simp only at hb
        split at hb
        · cases hb
        · rename_i h'' hh'
          have hbh := fun (code : BoundsCode) => r_bound (P := P) (w := w) hh' hh (Nat.le_refl m') code
          rcases h1 with ⟨rfl, rfl⟩ | ⟨xl, ul, rfl, rfl, hl⟩
          · simp only [boundO] at hb
            cases hb
            simp [capOf, (hbm _).1, (hbh _).1, (hbh .sliceB).2, (hbm .sliceB).2]
          · simp only [boundO] at hb
            split at hb
            · cases hb
            · rename_i l' hl'
              cases hb
              have := fun (code : BoundsCode) => r_bound (P := P) (w := w) hl' hl (Nat.le_refl _) code
              simp [capOf, (hbm _).1, (hbh _).1, (this _).1, (this .sliceB).2, (hbh .sliceB).2, (hbm .sliceB).2]

theorem extract_data (s : List UInt8) (l h' : Nat) : ((⟨s.toArray⟩ : ByteArray).extract l h') = ⟨((s.drop l).take (h' - l)).toArray⟩ := by
  apply ByteArray.ext
  simp [ByteArray.data_extract, List.extract_eq_take_drop]

theorem s_sliceS (hi : In C φ h nx w ts a) {t : TypeId} {x : Operand} {lo hi' : Option Operand} (ho : o.op = .slice t x lo hi' none) (hd : C.P.underlying t = some .string)
    {x' : Opd} {l1 h1 : Option Opd} (hx : opd C.P x = some x') (hl : opdO C.P lo = some l1) (hh : opdO C.P hi' = some h1) {r : Res}
    (hop : op0 C (.sliceS x' l1 h1) nm ts h = some r) : OpPost C φ h nx w nm a o r := by
  have h1 := hi.opd hx
  simp only [op0] at hop
  split at hop
  · rename_i s hs
    split at hop
    · rename_i l hh' m hb
      split at hop
      · rename_i r' hr
        cases hop
        obtain ⟨rfl, hle⟩ := takeN_eq _ _ _ hr
        rw [hs] at h1
        refine Vals.mk' rfl ?_
        have hbb := (r_bounds3 (P := C.P) (w := w) (s := false) hb (Nat.le_refl _) (hi.opdO hl) (hi.opdO hh) (.inl ⟨rfl, rfl⟩)).1
        have hsz : (⟨s.toArray⟩ : ByteArray).size = s.length := by simp [ByteArray.size]
        simp only [execOp, ho, Instr.sliceAt, Sem.run_bind, r_underlying hd, Result.andThen_ok, Option.map_none, conc_str h1, Instr.slice, Option.isSome_none, Bool.false_eq_true, if_false]
        rw [hsz]
        simp only [Sem.run_pure, Result.andThen_ok, hbb]
        rw [extract_data, dropN_eq]
      · cases hop
    · cases hop
  · rename_i s hs
    split at hop
    · rename_i l hh' m hb
      split at hop
      · rename_i r' hr
        cases hop
        obtain ⟨rfl, hle⟩ := takeN_eq _ _ _ hr
        rw [hs] at h1
        obtain ⟨sl, sb, q1, q2, q3⟩ := conc_sstr h1
        have hln : s.length = sb.length := by rw [bytesV_len q2, concL_length q1]
        have hv : conc φ (.sstr (List.take (hh' - l) (dropN l s))) = some (.string ⟨((sb.drop l).take (hh' - l)).toArray⟩) := by
          rw [dropN_eq]
          simp only [conc, concL_take _ (concL_drop _ q1), bytesV_take _ (bytesV_drop _ q2)]
        refine Vals.mk' hv ?_
        have hbb := (r_bounds3 (P := C.P) (w := w) (s := false) hb (Nat.le_refl _) (hi.opdO hl) (hi.opdO hh) (.inl ⟨rfl, rfl⟩)).1
        have hsz : (⟨sb.toArray⟩ : ByteArray).size = s.length := by rw [hln]; simp [ByteArray.size]
        simp only [execOp, ho, Instr.sliceAt, Sem.run_bind, r_underlying hd, Result.andThen_ok, Option.map_none, q3, Instr.slice, Option.isSome_none, Bool.false_eq_true, if_false]
        rw [hsz]
        simp only [Sem.run_pure, Result.andThen_ok, hbb]
        rw [extract_data]
      · cases hop
    · cases hop
  · cases hop

end
end Go.Ax

/- The abstract executor: how the relation to a world is kept. -/
namespace Go.Ax
variable [Opq]

theorem concE_mono {φ ψ : Inj} (hle : φ.le ψ) : ∀ {l : List (AV × AV × Nat)} {r : List MapEntry}, concE φ l = some r → concE ψ l = some r
  | [], r, h => h
  | (k, v, n) :: l, r, h => by
    simp only [concE] at h ⊢
    cases hk : conc φ k with
    | none => rw [hk] at h; simp at h
    | some k' =>
      cases hv : conc φ v with
      | none => rw [hk, hv] at h; simp at h
      | some v' =>
        cases hl : concE φ l with
        | none => rw [hk, hv, hl] at h; simp at h
        | some l' => rw [hk, hv, hl] at h; rw [conc_mono hle _ _ hk, conc_mono hle _ _ hv, concE_mono hle hl]; exact h

theorem concM_mono {φ ψ : Inj} (hle : φ.le ψ) {m : Option Nat} {r : Option Nat} (h : concM φ m = some r) : concM ψ m = some r := by
  cases m with
  | none => exact h
  | some m =>
    simp only [concM] at h ⊢
    cases hb : φ m with
    | none => rw [hb] at h; simp at h
    | some t => rw [hb] at h; rw [hle _ _ hb]; exact h

theorem TsRel.mono {φ ψ : Inj} (hle : φ.le ψ) {ts : Tmps} {tmps : Array Value} (h : TsRel φ ts tmps) : TsRel ψ ts tmps :=
  fun t => conc_mono hle _ _ (h t)

theorem objRep_mono {φ ψ : Inj} (hle : φ.le ψ) {d x : Nat} {o : AObj} {c : Obj} (h : objRep φ d x o c) : objRep ψ d x o c := by
  cases o <;> cases c <;> simp only [objRep] at h ⊢
  · obtain ⟨⟨l, hl, hcs⟩, h2, h3⟩ := h
    exact ⟨⟨l, concL_mono hle _ _ hl, hcs⟩, h2, h3⟩
  · exact ⟨h.1, concE_mono hle h.2⟩
  · exact ⟨h.1, concM_mono hle h.2.1, h.2.2⟩
  · exact h
  · exact ⟨h.1, h.2.1, h.2.2.1, h.2.2.2.1.mono hle, h.2.2.2.2⟩
  · exact h

def Inj.set (φ : Inj) (nm : Nat) (t : Nat × Nat × Nat) : Inj := fun b => if b = nm then some t else φ b

@[simp] theorem Inj.set_same (φ : Inj) (nm : Nat) (t : Nat × Nat × Nat) : φ.set nm t nm = some t := by simp [Inj.set]
theorem Inj.set_ne (φ : Inj) {nm b : Nat} (t : Nat × Nat × Nat) (h : b ≠ nm) : φ.set nm t b = φ b := by simp [Inj.set, h]
theorem Inj.le_set {φ : Inj} {nm : Nat} (t : Nat × Nat × Nat) (h : φ nm = none) : φ.le (φ.set nm t) := by
  intro b x hb
  by_cases hbn : b = nm
  · subst hbn; rw [h] at hb; cases hb
  · rw [Inj.set_ne _ _ hbn]; exact hb

theorem Inj.blk_of {φ : Inj} {b B d x : Nat} (h : φ b = some (B, d, x)) : φ.blk b = some B := by simp [Inj.blk, h]
theorem Inj.blk_some {φ : Inj} {b B : Nat} (h : φ.blk b = some B) : ∃ d x, φ b = some (B, d, x) := by
  unfold Inj.blk at h
  cases hb : φ b with
  | none => rw [hb] at h; simp at h
  | some t => obtain ⟨B', d, x⟩ := t; rw [hb] at h; simp at h; subst h; exact ⟨d, x, rfl⟩

theorem Inj.owns_set_ne {φ : Inj} {nm b i : Nat} {o : AObj} {t : Nat × Nat × Nat} (h : b ≠ nm) : (φ.set nm t).owns o b i = φ.owns o b i := by
  unfold Inj.owns; rw [Inj.set_ne _ _ h]

theorem Inj.owns_congr {φ ψ : Inj} {b i : Nat} {o : AObj} (h : ψ b = φ b) : ψ.owns o b i = φ.owns o b i := by
  unfold Inj.owns; rw [h]

theorem Inj.owns_blk {φ : Inj} {b i : Nat} {o : AObj} (h : isOpq o = false) : φ.owns o b i ↔ φ.blk b = some i := by
  unfold Inj.owns Inj.blk
  constructor
  · rintro ⟨B, d, x, hB, rfl | ⟨ho, _⟩⟩
    · simp [hB]
    · rw [h] at ho; cases ho
  · intro hb
    cases hφ : φ b with
    | none => rw [hφ] at hb; cases hb
    | some t =>
      obtain ⟨B, d, x⟩ := t
      rw [hφ] at hb
      simp at hb
      exact ⟨B, d, x, rfl, .inl hb⟩

theorem Inj.owns_self {φ : Inj} {b B d x : Nat} {o : AObj} (h : φ b = some (B, d, x)) : φ.owns o b B := ⟨B, d, x, h, .inl rfl⟩

section
variable {P : Program} {φ : Inj} {h : Heap} {nx nm : Nat} {w : World}

theorem Rep.owns_lt (r : Rep P φ h nx w) {b i : Nat} {o : AObj} (hb : h.get b = some o) (ho : φ.owns o b i) : i < w.heap.size := by
  obtain ⟨B, d, x, hB, rfl | ⟨hq, hf⟩⟩ := ho
  · obtain ⟨B', d', x', c, hB', hc, _⟩ := r.obj b o hb
    rw [hB] at hB'; cases hB'
    exact (Array.getElem?_eq_some_iff.1 hc).1
  · cases o with
    | opq tag data => exact (r.opq b tag data B d x hb hB).2 i hf
    | _ => cases hq

theorem Rep.get_nm (r : Rep P φ h nx w) (hn : φ nm = none) : h.get nm = none := by
  cases hg : h.get nm with
  | none => rfl
  | some o => obtain ⟨B, d, x, c, hB, _⟩ := r.obj nm o hg; rw [hn] at hB; cases hB

theorem Rep.set (r : Rep P φ h nx w) (hn : φ nm = none) (hlt : nm < nx) (t : Nat × Nat × Nat) : Rep P (φ.set nm t) h nx w where
  obj := by
    intro b o hb
    obtain ⟨B, d, x, c, hB, hc, ho⟩ := r.obj b o hb
    exact ⟨B, d, x, c, Inj.le_set t hn _ _ hB, hc, objRep_mono (Inj.le_set t hn) ho⟩
  opq := by
    intro b tag data B d x hb hB
    rw [Inj.set_ne _ _ (fun e => by subst e; rw [r.get_nm hn] at hb; cases hb)] at hB
    exact r.opq b tag data B d x hb hB
  sep := by
    intro b b' o o' i hne ho hb hb' h1 h2
    have n1 : b ≠ nm := fun e => by subst e; rw [r.get_nm hn] at hb; cases hb
    have n2 : b' ≠ nm := fun e => by subst e; rw [r.get_nm hn] at hb'; cases hb'
    rw [Inj.owns_set_ne n1] at h1
    rw [Inj.owns_set_ne n2] at h2
    exact r.sep b b' o o' i hne ho hb hb' h1 h2
  inj := by
    intro b b' o o' B d x d' x' hne hb hb' h1 h2
    have n1 : b ≠ nm := fun e => by subst e; rw [r.get_nm hn] at hb; cases hb
    have n2 : b' ≠ nm := fun e => by subst e; rw [r.get_nm hn] at hb'; cases hb'
    rw [Inj.set_ne _ _ n1] at h1; rw [Inj.set_ne _ _ n2] at h2
    exact r.inj b b' o o' B d x d' x' hne hb hb' h1 h2
  fresh := by
    intro b hb
    rw [Inj.set_ne _ _ (by omega)]; exact r.fresh b hb
  glob := by
    intro g hg
    rw [Inj.set_ne _ _ (fun e => by subst e; rw [r.glob _ hg] at hn; cases hn)]; exact r.glob g hg

theorem Rep.more (r : Rep P φ h nx w) {nx' : Nat} (hle : nx ≤ nx') : Rep P φ h nx' w :=
  { r with fresh := fun b hb => r.fresh b (by omega) }

theorem Rep.less (r : Rep P φ h nx w) {h' : Heap} (hsub : ∀ b o, h'.get b = some o → h.get b = some o) : Rep P φ h' nx w where
  obj := fun b o hb => r.obj b o (hsub b o hb)
  inj := fun b b' o o' B d x d' x' hne hb hb' => r.inj b b' o o' B d x d' x' hne (hsub _ _ hb) (hsub _ _ hb')
  fresh := r.fresh
  glob := r.glob
  opq := fun b tag data B d x hb => r.opq b tag data B d x (hsub _ _ hb)
  sep := fun b b' o o' i hne ho hb hb' => r.sep b b' o o' i hne ho (hsub _ _ hb) (hsub _ _ hb')

/-- a block for a name -/
theorem Rep.add (r : Rep P φ h nx w) {B d x : Nat} {ob : AObj} {c : Obj} (hn : φ nm = some (B, d, x)) (hc : w.heap[B]? = some c) (ho : objRep φ d x ob c)
    (hap : ∀ b o d' x', b ≠ nm → h.get b = some o → φ b = some (B, d', x') → apart ob o d x d' x') (hsep : ∀ b o, b ≠ nm → h.get b = some o → isOpq o = true → ¬ φ.owns o b B) (hob : isOpq ob = false := by rfl) : Rep P φ (h.put nm (some ob)) nx w where
  opq := by
    intro b tag data B' d' x' hb hB
    rw [T.get_put] at hb
    split at hb
    · cases hb; cases hob
    · exact r.opq b tag data B' d' x' hb hB
  sep := by
    intro b b' o o' i hne hq hb hb' h1 h2
    rw [T.get_put] at hb hb'
    split at hb
    · cases hb; rw [hob] at hq; cases hq
    · rename_i e
      split at hb'
      · rename_i e'; subst e'; cases hb'
        rw [Inj.owns_blk hob, Inj.blk_of hn] at h2
        cases h2
        exact hsep b o e hb hq h1
      · exact r.sep b b' o o' i hne hq hb hb' h1 h2
  obj := by
    intro b o hb
    rw [T.get_put] at hb
    split at hb
    · rename_i e; subst e; cases hb; exact ⟨B, d, x, c, hn, hc, ho⟩
    · exact r.obj b o hb
  inj := by
    intro b b' o o' B' d1 x1 d2 x2 hne hb hb' h1 h2
    rw [T.get_put] at hb hb'
    split at hb
    · rename_i e; subst e; cases hb
      rw [hn] at h1; cases h1
      rw [if_neg (Ne.symm hne)] at hb'
      exact hap b' o' d2 x2 (Ne.symm hne) hb' h2
    · rename_i e
      split at hb'
      · rename_i e'; subst e'; cases hb'
        rw [hn] at h2; cases h2
        obtain ⟨n, n', r1, r2, hd⟩ := hap b o d1 x1 e hb h1
        exact ⟨n', n, r2, r1, fun i hi => hd i ⟨hi.2.2.1, hi.2.2.2, hi.1, hi.2.1⟩⟩
      · exact r.inj b b' o o' B' d1 x1 d2 x2 hne hb hb' h1 h2
  fresh := r.fresh
  glob := r.glob

/-- a new block of the world -/
theorem Rep.alloc (r : Rep P φ h nx w) (c : Obj) : Rep P φ h nx { w with heap := w.heap.push c } where
  obj := by
    intro b o hb
    obtain ⟨B, d, x, c', hB, hc, ho⟩ := r.obj b o hb
    refine ⟨B, d, x, c', hB, ?_, ho⟩
    have : B < w.heap.size := (Array.getElem?_eq_some_iff.1 hc).1
    rw [Array.getElem?_push, if_neg (by omega)]; exact hc
  inj := r.inj
  fresh := r.fresh
  glob := r.glob
  opq := by
    intro b tag data B d x hb hB
    obtain ⟨h1, h2⟩ := r.opq b tag data B d x hb hB
    refine ⟨Opq.loc _ _ _ _ _ _ h1 fun i hi => ?_, fun i hi => ?_⟩
    · have := h2 i hi
      rw [Array.getElem?_push, if_neg (by omega)]
    · have := h2 i hi
      simp; omega
  sep := r.sep

theorem Rep.lt (r : Rep P φ h nx w) {b B d x : Nat} {o : AObj} (hb : h.get b = some o) (hB : φ b = some (B, d, x)) : B < w.heap.size := by
  obtain ⟨B', d', x', c, hB', hc, _⟩ := r.obj b o hb
  rw [hB] at hB'; cases hB'
  exact (Array.getElem?_eq_some_iff.1 hc).1

/-- draws and the like -/
theorem Rep.drawn (r : Rep P φ h nx w) (n : Nat) : Rep P φ h nx { w with drawn := n } where
  obj := r.obj
  inj := r.inj
  fresh := r.fresh
  glob := r.glob
  opq := by
    intro b tag data B d x hb hB
    obtain ⟨h1, h2⟩ := r.opq b tag data B d x hb hB
    exact ⟨Opq.loc _ _ _ _ _ _ h1 fun i hi => rfl, h2⟩
  sep := r.sep

/-- another content for a block -/
theorem Rep.write (r : Rep P φ h nx w) {b B d x : Nat} {o o' : AObj} {c' : Obj} (hb : h.get b = some o) (hB : φ b = some (B, d, x)) (ho : objRep φ d x o' c')
    (hreach : ∀ n, reach o x = some n → ∃ n', reach o' x = some n' ∧ n' ≤ n)
    (hoth : ∀ b1 o1 d1 x1 c, b1 ≠ b → h.get b1 = some o1 → φ b1 = some (B, d1, x1) → w.heap[B]? = some c → apart o o1 d x d1 x1 → objRep φ d1 x1 o1 c → objRep φ d1 x1 o1 c') (hq : isOpq o = false := by rfl) (hq' : isOpq o' = false := by rfl) :
    Rep P φ (h.put b (some o')) nx { w with heap := w.heap.setIfInBounds B c' } where
  obj := by
    intro b1 o1 h1
    rw [T.get_put] at h1
    have hlt := r.lt hb hB
    split at h1
    · rename_i e; subst e; cases h1
      exact ⟨B, d, x, c', hB, by simp [hlt], ho⟩
    · rename_i e
      obtain ⟨B1, d1, x1, c1, hB1, hc1, ho1⟩ := r.obj b1 o1 h1
      by_cases hBB : B1 = B
      · subst hBB
        exact ⟨B1, d1, x1, c', hB1, by simp [hlt], hoth b1 o1 d1 x1 c1 e h1 hB1 hc1 (r.inj b b1 o o1 B1 d x d1 x1 (Ne.symm e) hb h1 hB hB1) ho1⟩
      · refine ⟨B1, d1, x1, c1, hB1, ?_, ho1⟩
        simp only [Array.getElem?_setIfInBounds]
        rw [if_neg (fun e => hBB e.symm)]; exact hc1
  inj := by
    intro b1 b2 o1 o2 B' d1 x1 d2 x2 hne h1 h2 p1 p2
    have shrink : ∀ {oo : AObj} {dd xx : Nat}, apart o oo d x dd xx → apart o' oo d x dd xx := by
      rintro oo dd xx ⟨n, n', hr1, hr2, hd⟩
      obtain ⟨n2, hr3, hle⟩ := hreach n hr1
      exact ⟨n2, n', hr3, hr2, fun i hi => hd i ⟨hi.1, by omega, hi.2.2.1, hi.2.2.2⟩⟩
    have flip : ∀ {o1 o2 : AObj} {d1 x1 d2 x2 : Nat}, apart o1 o2 d1 x1 d2 x2 → apart o2 o1 d2 x2 d1 x1 := by
      rintro o1 o2 d1 x1 d2 x2 ⟨n, n', r1, r2, hd⟩
      exact ⟨n', n, r2, r1, fun i hi => hd i ⟨hi.2.2.1, hi.2.2.2, hi.1, hi.2.1⟩⟩
    rw [T.get_put] at h1 h2
    split at h1
    · rename_i e; subst e; cases h1
      rw [if_neg (Ne.symm hne)] at h2
      rw [hB] at p1; cases p1
      exact shrink (r.inj b1 b2 o o2 _ _ _ _ _ hne hb h2 hB p2)
    · split at h2
      · rename_i e; subst e; cases h2
        rw [hB] at p2; cases p2
        exact flip (shrink (flip (r.inj b1 b2 o1 o _ _ _ _ _ hne h1 hb p1 hB)))
      · exact r.inj b1 b2 o1 o2 B' d1 x1 d2 x2 hne h1 h2 p1 p2
  fresh := r.fresh
  glob := r.glob
  opq := by
    intro b1 tag data B1 d1 x1 h1 hB1
    rw [T.get_put] at h1
    split at h1
    · cases h1; cases hq'
    · rename_i e
      obtain ⟨k1, k2⟩ := r.opq b1 tag data B1 d1 x1 h1 hB1
      refine ⟨Opq.loc _ _ _ _ _ _ k1 fun i hi => ?_, fun i hi => by simpa using k2 i hi⟩
      simp only [Array.getElem?_setIfInBounds]
      rw [if_neg]
      rintro rfl
      exact r.sep b1 b _ o B e rfl h1 hb ⟨B1, d1, x1, hB1, .inr ⟨rfl, hi⟩⟩ (Inj.owns_self hB)
  sep := by
    intro b1 b2 o1 o2 i hne ho h1 h2 p1 p2
    rw [T.get_put] at h1 h2
    split at h1
    · cases h1; rw [hq'] at ho; cases ho
    · split at h2
      · rename_i e; subst e; cases h2
        refine r.sep b1 b2 o1 o i hne ho h1 hb p1 ?_
        rw [Inj.owns_blk hq'] at p2
        rw [Inj.owns_blk hq]; exact p2
      · exact r.sep b1 b2 o1 o2 i hne ho h1 h2 p1 p2

/-- a block that is no row shares its place with none -/
theorem Rep.alone (r : Rep P φ h nx w) {b B d x : Nat} {o : AObj} (hb : h.get b = some o) (hB : φ b = some (B, d, x)) (hno : reach o x = none) :
    ∀ b1 o1 d1 x1, b1 ≠ b → h.get b1 = some o1 → φ b1 = some (B, d1, x1) → False := by
  intro b1 o1 d1 x1 hne h1 hB1
  obtain ⟨n, n', hr, _⟩ := r.inj b b1 o o1 B d x d1 x1 (Ne.symm hne) hb h1 hB hB1
  rw [hno] at hr; cases hr

end

/-! what one operation changes -/
theorem Eff.refl (φ : Inj) (h : Heap) (w : World) (nm : Nat) : Eff φ h w nm φ h w where
  ext := fun _ _ => rfl
  os := rfl
  out := rfl
  size := Nat.le_refl _
  frame := fun _ _ _ => rfl
  dom := fun b o B hb hB => .inr ⟨b, o, hb, hB⟩

/-- only a new block of the world -/
theorem Eff.alloc {P : Program} {φ : Inj} {h : Heap} {w : World} {nm nx : Nat} (r : Rep P φ h nx w) (hn : φ nm = none) (c ob) (x : Nat) (hob : isOpq ob = false := by rfl) :
    Eff φ h w nm (φ.set nm (w.heap.size, 0, x)) (h.put nm (some ob)) { w with heap := w.heap.push c } where
  ext := fun b hb => Inj.set_ne _ _ hb
  os := rfl
  out := rfl
  size := by simp
  frame := by
    intro i hi _
    simp only [Array.getElem?_push]
    rw [if_neg (by omega)]
  dom := by
    intro b o B hb hB
    rw [T.get_put] at hb
    split at hb
    · rename_i e; subst e; cases hb
      rw [Inj.owns_blk hob] at hB
      obtain ⟨d, y, hB'⟩ := Inj.blk_some hB
      rw [Inj.set_same] at hB'; cases hB'
      exact .inl (Nat.le_refl _)
    · rename_i e
      refine .inr ⟨b, o, hb, ?_⟩
      rwa [Inj.owns_set_ne e] at hB

/-- a new block of the world for a new name -/
theorem fresh_block {C : Ctx} {φ : Inj} {h : Heap} {nx nm : Nat} {w : World} {ts : Tmps} {a : Act} {o : Oper} (hi : In C φ h nx w ts a) (hn : φ nm = none) (hlt : nm < nx)
    {v : AV} {n : Next} {v' : Value} {ob : AObj} {c : Obj} (x : Nat) (hrun : (execOp a.eval o).run C.P w = .ok n { w with heap := w.heap.push c }) (hval : IsVal n v')
    (hv : conc (φ.set nm (w.heap.size, 0, x)) v = some v') (ho : objRep (φ.set nm (w.heap.size, 0, x)) 0 x ob c) (hob : isOpq ob = false := by rfl) : Fresh C φ h nx w nm a o v (h.put nm (some ob)) := by
  refine ⟨n, v', _, φ.set nm (w.heap.size, 0, x), hrun, hval, hv, ?_, Eff.alloc hi.rep hn c ob x hob⟩
  refine ((hi.rep.set hn hlt (w.heap.size, 0, x)).alloc c).add (Inj.set_same ..) (by simp) ho ?_ ?_ hob
  · intro b o' d' x' hb hg hB
    rw [Inj.set_ne _ _ hb] at hB
    exact absurd (hi.rep.lt hg hB) (by omega)
  · intro b o' hb hg _ hB
    rw [Inj.owns_set_ne hb] at hB
    exact absurd (hi.rep.owns_lt hg hB) (by omega)

end Go.Ax

