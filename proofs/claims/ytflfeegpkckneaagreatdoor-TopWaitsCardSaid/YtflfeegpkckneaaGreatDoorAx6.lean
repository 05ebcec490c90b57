/- A part of the proof of TopWaits: see the last text of the claim. -/
import Derived.Test.YtflfeegpkckneaaGreatDoorAx5
import Derived.Deep.AppendSrc
set_option linter.unusedSectionVars false
set_option linter.unusedSimpArgs false
set_option linter.unusedVariables false
/- The abstract executor: the built-in functions but append. -/
namespace Go.Ax
variable [Opq]
section
variable {C : Ctx} {φ : Inj} {h : Heap} {nx nm : Nat} {w : World} {ts : Tmps} {a : Act} {o : Oper}

theorem args1 {c : Call} {y : Opd} (hi : In C φ h nx w ts a) (ha : opds C.P c.args.toList = some [y]) : ∃ x, c.args.map a.eval = #[x] ∧ conc φ (ev ts y) = some x := by
  have h1 := hi.opds ha
  simp only [evL] at h1
  obtain ⟨v', l', hv, hl, he⟩ := concL_cons h1
  simp only [concL] at hl; cases hl
  refine ⟨v', ?_, hv⟩
  apply Array.ext'
  simpa using he

theorem args2 {c : Call} {y z : Opd} (hi : In C φ h nx w ts a) (ha : opds C.P c.args.toList = some [y, z]) :
    ∃ x1 x2, c.args.map a.eval = #[x1, x2] ∧ conc φ (ev ts y) = some x1 ∧ conc φ (ev ts z) = some x2 := by
  have h1 := hi.opds ha
  simp only [evL] at h1
  obtain ⟨v', l', hv, hl, he⟩ := concL_cons h1
  obtain ⟨v2, l2, hv2, hl2, he2⟩ := concL_cons hl
  simp only [concL] at hl2; cases hl2
  subst he2
  refine ⟨v', v2, ?_, hv, hv2⟩
  apply Array.ext'
  simpa using he

theorem argT {c : Call} {t : TypeId} {l : List TypeId} (h : c.argTypes.toList = t :: l) : c.argTypes[0]? = some t := by
  rw [← Array.getElem?_toList, h]; rfl

theorem s_len (hi : In C φ h nx w ts a) {c : Call} (ho : o.op = .call c) (hb : c.callee = .builtin .len) {ao : AOp} {r : Res}
    (hc : compOp? C.P o = some ao) (hop : op0 C ao nm ts h = some r) : OpPost C φ h nx w nm a o r := by
  obtain ⟨args, ha, hc⟩ := comp_builtin ho hb hc
  simp only [compBuiltin, compLen] at hc
  split at hc
  rotate_left
  · cases hc
  rename_i t l x hts
  have ht := argT hts
  obtain ⟨u, hargs, hu⟩ := args1 hi ha
  have hex : ∀ v', (Builtin.len_ c.argTypes o.type #[u]).run C.P w = .ok v' w → (execOp a.eval o).run C.P w = .ok (.value v') w := by
    intro v' hr
    rw [exec_builtin ho hb, hargs]
    simp [builtin, hr]
  split at hc
  · -- a string
    rename_i hd
    cases hc
    simp only [op0] at hop
    split at hop
    · rename_i s hs
      cases hop
      rw [hs] at hu
      refine Vals.mk' rfl (hex _ ?_)
      have hsz : (⟨s.toArray⟩ : ByteArray).size = s.length := by simp [ByteArray.size]
      simp [Builtin.len_, ht, r_underlying hd, conc_str hu, goInt, hsz]
    · rename_i cs hs
      cases hop
      rw [hs] at hu
      obtain ⟨s, _, hln, rfl⟩ := conc_sstr' hu
      refine Vals.mk' rfl (hex _ ?_)
      have hsz : (⟨s.toArray⟩ : ByteArray).size = cs.length := by rw [← hln]; simp [ByteArray.size]
      simp [Builtin.len_, ht, r_underlying hd, goInt, hsz]
    · cases hop
  · rename_i e hd
    cases hc
    simp only [op0] at hop
    split at hop
    · rename_i hs
      cases hop
      rw [hs] at hu
      refine Vals.mk' rfl (hex _ ?_)
      simp [Builtin.len_, ht, r_underlying hd, conc_nilslice hu, goInt]
    · rename_i b p n cap q hs
      cases hop
      rw [hs] at hu
      obtain ⟨B, d, y, hB, rfl⟩ := conc_slice hu
      refine Vals.mk' rfl (hex _ ?_)
      simp [Builtin.len_, ht, r_underlying hd, goInt]
    · cases hop
  · rename_i kt e hd
    cases hc
    simp only [op0] at hop
    split at hop
    · rename_i hs
      cases hop
      rw [hs] at hu
      refine Vals.mk' rfl (hex _ ?_)
      simp [Builtin.len_, ht, r_underlying hd, conc_nilmap hu, goInt]
    · rename_i q hs
      split at hop
      · rename_i es ck hg
        cases hop
        rw [hs] at hu
        obtain ⟨B, d, y, hB, rfl⟩ := conc_map hu
        obtain ⟨B', d', z', ms, hB', hmc, hes⟩ := hi.rep.mapObj hg
        rw [hB] at hB'; cases hB'
        refine Vals.mk' rfl (hex _ ?_)
        have hgo : (getObj B).run C.P w = .ok (.map ms ck) w := r_getObj hmc rfl
        have hlen : ms.size = es.length := by have := concE_length hes; simpa using this
        simp [Builtin.len_, ht, r_underlying hd, hgo, goInt, hlen]
      · cases hop
    · cases hop
  · rename_i n e hd
    cases hc
    simp only [op0] at hop
    cases hop
    refine Vals.mk' rfl (hex _ ?_)
    simp [Builtin.len_, ht, r_underlying hd, goInt]
  · rename_i e hd
    split at hc
    · rename_i n e' hd'
      cases hc
      simp only [op0] at hop
      cases hop
      refine Vals.mk' rfl (hex _ ?_)
      simp [Builtin.len_, ht, r_underlying hd, r_underlying hd', goInt]
    · cases hc
  · cases hc

theorem r_minmax {P : Program} (b : Bool) (f : Value → Value → Sem Value) (hf : ∀ k x y, f (.int k x) (.int k y) = pure (.int k (if b then (if y > x then y else x) else (if y < x then y else x)))) (hf2 : ∀ k k' x y, f (.int k x) (.int k' y) = f (.int k x) (.int k y)) :
    ∀ (l : List AV) (x v : AV), minmaxA b x l = some v → ∀ (l' : List Value) (x' : Value), concL φ l = some l' → conc φ x = some x' → ∃ v', (l'.foldlM f x').run P w = .ok v' w ∧ conc φ v = some v'
  | [], x, v, h1, l', x', hl, hx => by
    cases x <;> simp only [minmaxA] at h1 <;> cases h1 <;> (simp only [concL] at hl; cases hl; exact ⟨x', by simp, hx⟩)
  | y :: l, x, v, h1, l', x', hl, hx => by
    obtain ⟨y', l'', hy, hl'', rfl⟩ := concL_cons hl
    cases x <;> (try (simp [minmaxA] at h1; done))
    rename_i k n
    cases y <;> (try (simp [minmaxA] at h1; done))
    rename_i k' m
    simp only [minmaxA] at h1
    cases conc_int hx; cases conc_int hy
    obtain ⟨v', hr, hv⟩ := r_minmax (P := P) b f hf hf2 l _ v h1 l'' _ hl'' rfl
    refine ⟨v', ?_, hv⟩
    simp only [List.foldlM_cons, Sem.run_bind, hf2 k k', hf, Sem.run_pure, Result.andThen_ok, hr]

theorem s_minmax (hi : In C φ h nx w ts a) {b : Bool} {c : Call} (ho : o.op = .call c) (hb : c.callee = .builtin (if b then .max else .min)) {ao : AOp} {r : Res}
    (hc : compOp? C.P o = some ao) (hop : op0 C ao nm ts h = some r) : OpPost C φ h nx w nm a o r := by
  obtain ⟨args, ha, hc⟩ := comp_builtin ho hb hc
  have hc1 : compMinMax b args = some ao := by cases b <;> exact hc
  have hc' : ∃ x xs, args = x :: xs ∧ ao = .minmax b x xs := by
    cases args with
    | nil => simp [compMinMax] at hc1
    | cons x xs => simp only [compMinMax] at hc1; cases hc1; exact ⟨x, xs, rfl, rfl⟩
  obtain ⟨x, xs, rfl, rfl⟩ := hc'
  have hl := hi.opds ha
  simp only [evL] at hl
  obtain ⟨x', l', hx, hxs, he⟩ := concL_cons hl
  simp only [op0] at hop
  obtain ⟨v, hv, rfl⟩ := qO_some hop
  cases b with
  | true =>
    obtain ⟨v', hr, hcv⟩ := r_minmax (P := C.P) (w := w) true Builtin.max2 (fun k x y => by simp [Builtin.max2]) (fun k k' x y => rfl) _ _ _ hv _ _ hxs hx
    refine Vals.mk' hcv ?_
    rw [exec_builtin ho hb]
    simp [builtin, Builtin.max_, he, hr]
  | false =>
    obtain ⟨v', hr, hcv⟩ := r_minmax (P := C.P) (w := w) false Builtin.min2 (fun k x y => by simp [Builtin.min2]) (fun k k' x y => rfl) _ _ _ hv _ _ hxs hx
    refine Vals.mk' hcv ?_
    rw [exec_builtin ho hb]
    simp [builtin, Builtin.min_, he, hr]

theorem s_delete (hi : In C φ h nx w ts a) {c : Call} (ho : o.op = .call c) (hb : c.callee = .builtin .delete) {ao : AOp} {r : Res}
    (hc : compOp? C.P o = some ao) (hop : op0 C ao nm ts h = some r) : OpPost C φ h nx w nm a o r := by
  obtain ⟨args, ha, hc⟩ := comp_builtin ho hb hc
  simp only [compBuiltin, compDelete] at hc
  split at hc
  rotate_left
  · cases hc
  rename_i t l m k hts
  have ht := argT hts
  obtain ⟨u1, u2, hargs, hu1, hu2⟩ := args2 hi ha
  split at hc
  · rename_i kt e hd
    split at hc
    · rename_i kk hkk
      cases hc
      obtain ⟨d, hkd, hdesc⟩ := keyKind_of hkk
      simp only [op0] at hop
      split at hop
      · rename_i q hs
        rw [hs] at hu1
        obtain ⟨B, dd, z, hB, rfl⟩ := conc_map hu1
        split at hop
        · rename_i es ck hg
          obtain ⟨B', d', z', ms, hB', hmc, hes⟩ := hi.rep.mapObj hg
          rw [hB] at hB'; cases hB'
          have hgo : (getObj B).run C.P w = .ok (.map ms ck) w := r_getObj hmc rfl
          split at hop
          · rename_i j v hsk hf
            cases hop
            obtain ⟨r', hr', v', e1, _⟩ := findA_sound hdesc hu2 hf hes
            subst e1
            have hfk := r_findKey (w := w) (kk := kk) hkd hr'
            obtain ⟨hrep, heff⟩ := obj_write hi.rep (c' := .map (ms.eraseIdxIfInBounds j) ck) (ob' := .map (es.eraseIdx j) ck) hg hB rfl ⟨rfl, by rw [toList_eraseIn]; exact concE_erase j hes⟩
            refine ⟨.value undef, undef, _, ?_, .val _, rfl, hrep, heff nm⟩
            rw [exec_builtin ho hb, hargs]
            simp [builtin, Builtin.delete_, ht, r_underlying hd, hgo, r_checkKey hkd hdesc, hfk, r_setObj _ hmc rfl, undef]
          · rename_i hsk hf
            cases hop
            obtain ⟨r', hr', e1⟩ := findA_sound hdesc hu2 hf hes
            simp only at e1; subst e1
            have hfk := r_findKey (w := w) (kk := kk) hkd hr'
            refine ⟨.value undef, undef, w, ?_, .val _, rfl, hi.rep, Eff.refl ..⟩
            rw [exec_builtin ho hb, hargs]
            have hso := r_setObj (P := C.P) (.map ms ck) hmc rfl
            rw [heap_same w hmc] at hso
            simp [builtin, Builtin.delete_, ht, r_underlying hd, hgo, r_checkKey hkd hdesc, hfk, hso, undef]
          · cases hop
        · cases hop
      · cases hop
    · cases hc
  · cases hc

theorem s_clear (hi : In C φ h nx w ts a) {c : Call} (ho : o.op = .call c) (hb : c.callee = .builtin .clear) {ao : AOp} {r : Res}
    (hc : compOp? C.P o = some ao) (hop : op0 C ao nm ts h = some r) : OpPost C φ h nx w nm a o r := by
  obtain ⟨args, ha, hc⟩ := comp_builtin ho hb hc
  simp only [compBuiltin, compClear] at hc
  split at hc
  rotate_left
  · cases hc
  rename_i t l m hts
  have ht := argT hts
  obtain ⟨u1, hargs, hu1⟩ := args1 hi ha
  split at hc
  · rename_i kt e hd
    cases hc
    simp only [op0] at hop
    split at hop
    · rename_i hs
      cases hop
      rw [hs] at hu1
      refine Vals.mk' (v' := undef) rfl ?_
      rw [exec_builtin ho hb, hargs]
      simp [builtin, Builtin.clear_, ht, r_underlying hd, conc_nilmap hu1, undef]
    · rename_i q hs
      rw [hs] at hu1
      obtain ⟨B, dd, z, hB, rfl⟩ := conc_map hu1
      split at hop
      · rename_i es ck hg
        obtain ⟨B', d', z', ms, hB', hmc, hes⟩ := hi.rep.mapObj hg
        rw [hB] at hB'; cases hB'
        cases hop
        have hgo : (getObj B).run C.P w = .ok (.map ms ck) w := r_getObj hmc rfl
        obtain ⟨hrep, heff⟩ := obj_write hi.rep (c' := .map #[] ck) (ob' := .map [] ck) hg hB rfl ⟨rfl, rfl⟩
        refine ⟨.value undef, undef, _, ?_, .val _, rfl, hrep, heff nm⟩
        rw [exec_builtin ho hb, hargs]
        simp [builtin, Builtin.clear_, ht, r_underlying hd, hgo, r_setObj _ hmc rfl, undef]
      · cases hop
    · cases hop
  · cases hc

end
end Go.Ax

/- The abstract executor: append and copy. -/
namespace Go.Ax
variable [Opq]
section
variable {C : Ctx} {φ : Inj} {h : Heap} {nx nm : Nat} {w : World} {ts : Tmps} {a : Act} {o : Oper}

theorem strBytes_sound (s : List UInt8) : concL φ (strBytes s) = some (s.map fun b => .int .u8 b.toNat) := by
  induction s with
  | nil => rfl
  | cons b s ih => exact concL_cons_mk rfl ih

theorem srcN_sound {P : Program} {x : AV} {n : Nat} (hs : srcN x = some n) {u : Value} (hu : conc φ x = some u) : (Builtin.lenOf u).run P w = .ok n w := by
  cases x <;> simp only [srcN, reduceCtorEq] at hs
  · cases hs; cases conc_str hu; simp [Builtin.lenOf, ByteArray.size]
  · cases hs; cases conc_nilslice hu; rfl
  · cases hs; obtain ⟨B, d, y, _, rfl⟩ := conc_slice hu; rfl
  · cases hs; obtain ⟨s, _, hln, rfl⟩ := conc_sstr' hu; simp [Builtin.lenOf, ByteArray.size, hln]

theorem dstN_sound {x : AV} {n : Nat} (hs : dstN x = some n) {u : Value} (hu : conc φ x = some u) : ∃ base cap, u = .slice base n cap := by
  cases x <;> simp only [dstN, reduceCtorEq] at hs
  · cases hs; cases conc_nilslice hu; exact ⟨_, _, rfl⟩
  · cases hs; obtain ⟨B, d, y, _, rfl⟩ := conc_slice hu; exact ⟨_, _, rfl⟩

theorem srcA_sound {P : Program} (hr : Rep P φ h nx w) {es n : Nat} {x : AV} {new : List AV} (hs : srcA h es n x = some new) {u : Value} (hu : conc φ x = some u) :
    ∃ new', concL φ new = some new' ∧ (Builtin.firstCells es n u).run P w = .ok new'.toArray w := by
  cases x <;> simp only [srcA, reduceCtorEq] at hs
  · rename_i s
    cases conc_str hu
    obtain ⟨rfl, hle⟩ := takeN_eq _ _ _ hs
    refine ⟨(s.map fun b => Value.int .u8 b.toNat).take n, concL_take n (strBytes_sound s), ?_⟩
    have e : ((⟨s.toArray⟩ : ByteArray).extract 0 n) = ⟨(s.take n).toArray⟩ := by
      rw [extract_data]; simp
    simp only [Builtin.firstCells, e, Sem.run_pure]
    congr 1
    apply Array.ext'
    simp [List.map_take]
  · cases hs; cases conc_nilslice hu
    exact ⟨[], rfl, rfl⟩
  · rename_i b p len cap op
    obtain ⟨B, d, y, hB, rfl⟩ := conc_slice hu
    cases n with
    | zero =>
      cases hs
      exact ⟨[], rfl, by simp [Builtin.firstCells, loadCells, loadCellsFrom]⟩
    | succ k =>
      simp only at hs
      split at hs
      · rename_i vs hl
        cases hs
        have hp : conc φ (.ptr b p) = some (.pointer (some ⟨B, d + p, none⟩)) := by simp only [conc, hB]
        obtain ⟨B', p', cs, el, fr, v', hu', hcc, hcv, g1, _⟩ := loadA_sound hr hl hp
        cases hu'
        obtain ⟨l, rfl, hlen, hcs⟩ := g1 rfl
        obtain ⟨l', hl', he'⟩ := conc_agg hcv
        cases he'
        exact ⟨l, by simpa using hl', by simp only [Builtin.firstCells, r_loadCells hcc hcs hlen]⟩
      · cases hs
  · rename_i cs
    obtain ⟨s, hcl, hln, rfl⟩ := conc_sstr' hu
    obtain ⟨rfl, hle⟩ := takeN_eq _ _ _ hs
    refine ⟨(s.map fun b => Value.int .u8 b.toNat).take n, concL_take n hcl, ?_⟩
    have e : ((⟨s.toArray⟩ : ByteArray).extract 0 n) = ⟨(s.take n).toArray⟩ := by
      rw [extract_data]; simp
    simp only [Builtin.firstCells, e, Sem.run_pure]
    congr 1
    apply Array.ext'
    simp [List.map_take]

theorem s_copy (hi : In C φ h nx w ts a) {c : Call} (ho : o.op = .call c) (hb : c.callee = .builtin .copy) {ao : AOp} {r : Res}
    (hc : compOp? C.P o = some ao) (hop : op0 C ao nm ts h = some r) : OpPost C φ h nx w nm a o r := by
  obtain ⟨args, ha, hc⟩ := comp_builtin ho hb hc
  simp only [compBuiltin, compCopy] at hc
  split at hc
  rotate_left
  · cases hc
  rename_i t l d s hts
  have ht := argT hts
  obtain ⟨u1, u2, hargs, hu1, hu2⟩ := args2 hi ha
  split at hc
  · rename_i e hd
    split at hc
    · rename_i es hes
      cases hc
      simp only [op0] at hop
      split at hop
      · rename_i ns nd hns hnd
        split at hop
        · rename_i new hnew
          obtain ⟨new', hcn, hrn⟩ := srcA_sound (P := C.P) hi.rep hnew hu2
          obtain ⟨base, cap, rfl⟩ := dstN_sound hnd hu1
          have hln := srcN_sound (P := C.P) (w := w) hns hu2
          have hex : ∀ w', (match base with | some a => storeCells a new' | none => pure () : Sem Unit).run C.P w = .ok () w' →
              (execOp a.eval o).run C.P w = .ok (.value (.int .i64 (Nat.min ns nd))) w' := by
            intro w' hr
            rw [exec_builtin ho hb, hargs]
            cases base with
            | none =>
              simp only [Sem.run_pure] at hr; cases hr
              simp [builtin, Builtin.copy_, ht, r_underlying hd, hln, r_sizeOf hes, hrn, goInt]
            | some p =>
              simp only at hr
              simp [builtin, Builtin.copy_, ht, r_underlying hd, hln, r_sizeOf hes, hrn, goInt, hr]
          unfold copyA at hop
          split at hop
          · rename_i hs
            cases hop
            rw [hs] at hu1
            have := conc_nilslice hu1
            cases this
            exact Vals.mk' rfl (hex w rfl)
          · rename_i b p len q op hs
            rw [hs] at hu1
            obtain ⟨B, dd, y, hB, hv⟩ := conc_slice hu1
            cases hv
            split at hop
            · rename_i vs el opn hg
              split at hop
              · rename_i vs' hsp
                cases hfl : flatL new with
                | false => rw [hfl] at hop; cases hop
                | true =>
                  rw [hfl] at hop; cases hop
                  obtain ⟨w', hrun, hrep, heff⟩ := row_write hi.rep hg hsp hfl hcn hB
                  exact ⟨_, _, w', hex w' hrun, .val _, rfl, hrep, heff nm⟩
              · cases hop
            · cases hop
          · cases hop
        · cases hop
      · cases hop
    · cases hc
  · cases hc

/-! append -/
theorem growBy_le (m : Nat) : ∀ (r c : Nat), c ≤ 2 * m → 256 ≤ m → Builtin.growBy m r c ≤ 2 * m
  | 0, c, h, _ => h
  | r + 1, c, h, hm => by
    unfold Builtin.growBy
    split
    · exact h
    · exact growBy_le m r _ (by omega) hm

theorem nextcap_le {m c : Nat} (h : c < m) : Builtin.nextslicecap m c ≤ 2 * m := by
  unfold Builtin.nextslicecap
  split
  · omega
  · split
    · omega
    · exact growBy_le m 4 c (by omega) (by omega)

theorem bytes_of {P : Program} {t : TypeId} {n : Nat} (h : bytesA P t = some n) : ∃ i, P.info? t = some i ∧ i.bytes = n := by
  unfold bytesA at h
  split at h
  · rename_i i hi'; cases h; exact ⟨i, hi', rfl⟩
  · cases h

theorem size_of {P : Program} {t : TypeId} {n : Nat} {i : TypeInfo} (h : sizeA P t = some n) (hi : P.info? t = some i) : i.size = n := by
  unfold sizeA at h; rw [hi] at h; cases h; rfl

theorem r_append_room {P : Program} {t tx ty e : TypeId} {i : TypeInfo} (ht : P.underlying t = some (.slice e)) (hk : (∃ e', P.underlying tx = some (.slice e')) ∨ P.underlying tx = some .string) (hi : P.info? e = some i)
    {base : Option Addr} {sLen sCap n : Nat} {u : Value} (hn : ∀ w, (Builtin.lenOf u).run P w = .ok n w) {news : List Value} (hcells : (Builtin.firstCells i.size n u).run P w = .ok news.toArray w) (hroom : sLen + n ≤ sCap) {w' : World}
    (hst : match base with | some p => (storeCells (p.add (sLen * i.size)) news).run P w = .ok () w' | none => w' = w) :
    (Builtin.append_ #[t, tx] ty #[.slice base sLen sCap, u]).run P w = .ok (.slice base (sLen + n) sCap) w' := by
  cases base with
  | none =>
    simp only at hst; subst hst
    rcases hk with ⟨e', hk⟩ | hk <;> simp [Builtin.append_, run_underlying ht, run_underlying hk, sizeOf, typeInfo, hi, hn, hroom, hcells]
  | some p =>
    simp only at hst
    rcases hk with ⟨e', hk⟩ | hk <;> simp [Builtin.append_, run_underlying ht, run_underlying hk, sizeOf, typeInfo, hi, hn, hroom, hcells, hst]

theorem srcKind_of {P : Program} {l : List TypeId} (h : srcKind P l = true) : ∃ tx, l = [tx] ∧ ((∃ e', P.underlying tx = some (.slice e')) ∨ P.underlying tx = some .string) := by
  unfold srcKind at h
  split at h
  · rename_i tx
    split at h
    · rename_i e he; exact ⟨tx, rfl, .inl ⟨e, he⟩⟩
    · rename_i he; exact ⟨tx, rfl, .inr he⟩
    · cases h
  · cases h

theorem take_rows {vs old : List AV} {o k : Nat} (ht : takeN k (dropN o vs) = some old) : old = (vs.drop o).take k ∧ old.length = k ∧ o + k ≤ vs.length ∨ k = 0 ∧ old = [] := by
  obtain ⟨rfl, hle⟩ := takeN_eq _ _ _ ht
  rw [dropN_eq] at hle ⊢
  rcases Nat.eq_zero_or_pos k with h0 | h0
  · right; subst h0; simp
  · left
    simp at hle
    refine ⟨rfl, by simp; omega, by omega⟩

theorem zeroOk_of {P : Program} {t : TypeId} {i : TypeInfo} (h : zeroOk P t = true) (hi : P.info? t = some i) : ∃ z, i.zero = some z ∧ z.cells.size = i.size := by
  unfold zeroOk at h
  rw [hi] at h
  simp only at h
  split at h
  · rename_i z hz; exact ⟨z, hz, Nat.eq_of_beq_eq_true h⟩
  · cases h

theorem grow_fresh (hi : In C φ h nx w ts a) (hnm : φ nm = none) (hlt : nm < nx) {t tx e : TypeId} {i : TypeInfo} {z u1 u2 : Value}
    (hex : ∀ v' w', (Builtin.append_ #[t, tx] o.type #[u1, u2]).run C.P w = .ok v' w' → (execOp a.eval o).run C.P w = .ok (.value v') w')
    (ht : C.P.underlying t = some (.slice e)) (hi' : C.P.info? e = some i) (hz : i.zero = some z) (hzs : z.cells.size = i.size) {base : Option Addr} {len cap n : Nat} (hu1 : u1 = .slice base len cap) {old new : List AV} {old' new' : List Value}
    (hold : concL φ old = some old') (hnew : concL φ new = some new') (hrold : (Builtin.firstCells i.size len (.slice base len cap)).run C.P w.drew = .ok old'.toArray w.drew) (hs : Src C.P i.size tx u2 n new' w)
    (hlen : old.length = len * i.size) (hg : cap < len + n) (hroom : (len + n) * i.bytes ≤ maxLenBytes) (hsmall : len + n < 2 ^ 40) (el : TypeId) :
    Fresh C φ h nx w nm a o (.slice nm 0 (len + n) (len + n) true) (h.put nm (some (.cells (old ++ new) el (some i.size)))) := by
  subst hu1
  have hnext : Builtin.nextslicecap (len + n) cap * i.bytes ≤ 281474976710656 := by
    have h1 := nextcap_le (m := len + n) (c := cap) hg
    have h2 : Builtin.nextslicecap (len + n) cap * i.bytes ≤ 2 * (len + n) * i.bytes := Nat.mul_le_mul_right _ h1
    have h3 : 2 * (len + n) * i.bytes = 2 * ((len + n) * i.bytes) := Nat.mul_assoc ..
    unfold maxLenBytes at hroom
    omega
  have hrun := hex _ _ (run_append_grow_src (P := C.P) w t tx o.type e i z ht hi' hz base len cap old' hrold u2 n new' hs hg (by omega) hnext)
  have hcap : len + n ≤ grownCap w (len + n) cap e := by
    unfold grownCap
    simp only [Question.cut]
    omega
  generalize grownCap w (len + n) cap e = K at hrun hcap
  have hle := Inj.le_set (w.heap.size, 0, K - (len + n)) hnm
  refine fresh_block' hi hnm hlt (K - (len + n)) hrun (c := .cells ((old' ++ new').toArray ++ Builtin.zeroCells z.cells (K - (len + n))) e) rfl rfl rfl (.val _) ?_ ?_
  · simp only [conc, Inj.set_same, cond_true]
    congr 2
    omega
  · refine ⟨⟨old' ++ new', concL_append (concL_mono hle _ _ hold) (concL_mono hle _ _ hnew), ?_⟩, ?_, ?_⟩
    · intro j v hj
      have hlt' : j < (old' ++ new').length := by
        rcases Nat.lt_or_ge j (old' ++ new').length with h | h
        · exact h
        · rw [List.getElem?_eq_none h] at hj; cases hj
      rw [Nat.zero_add, Array.getElem?_append_left (by simpa using hlt')]
      simpa using hj
    · intro s hs'
      cases hs'
      have h1 := concL_length hold
      have h2 := concL_length hnew
      simp [Builtin.zeroCells, hzs, h1, h2]
    · intro j _ hj
      simp at hj

theorem s_append (hi : In C φ h nx w ts a) (hnm : φ nm = none) (hlt : nm < nx) {c : Call} (ho : o.op = .call c) (hb : c.callee = .builtin .append) {ao : AOp} {r : Res}
    (hc : compOp? C.P o = some ao) (hop : op0 C ao nm ts h = some r) : OpPost C φ h nx w nm a o r := by
  obtain ⟨args, ha, hc⟩ := comp_builtin ho hb hc
  simp only [compBuiltin, compAppend] at hc
  split at hc
  rotate_left
  · cases hc
  rename_i t l s x hts
  obtain ⟨u1, u2, hargs, hu1, hu2⟩ := args2 hi ha
  split at hc
  rotate_left
  · cases hc
  rename_i e hd
  split at hc
  rotate_left
  · cases hc
  rename_i es by_ hes hby hkz
  cases hc
  rw [Bool.and_eq_true] at hkz
  obtain ⟨hkind, hzok⟩ := hkz
  obtain ⟨tx, rfl, hkd⟩ := srcKind_of hkind
  obtain ⟨inf, hinf, rfl⟩ := bytes_of hby
  have hsize := size_of hes hinf
  subst hsize
  obtain ⟨z, hz, hzs⟩ := zeroOk_of hzok hinf
  have hat : c.argTypes = #[t, tx] := by apply Array.ext'; simpa using hts
  have hex : ∀ v' w', (Builtin.append_ #[t, tx] o.type #[u1, u2]).run C.P w = .ok v' w' → (execOp a.eval o).run C.P w = .ok (.value v') w' := by
    intro v' w' hr
    rw [exec_builtin ho hb, hargs, hat]
    simp [builtin, hr]
  simp only [op0] at hop
  split at hop
  rotate_left
  · cases hop
  rename_i n hns
  split at hop
  rotate_left
  · cases hop
  rename_i new hnew
  have hln : ∀ w, (Builtin.lenOf u2).run C.P w = .ok n w := fun w => srcN_sound (P := C.P) (w := w) hns hu2
  obtain ⟨new', hcn, hrn⟩ := srcA_sound (P := C.P) hi.rep hnew hu2
  have hsrc : new.length = n * inf.size → flatL new = true → Src C.P inf.size tx u2 n new' w := by
    intro h1 h2
    refine ⟨hkd, hln, hrn, ?_, by rw [concL_length hcn]; exact h1, flatL_one hcn h2⟩
    obtain ⟨new2, hcn2, hrn2⟩ := srcA_sound (P := C.P) (w := w.drew) (hi.rep.same rfl) hnew hu2
    rw [hcn] at hcn2; cases hcn2
    exact hrn2
  have hroomOf : ∀ k m, roomA k inf.size inf.bytes new m = true → k * inf.bytes ≤ maxLenBytes ∧ k < 2 ^ 40 ∧ new.length = m * inf.size ∧ flatL new = true := by
    intro k m hr
    simp only [roomA, Bool.and_eq_true, decide_eq_true_eq] at hr
    exact ⟨hr.1, hr.2.1, Nat.eq_of_beq_eq_true hr.2.2.1, hr.2.2.2⟩
  unfold appendA at hop
  split at hop
  · -- nil
    rename_i hs
    rw [hs] at hu1
    have hv := conc_nilslice hu1
    split at hop
    · cases hop
      refine Vals.mk' (v' := .slice none 0 0) rfl (hex _ _ ?_)
      rw [hv]
      exact r_append_room hd hkd hinf hln hrn (by omega) rfl
    · rename_i k
      cases hr : roomA (k + 1) inf.size inf.bytes new (k + 1) with
      | false => rw [hr] at hop; cases hop
      | true =>
        rw [hr] at hop; cases hop
        obtain ⟨g1, g2, g3, g4⟩ := hroomOf _ _ hr
        have := grow_fresh (len := 0) (cap := 0) (old := []) (old' := []) hi hnm hlt hex hd hinf hz hzs hv rfl hcn (by simp [Builtin.firstCells]) (hsrc g3 g4) (by simp) (by omega) (by simpa using g1) (by omega) e
        simp only [Nat.zero_add, List.nil_append] at this
        exact this
  · rename_i b p len cap op hs
    rw [hs] at hu1
    obtain ⟨B, d, y, hB, hv⟩ := conc_slice hu1
    split at hop
    rotate_left
    · cases hop
    rename_i vs el opn hg
    have hcap' : cap ≤ (bif op then cap + y else cap) := by cases op <;> simp
    split at hop
    · -- there is room
      rename_i hble
      have hroom : len + n ≤ cap := Nat.le_of_ble_eq_true hble
      cases hnl : Nat.beq new.length (n * inf.size) with
      | false => rw [hnl] at hop; cases hop
      | true =>
        rw [hnl] at hop
        simp only [cond_true] at hop
        split at hop
        rotate_left
        · cases hop
        rename_i vs' hsp
        cases hfl : flatL new with
        | false => rw [hfl] at hop; cases hop
        | true =>
          rw [hfl] at hop; cases hop
          obtain ⟨w', hrun, hrep, heff⟩ := row_write hi.rep hg hsp hfl hcn hB
          refine ⟨_, .slice (some ⟨B, d + p, none⟩) (len + n) (bif op then cap + y else cap), w', hex _ _ ?_, .val _, by simp only [conc, hB], hrep, heff nm⟩
          rw [hv]
          refine r_append_room hd hkd hinf hln hrn (by omega) ?_
          simp only [addr_add]
          rw [show d + p + len * inf.size = d + (p + len * inf.size) from by omega]
          exact hrun
    · -- there is none
      rename_i hble
      have hnr : cap < len + n := by
        rcases Nat.lt_or_ge cap (len + n) with h1 | h1
        · exact h1
        · rw [Nat.ble_eq_true_of_le h1] at hble; cases hble
      split at hop
      · cases hop
      rename_i old hold
      obtain ⟨B', d', x', cs, el', fr, lst, hB', hcc, hll, hcs, hsz, hfr⟩ := hi.rep.cells hg
      rw [hB] at hB'; cases hB'
      have hlst := concL_length hll
      cases hr : roomA (len + n) inf.size inf.bytes new n with
      | false => rw [hr] at hop; cases hop
      | true =>
        rw [hr] at hop
        simp only [cond_true] at hop
        obtain ⟨g1, g2, g3, g4⟩ := hroomOf _ _ hr
        obtain ⟨hold1, hold2⟩ := takeN_eq _ _ _ hold
        rw [dropN_eq] at hold1 hold2
        have holdc : concL φ old = some ((lst.drop p).take (len * inf.size)) := by rw [hold1]; exact concL_take _ (concL_drop p hll)
        have holdl : old.length = len * inf.size := by rw [hold1]; simp at hold2 ⊢; omega
        -- the old cells
        have hread : ∀ w2 : World, w2.heap = w.heap → ∀ cap', (Builtin.firstCells inf.size len (.slice (some ⟨B, d + p, none⟩) len cap')).run C.P w2 = .ok ((lst.drop p).take (len * inf.size)).toArray w2 := by
          intro w2 hw2 cap'
          simp only [Builtin.firstCells]
          refine r_loadCells (cs := cs) (el := el') (fr := fr) (by rw [hw2]; exact hcc) ?_ (by rw [concL_length holdc, holdl])
          intro j v hj
          rw [List.getElem?_take] at hj
          split at hj
          · rw [List.getElem?_drop] at hj
            rw [show d + p + j = d + (p + j) from by omega]
            exact hcs _ _ hj
          · cases hj
        split at hop
        · -- closed
          cases hop
          have hv' : u1 = .slice (some ⟨B, d + p, none⟩) len cap := by rw [hv]; rfl
          have := grow_fresh hi hnm hlt hex hd hinf hz hzs hv' holdc hcn (hread w.drew rfl cap) (hsrc g3 g4) holdl hnr g1 g2 e
          exact this
        · -- open
          split at hop
          rotate_left
          · cases hop
          rename_i s'
          split at hop
          rotate_left
          · cases hop
          rename_i hcond
          obtain ⟨rfl, hend, hlc⟩ := hcond
          cases hop
          have hv' : u1 = .slice (some ⟨B, d + p, none⟩) len (cap + y) := by rw [hv]; rfl
          have hsize := hsz _ rfl
          rcases Nat.lt_or_ge (cap + y) (len + n) with hg2 | hg2
          · -- a new row
            obtain ⟨n1, v1, w1, φ1, q1, q2, q3, q4, q5⟩ := grow_fresh hi hnm hlt hex hd hinf hz hzs hv' holdc hcn (hread w.drew rfl (cap + y)) (hsrc g3 g4) holdl hg2 g1 g2 e
            refine ⟨n1, v1, w1, φ1, q1, q2, q3, q4.less ?_, { q5 with dom := ?_ }⟩
            · intro b1 o1 h1
              simp only [edit] at h1
              rw [T.get_put] at h1 ⊢
              split at h1
              · rename_i e1; rw [if_pos e1]; exact h1
              · rename_i e1; rw [if_neg e1]; rw [T.get_put] at h1
                split at h1
                · cases h1
                · exact h1
            · intro b1 o1 B1 h1 h2
              refine q5.dom b1 o1 B1 ?_ h2
              simp only [edit] at h1
              rw [T.get_put] at h1 ⊢
              split at h1
              · rename_i e1; rw [if_pos e1]; exact h1
              · rename_i e1; rw [if_neg e1]; rw [T.get_put] at h1
                split at h1
                · cases h1
                · exact h1
          · -- behind the old one
            have m1 : (len + n) * inf.size ≤ (cap + y) * inf.size := Nat.mul_le_mul_right _ hg2
            have m2 : (len + n) * inf.size = len * inf.size + n * inf.size := Nat.add_mul ..
            have m3 : (cap + y) * inf.size = cap * inf.size + y * inf.size := Nat.add_mul ..
            have m4 : (len + n) * inf.size + (cap + y - (len + n)) * inf.size = (cap + y) * inf.size := by
              rw [← Nat.add_mul]; congr 1; omega
            have hnl := concL_length hcn
            obtain ⟨cs', hrun, hsize', hget⟩ := r_storeCells (P := C.P) B (d + p + len * inf.size) el' fr new' 0 cs w hcc (by omega) hfr (flatL_one hcn g4)
            have hbn : b ≠ nm := fun e => by subst e; rw [hnm] at hB; cases hB
            have hreach : reach (.cells vs el (some inf.size)) y = some (vs.length + y * inf.size) := rfl
            let w' : World := { w with heap := w.heap.setIfInBounds B (.cells cs' el' fr) }
            have hBlt := hi.rep.lt hg hB
            have r0 : Rep C.P φ (h.put b none) nx w' := by
              refine ⟨?_, ?_, hi.rep.fresh, hi.rep.glob, ?_, ?_⟩
              · intro b1 o1 h1
                rw [T.get_put] at h1
                split at h1
                · cases h1
                · rename_i e1
                  obtain ⟨B1, d1, x1, c1, hB1, hc1, ho1⟩ := hi.rep.obj b1 o1 h1
                  by_cases hBB : B1 = B
                  · subst hBB
                    rw [hcc] at hc1; cases hc1
                    refine ⟨B1, d1, x1, .cells cs' el' fr, hB1, by simp [w', hBlt], objRep_other hreach (hi.rep.inj b b1 _ o1 B1 d y d1 x1 (Ne.symm e1) hg h1 hB hB1) ho1 hsize' ?_⟩
                    intro j hj
                    rw [hget, if_neg]
                    omega
                  · refine ⟨B1, d1, x1, c1, hB1, ?_, ho1⟩
                    simp only [w', Array.getElem?_setIfInBounds]
                    rw [if_neg (fun e => hBB e.symm)]; exact hc1
              · intro b1 b2 o1 o2 B' d1 x1 d2 x2 hne h1 h2 p1 p2
                rw [T.get_put] at h1 h2
                split at h1
                · cases h1
                · split at h2
                  · cases h2
                  · exact hi.rep.inj b1 b2 o1 o2 B' d1 x1 d2 x2 hne h1 h2 p1 p2
              · intro b1 tag data B1 d1 x1 h1 hB1
                rw [T.get_put] at h1
                split at h1
                · cases h1
                · rename_i e1
                  obtain ⟨k1, k2⟩ := hi.rep.opq b1 tag data B1 d1 x1 h1 hB1
                  refine ⟨Opq.loc _ _ _ _ _ _ k1 fun i hi' => ?_, fun i hi' => by simpa [w'] using k2 i hi'⟩
                  simp only [w', Array.getElem?_setIfInBounds]
                  rw [if_neg]
                  rintro rfl
                  exact hi.rep.sep b1 b _ _ B e1 rfl h1 hg ⟨B1, d1, x1, hB1, .inr ⟨rfl, hi'⟩⟩ (Inj.owns_self hB)
              · intro b1 b2 o1 o2 i hne hq h1 h2 p1 p2
                rw [T.get_put] at h1 h2
                split at h1
                · cases h1
                · split at h2
                  · cases h2
                  · exact hi.rep.sep b1 b2 o1 o2 i hne hq h1 h2 p1 p2
            have hle := Inj.le_set (B, d + p, cap + y - (len + n)) hnm
            refine ⟨.value (.slice (some ⟨B, d + p, none⟩) (len + n) (cap + y)), _, w', φ.set nm (B, d + p, cap + y - (len + n)), hex _ _ ?_, .val _, ?_, ?_, ?_⟩
            · rw [hv']
              refine r_append_room hd hkd hinf hln hrn hg2 ?_
              simp only [addr_add]
              exact hrun
            · simp only [conc, Inj.set_same, cond_true, Nat.add_zero]
              congr 2
              omega
            · refine (r0.set hnm hlt (B, d + p, cap + y - (len + n))).add (Inj.set_same ..) (c := .cells cs' el' fr) (by simp [w', hBlt]) ?_ ?_ ?_ rfl
              · refine ⟨⟨_, concL_append (concL_mono hle _ _ holdc) (concL_mono hle _ _ hcn), ?_⟩, ?_, by rw [hsize']; exact hfr⟩
                · have hol : ((lst.drop p).take (len * inf.size)).length = len * inf.size := by rw [concL_length holdc, holdl]
                  intro j v hj
                  rw [List.getElem?_append, hol] at hj
                  rw [hget]
                  split at hj
                  · rename_i hj1
                    rw [if_neg (by omega)]
                    rw [List.getElem?_take, if_pos hj1, List.getElem?_drop] at hj
                    rw [show d + p + j = d + (p + j) from by omega]
                    exact hcs _ _ hj
                  · rename_i hj1
                    have hj2 : j - len * inf.size < new'.length := by
                      rcases Nat.lt_or_ge (j - len * inf.size) new'.length with h | h
                      · exact h
                      · rw [List.getElem?_eq_none h] at hj; cases hj
                    rw [if_pos (by omega)]
                    rw [show d + p + j - (d + p + len * inf.size + 0) = j - len * inf.size from by omega]
                    exact hj
                · intro s hs'
                  cases hs'
                  rw [hsize']
                  simp only [List.length_append, holdl]
                  omega
              · intro b1 o1 d1 x1 hne1 h1 hb1
                rw [Inj.set_ne _ _ hne1] at hb1
                rw [T.get_put] at h1
                split at h1
                · cases h1
                · rename_i e1
                  obtain ⟨k1, k2, hr1, hr2, hdis⟩ := hi.rep.inj b b1 _ o1 B d y d1 x1 (Ne.symm e1) hg h1 hB hb1
                  rw [hreach] at hr1; cases hr1
                  refine ⟨_, k2, rfl, hr2, fun j hj => ?_⟩
                  simp only [List.length_append, holdl] at hj
                  exact hdis j ⟨by omega, by omega, by omega, by omega⟩
              · intro b1 o1 hne h1 hq hw
                rw [Inj.owns_set_ne hne] at hw
                rw [T.get_put] at h1
                split at h1
                · cases h1
                · rename_i e1
                  exact hi.rep.sep b1 b o1 _ B e1 hq h1 hg hw (Inj.owns_self hB)
            · exact {
                ext := fun b1 hb1 => Inj.set_ne _ _ hb1
                os := rfl
                out := rfl
                size := by simp [w']
                frame := by
                  intro j hj hno
                  simp only [w', Array.getElem?_setIfInBounds]
                  rw [if_neg]
                  intro e1
                  exact hno b _ hg (by rw [← e1]; exact Inj.owns_self hB)
                dom := by
                  intro b1 o1 B1 h1 hb1
                  right
                  rw [T.get_put] at h1
                  split at h1
                  · rename_i e1; subst e1; cases h1
                    rw [Inj.owns_blk rfl] at hb1
                    obtain ⟨d1, x1, hB1⟩ := Inj.blk_some hb1
                    rw [Inj.set_same] at hB1; cases hB1
                    exact ⟨b, _, hg, Inj.owns_self hB⟩
                  · rename_i e1
                    have hb2 : φ.owns o1 b1 B1 := by rwa [Inj.owns_set_ne e1] at hb1
                    simp only [edit] at h1
                    rw [T.get_put] at h1
                    split at h1
                    · cases h1
                    · exact ⟨b1, _, h1, hb2⟩ }
  · cases hop

end
end Go.Ax

