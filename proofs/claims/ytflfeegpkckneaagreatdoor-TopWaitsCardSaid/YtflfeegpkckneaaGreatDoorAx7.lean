/- A part of the proof of TopWaits: see the last text of the claim. -/
import Derived.Test.YtflfeegpkckneaaGreatDoorAx6
set_option linter.unusedSectionVars false
set_option linter.unusedSimpArgs false
set_option linter.unusedVariables false
/- The abstract executor: bytes of a string, iterators. -/
namespace Go.Ax
variable [Opq]
section
variable {C : Ctx} {φ : Inj} {h : Heap} {nx nm : Nat} {w : World} {ts : Tmps} {a : Act} {o : Oper}

theorem modify_push {α : Type} (xs : Array α) (c : α) (f : α → α) : (xs.push c).modify xs.size f = xs.push (f c) := by
  apply Array.ext'
  simp only [Array.toList_modify, Array.toList_push]
  apply List.ext_getElem?
  intro i
  rw [List.getElem?_modify, List.getElem?_append, List.getElem?_append]
  simp only [Array.length_toList]
  by_cases h1 : xs.size = i
  · subst h1; simp
  · by_cases h2 : i < xs.size
    · simp [h1, h2]
    · simp only [h1, if_false, h2]
      cases hj : i - xs.size with
      | zero => omega
      | succ k => simp

theorem r_stringToBytes {P : Program} (e : TypeId) (s : ByteArray) : ∃ K : Nat, s.size ≤ K ∧ ∃ arr : Array Value, arr = (s.data.map fun (b : UInt8) => Value.int .u8 b.toNat) ++ Array.replicate (K - s.size) (Value.int .u8 0) ∧
    (Conv.stringToBytes e s).run P w = .ok (.slice (some ⟨w.heap.size, 0, none⟩) s.size K) { w with drawn := w.drawn + 1, heap := w.heap.push (.cells arr e (arr.size, arr.size + 1)) } := by
  have hch : (choose (.appendCap s.size 0 e)).run P w = .ok ((Question.appendCap s.size 0 e).cut (w.tape w.drawn (.appendCap s.size 0 e))) { w with drawn := w.drawn + 1 } := by
    rw [run_choose]
    rfl
  have hK : s.size ≤ (Question.appendCap s.size 0 e).cut (w.tape w.drawn (.appendCap s.size 0 e)) := by
    simp only [Question.cut]; omega
  refine ⟨_, hK, _, rfl, ?_⟩
  unfold Conv.stringToBytes
  simp only [Sem.run_bind, hch, Result.andThen_ok]
  generalize (Question.appendCap s.size 0 e).cut (w.tape w.drawn (.appendCap s.size 0 e)) = K
  generalize (s.data.map fun (b : UInt8) => Value.int .u8 b.toNat) ++ Array.replicate (K - s.size) (Value.int .u8 0) = arr
  simp only [newRow, Sem.run_bind, run_newObj, Result.andThen_ok, Sem.run_pure, markStringish, run_shape]
  have hshape : World.shape? { heap := w.heap.push (.cells arr e), tape := w.tape, drawn := w.drawn + 1, os := w.os, output := w.output } w.heap.size = some (e, arr.size) := by
    simp [World.shape?]
  rw [hshape]
  simp only [run_freeze, Result.andThen_ok]
  unfold World.freeze
  rw [if_neg (by omega)]
  simp only [modify_push]
  simp

theorem s_bytesOf (hi : In C φ h nx w ts a) (hn : φ nm = none) (hlt : nm < nx) {s d : TypeId} {x : Operand} (ho : o.op = .convert s d x) {e : TypeId} {y : Opd} {r : Res}
    (hc : compOp? C.P o = some (.bytesOf e y)) (hop : op0 C (.bytesOf e y) nm ts h = some r) : OpPost C φ h nx w nm a o r := by
  simp only [compOp?, ho] at hc
  split at hc
  · cases hc
  · cases hc
  · rename_i x' e' hxx hs hd
    split at hc
    · rename_i he
      cases hc
      have h1 := hi.opd hxx
      simp only [op0] at hop
      split at hop
      · rename_i str hstr
        cases hop
        rw [hstr] at h1
        have hsz : (⟨str.toArray⟩ : ByteArray).size = str.length := by simp [ByteArray.size]
        obtain ⟨K, hK, arr, harr0, hsb⟩ := r_stringToBytes (P := C.P) (w := w) e ⟨str.toArray⟩
        rw [hsz] at hsb hK harr0
        have harr : arr.size = K := by rw [harr0]; simp; omega
        have hrun : (execOp a.eval o).run C.P w = .ok (.value (.slice (some ⟨w.heap.size, 0, none⟩) str.length K)) { w with drawn := w.drawn + 1, heap := w.heap.push (.cells arr e (arr.size, arr.size + 1)) } := by
          simp only [execOp, ho, conc_str h1, convert, Sem.run_bind, r_underlying hs, r_underlying hd, Result.andThen_ok, r_underlying he, hsb]
          rfl
        have hle := Inj.le_set (w.heap.size, 0, K - str.length) hn
        refine fresh_block' hi hn hlt (K - str.length) hrun (c := .cells arr e (arr.size, arr.size + 1)) rfl rfl rfl (.val _) ?_ ?_
        · simp only [conc, Inj.set_same, cond_true]
          congr 2
          omega
        · refine ⟨⟨str.map fun b => .int .u8 b.toNat, strBytes_sound str, ?_⟩, ?_, ?_⟩
          · intro j v hj
            have hjl : j < str.length := by
              rcases Nat.lt_or_ge j str.length with h | h
              · exact h
              · rw [List.getElem?_eq_none (by simpa using h)] at hj; cases hj
            rw [Nat.zero_add]
            rw [harr0, Array.getElem?_append_left (by simpa using hjl)]
            simpa using hj
          · intro s hs'
            cases hs'
            rw [harr]
            simp [strBytes]
            omega
          · intro j hj hh
            simp only at hh
            omega
      · rename_i cs0 hstr
        cases hop
        rw [hstr] at h1
        obtain ⟨str, hcl0, hln, hval⟩ := conc_sstr' h1
        rw [← hln]
        have hsz : (⟨str.toArray⟩ : ByteArray).size = str.length := by simp [ByteArray.size]
        obtain ⟨K, hK, arr, harr0, hsb⟩ := r_stringToBytes (P := C.P) (w := w) e ⟨str.toArray⟩
        rw [hsz] at hsb hK harr0
        have harr : arr.size = K := by rw [harr0]; simp; omega
        have hrun : (execOp a.eval o).run C.P w = .ok (.value (.slice (some ⟨w.heap.size, 0, none⟩) str.length K)) { w with drawn := w.drawn + 1, heap := w.heap.push (.cells arr e (arr.size, arr.size + 1)) } := by
          simp only [execOp, ho, hval, convert, Sem.run_bind, r_underlying hs, r_underlying hd, Result.andThen_ok, r_underlying he, hsb]
          rfl
        have hle := Inj.le_set (w.heap.size, 0, K - str.length) hn
        refine fresh_block' hi hn hlt (K - str.length) hrun (c := .cells arr e (arr.size, arr.size + 1)) rfl rfl rfl (.val _) ?_ ?_
        · simp only [conc, Inj.set_same, cond_true]
          congr 2
          omega
        · refine ⟨⟨str.map fun b => .int .u8 b.toNat, by rw [← concL_mono hle _ _ hcl0], ?_⟩, ?_, ?_⟩
          · intro j v hj
            have hjl : j < str.length := by
              rcases Nat.lt_or_ge j str.length with h | h
              · exact h
              · rw [List.getElem?_eq_none (by simpa using h)] at hj; cases hj
            rw [Nat.zero_add]
            rw [harr0, Array.getElem?_append_left (by simpa using hjl)]
            simpa using hj
          · intro s hs'
            cases hs'
            rw [harr]
            rw [← hln]
            omega
          · intro j hj hh
            simp only at hh
            omega
      · cases hop
    · cases hc
  · split at hc
    · cases hc
    · cases hc
  · cases hc

theorem s_range (hi : In C φ h nx w ts a) (hn : φ nm = none) (hlt : nm < nx) {t : TypeId} {x : Operand} (ho : o.op = .range t x) {ao : AOp} {r : Res}
    (hc : compOp? C.P o = some ao) (hop : op0 C ao nm ts h = some r) : OpPost C φ h nx w nm a o r := by
  simp only [compOp?, ho] at hc
  split at hc
  · rename_i kt e y hd hx
    cases hc
    have h1 := hi.opd hx
    simp only [op0] at hop
    split at hop
    · rename_i hs
      cases hop
      rw [hs] at h1
      refine fresh_block hi hn hlt 0 (c := .mapIter none 0 #[] 0) (v' := .pointer (some ⟨w.heap.size, 0, none⟩)) ?_ (.val _) (by simp only [conc, Inj.set_same]) ⟨rfl, rfl, rfl, rfl, rfl⟩
      simp [execOp, ho, Instr.range, r_underlying hd, conc_nilmap h1]
    · rename_i q hs
      rw [hs] at h1
      obtain ⟨B, dd, z, hB, hv⟩ := conc_map h1
      split at hop
      · rename_i es ck hg
        cases hop
        obtain ⟨B', d', z', ms, hB', hmc, hes⟩ := hi.rep.mapObj hg
        rw [hB] at hB'; cases hB'
        have hgo : (getObj B).run C.P w = .ok (.map ms ck) w := r_getObj hmc rfl
        refine fresh_block hi hn hlt 0 (c := .mapIter (some B) ck #[] ck) (v' := .pointer (some ⟨w.heap.size, 0, none⟩)) ?_ (.val _) (by simp only [conc, Inj.set_same]) ⟨rfl, ?_, rfl, rfl, rfl⟩
        · simp [execOp, ho, Instr.range, r_underlying hd, hv, hgo]
        · have := Inj.le_set (w.heap.size, 0, 0) hn _ _ hB
          simp only [concM, this]
      · cases hop
    · cases hop
  · rename_i y hd hx
    cases hc
    have h1 := hi.opd hx
    simp only [op0] at hop
    split at hop
    · rename_i s hs
      cases hop
      rw [hs] at h1
      refine fresh_block hi hn hlt 0 (c := .stringIter ⟨s.toArray⟩ 0) (v' := .pointer (some ⟨w.heap.size, 0, none⟩)) ?_ (.val _) (by simp only [conc, Inj.set_same]) ⟨rfl, rfl, rfl⟩
      simp [execOp, ho, Instr.range, r_underlying hd, conc_str h1]
    · cases hop
  · cases hc

theorem concE_filter {φ : Inj} (p : Nat → Bool) : ∀ {l : List (AV × AV × Nat)} {r : List MapEntry}, concE φ l = some r → concE φ (l.filter fun e => p e.2.2) = some (r.filter fun m => p m.born)
  | [], r, h => by simp only [concE] at h; cases h; rfl
  | (a, b, c) :: l, r, h => by
    obtain ⟨a', b', l', ha, hb, hl, rfl⟩ := concE_cons h
    have ih := concE_filter p hl
    simp only [List.filter_cons]
    cases hp : p c
    · simpa using ih
    · simpa using concE_mk ha hb ih

theorem concE_all {φ : Inj} (p : Nat → Bool) : ∀ {l : List (AV × AV × Nat)} {r : List MapEntry}, concE φ l = some r → (l.all fun e => p e.2.2) = r.all fun m => p m.born
  | [], r, h => by simp only [concE] at h; cases h; rfl
  | (a, b, c) :: l, r, h => by
    obtain ⟨a', b', l', ha, hb, hl, rfl⟩ := concE_cons h
    simp [concE_all p hl]

theorem concE_find {φ : Inj} (p : Nat → Bool) : ∀ {l : List (AV × AV × Nat)} {r : List MapEntry}, concE φ l = some r → ∀ {e : AV × AV × Nat}, l.find? (fun e => p e.2.2) = some e →
    ∃ m, r.find? (fun m => p m.born) = some m ∧ conc φ e.1 = some m.key ∧ conc φ e.2.1 = some m.val
  | [], r, h, e, hf => by simp at hf
  | (a, b, c) :: l, r, h, e, hf => by
    obtain ⟨a', b', l', ha, hb, hl, rfl⟩ := concE_cons h
    simp only [List.find?_cons] at hf ⊢
    cases hp : p c
    · simp only [hp] at hf
      exact concE_find p hl hf
    · simp only [hp] at hf
      cases hf
      exact ⟨_, rfl, ha, hb⟩

theorem s_next (hi : In C φ h nx w ts a) {x : Operand} {isS : Bool} (ho : o.op = .next x isS) {ao : AOp} {r : Res}
    (hc : compOp? C.P o = some ao) (hop : op0 C ao nm ts h = some r) : OpPost C φ h nx w nm a o r := by
  cases isS with
  | true =>
    simp only [compOp?, ho] at hc
    split at hc
    · rename_i y hx
      cases hc
      have h1 := hi.opd hx
      simp only [op0] at hop
      split at hop
      · rename_i q hs
        rw [hs] at h1
        obtain ⟨B, d, z, hB, hv⟩ := conc_ptr h1
        split at hop
        · rename_i s pos hg
          obtain ⟨B', d', z', c, hB', hcc, hobj⟩ := hi.rep.obj q _ hg
          rw [hB] at hB'; cases hB'
          cases c <;> simp only [objRep] at hobj
          rename_i s' pos'
          obtain ⟨rfl, rfl, rfl⟩ := hobj
          have hgo : (getObj B).run C.P w = .ok (.stringIter ⟨s.toArray⟩ pos') w := r_getObj hcc rfl
          have hsz : (⟨s.toArray⟩ : ByteArray).size = s.length := by simp [ByteArray.size]
          split at hop
          · rename_i hlt
            cases hop
            obtain ⟨hrep, heff⟩ := obj_write hi.rep (c' := .stringIter ⟨s.toArray⟩ (pos' + (Utf8.decode ⟨s.toArray⟩ pos').2)) (ob' := .strIter s (pos' + (Utf8.decode ⟨s.toArray⟩ pos').2)) hg hB rfl ⟨rfl, rfl, rfl⟩
            refine ⟨_, .tuple #[.bool true, .int .i64 pos', .int .i32 (Utf8.decode ⟨s.toArray⟩ pos').1], _, ?_, .val _, rfl, hrep, heff nm⟩
            simp only [execOp, ho, hv, Instr.next, Nat.zero_add, Nat.add_zero, Sem.run_bind, hgo, Result.andThen_ok, hsz]
            rw [if_pos hlt]
            simp only [Sem.run_bind, r_setObj _ hcc rfl, Result.andThen_ok, Sem.run_pure, goInt]
          · rename_i hge
            cases hop
            refine Vals.mk' rfl ?_
            simp only [execOp, ho, hv, Instr.next, Nat.zero_add, Nat.add_zero, Sem.run_bind, hgo, Result.andThen_ok, hsz]
            rw [if_neg hge]
            rfl
        · cases hop
      · cases hop
    · cases hc
  | false =>
    simp only [compOp?, ho] at hc
    split at hc
    · rename_i y hx
      cases hc
      have h1 := hi.opd hx
      simp only [op0] at hop
      split at hop
      · rename_i q hs
        rw [hs] at h1
        obtain ⟨B, d, z, hB, hv⟩ := conc_ptr h1
        split at hop
        · rename_i since seen st hg
          cases hop
          obtain ⟨B', d', z', c, hB', hcc, hobj⟩ := hi.rep.obj q _ hg
          rw [hB] at hB'; cases hB'
          cases c <;> simp only [objRep] at hobj
          obtain ⟨rfl, hm, rfl, hseen, rfl⟩ := hobj
          simp only [concM] at hm; cases hm
          refine Vals.mk' rfl ?_
          simp only [execOp, ho, hv, Instr.next, Nat.zero_add, Nat.add_zero, Sem.run_bind, r_getObj hcc rfl, Result.andThen_ok]
          rfl
        · rename_i m since seen last hg
          obtain ⟨B', d', z', c, hB', hcc, hobj⟩ := hi.rep.obj q _ hg
          rw [hB] at hB'; cases hB'
          cases c <;> simp only [objRep] at hobj
          rename_i m' since' seen' last'
          obtain ⟨rfl, hm, rfl, rfl, rfl⟩ := hobj
          simp only [concM] at hm
          split at hm
          rotate_left
          · cases hm
          rename_i Bm dm xm hBm
          cases hm
          split at hop
          · rename_i es clock hgm
            obtain ⟨Bm', dm', xm', ms, hBm', hmc, hes⟩ := hi.rep.mapObj hgm
            rw [hBm] at hBm'; cases hBm'
            split at hop
            · cases hop
            · rename_i hun
              have hfil := concE_filter (fun b => !seen'.toList.contains b) hes
              have hf1 := concE_filter (fun b => decide (b < since')) hfil
              have hf2 := concE_filter (fun b => decide (b ≥ since')) hfil
              have hun' : (!seen'.isEmpty && !ms.isEmpty && ms.all (fun e => decide (e.born ≥ last'))) = false := by
                have e1 := concE_all (fun b => decide (b ≥ last')) hes
                have e2 : es.isEmpty = ms.isEmpty := by
                  have := concE_length hes
                  simp only [Array.length_toList] at this
                  rw [Bool.eq_iff_iff]; simp [List.isEmpty_iff, Array.isEmpty_iff]
                  constructor
                  · intro e; subst e; simpa using this
                  · intro e; subst e; simpa using this.symm
                have e3 : seen'.toList.isEmpty = seen'.isEmpty := by simp
                rw [← Array.all_toList, ← e1, ← e2, ← e3]
                exact Bool.eq_false_iff.2 hun
              have hl1 : ((ms.filter fun e => !seen'.contains e.born).filter fun e => decide (e.born < since')).toList = (ms.toList.filter fun m => !seen'.toList.contains m.born).filter fun m => decide (m.born < since') := by
                simp
              have hl2 : ((ms.filter fun e => !seen'.contains e.born).filter fun e => decide (e.born ≥ since')).toList = (ms.toList.filter fun m => !seen'.toList.contains m.born).filter fun m => decide (m.born ≥ since') := by
                simp
              split at hop
              · rename_i g1 g2
                cases hop
                rw [g1] at hf1; rw [g2] at hf2
                simp only [concE, Option.some.injEq] at hf1 hf2
                have k1 : ((ms.filter fun e => !seen'.contains e.born).filter fun e => decide (e.born < since')) = #[] := by
                  apply Array.ext'; rw [hl1, ← hf1]
                have k2 : ((ms.filter fun e => !seen'.contains e.born).filter fun e => decide (e.born ≥ since')) = #[] := by
                  apply Array.ext'; rw [hl2, ← hf2]
                refine Vals.mk' rfl ?_
                simp only [execOp, ho, hv, Instr.next, Nat.zero_add, Nat.add_zero, Sem.run_bind, r_getObj hcc rfl, r_getObj hmc rfl, Result.andThen_ok, hun', Bool.false_eq_true, if_false, k1, k2]
                have hch : ∀ w, (choose (.mapNext 1)).run C.P w = .ok 0 w := fun w => by rw [run_choose]; rfl
                simp [hch]
              · rename_i e0 g1 g2
                cases hop
                rw [g1] at hf1; rw [g2] at hf2
                obtain ⟨k0, v0, b0⟩ := e0
                obtain ⟨k0', v0', l0', hk0, hv0, hl0, he0⟩ := concE_cons hf1
                simp only [concE, Option.some.injEq] at hl0 hf2
                subst hl0
                have k1 : ((ms.filter fun e => !seen'.contains e.born).filter fun e => decide (e.born < since')) = #[{ key := k0', val := v0', born := b0 }] := by
                  apply Array.ext'; rw [hl1, he0]
                have k2 : ((ms.filter fun e => !seen'.contains e.born).filter fun e => decide (e.born ≥ since')) = #[] := by
                  apply Array.ext'; rw [hl2, ← hf2]
                obtain ⟨hrep, heff⟩ := obj_write hi.rep (c' := .mapIter (some Bm) since' (seen'.push b0) clock) (ob' := .mapIter (some m) since' (seen'.toList ++ [b0]) clock) hg hB rfl
                  ⟨rfl, by simp only [concM, hBm], rfl, by simp, rfl⟩
                refine ⟨_, .tuple #[.bool true, k0', v0'], _, ?_, .val _, by simp only [conc, concL, hk0, hv0], hrep, heff nm⟩
                simp only [execOp, ho, hv, Instr.next, Nat.zero_add, Nat.add_zero, Sem.run_bind, r_getObj hcc rfl, r_getObj hmc rfl, Result.andThen_ok, hun', Bool.false_eq_true, if_false, k1, k2]
                have hch : ∀ w, (choose (.mapNext 1)).run C.P w = .ok 0 w := fun w => by rw [run_choose]; rfl
                simp [hch, r_setObj _ hcc rfl]
              · cases hop
          · cases hop
        · cases hop
      · cases hop
    · cases hc

theorem s_entry (hi : In C φ h nx w ts a) {x : Operand} (ho : o.op = .entry x) {ao : AOp} {r : Res}
    (hc : compOp? C.P o = some ao) (hop : op0 C ao nm ts h = some r) : OpPost C φ h nx w nm a o r := by
  simp only [compOp?, ho] at hc
  split at hc
  · rename_i y hx
    cases hc
    have h1 := hi.opd hx
    simp only [op0] at hop
    split at hop
    · rename_i q hs
      rw [hs] at h1
      obtain ⟨B, d, z, hB, hv⟩ := conc_ptr h1
      split at hop
      · rename_i m since seen st hg
        obtain ⟨B', d', z', c, hB', hcc, hobj⟩ := hi.rep.obj q _ hg
        rw [hB] at hB'; cases hB'
        cases c <;> simp only [objRep] at hobj
        rename_i m' since' seen' st'
        obtain ⟨rfl, hm, rfl, rfl, rfl⟩ := hobj
        simp only [concM] at hm
        split at hm
        rotate_left
        · cases hm
        rename_i Bm dm xm hBm
        cases hm
        split at hop
        · rename_i stamp es clock hst hgm
          obtain ⟨Bm', dm', xm', ms, hBm', hmc, hes⟩ := hi.rep.mapObj hgm
          rw [hBm] at hBm'; cases hBm'
          split at hop
          · rename_i hck
            subst hck
            split at hop
            · rename_i e0 hfind
              cases hop
              obtain ⟨m0, hm0, hk0, hv0⟩ := concE_find (fun b => b == stamp) hes hfind
              have hback : seen'.back? = some stamp := by simpa using hst
              have hmf : ms.find? (fun e => e.born == stamp) = some m0 := by rw [← Array.find?_toList]; exact hm0
              refine Vals.mk' (v' := .tuple #[m0.key, m0.val]) (by simp only [conc, concL, hk0, hv0]) ?_
              simp only [execOp, ho, hv, Instr.entry, Nat.zero_add, Nat.add_zero, Sem.run_bind, r_getObj hcc rfl, r_getObj hmc rfl, Result.andThen_ok, hback, hmf]
              simp
            · cases hop
          · cases hop
        · cases hop
      · cases hop
    · cases hop
  · cases hc

end
end Go.Ax

/- The abstract executor: calls; any operation. -/
namespace Go.Ax
variable [Opq]
section
variable {C : Ctx} {φ : Inj} {h : Heap} {nx nm : Nat} {w : World} {ts : Tmps} {a : Act} {o : Oper}

theorem callFn_sound (hC : C.Ok) {f : FuncId} {args : List AV} {r : Res} (hr : callFn C f args = some r) {args' : List Value} (ha : concL φ args = some args')
    (hrun : (execOp a.eval o).run C.P w = (callFunc f args'.toArray).run C.P w) : OpPost C φ h nx w nm a o r := by
  unfold callFn at hr
  cases hb : C.bodies.testBit f with
  | true =>
    rw [hb] at hr
    cases hr
    exact ⟨args'.toArray, by rw [hrun]; exact hC.enter f hb _ w, by simpa using ha⟩
  | false =>
    rw [hb] at hr
    simp only [cond_false] at hr
    split at hr
    · rename_i g hg
      obtain ⟨v, hv, rfl⟩ := qO_some hr
      obtain ⟨v', hcv, hw⟩ := hC.ext f g hg hb args v hv φ args' ha
      exact ⟨_, v', by rw [hrun]; exact hw w, .val _, hcv⟩
    · cases hr

theorem comp_call {c : Call} (ho : o.op = .call c) {ao : AOp} (hc : compOp? C.P o = some ao) : ∃ args, opds C.P c.args.toList = some args := by
  simp only [compOp?, ho] at hc
  split at hc
  · cases hc
  · rename_i args ha; exact ⟨args, ha⟩

theorem s_callF (hC : C.Ok) (hi : In C φ h nx w ts a) {c : Call} (ho : o.op = .call c) {f : FuncId} (hb : c.callee = .value (.func f)) {ao : AOp} {r : Res}
    (hc : compOp? C.P o = some ao) (hop : op0 C ao nm ts h = some r) : OpPost C φ h nx w nm a o r := by
  simp only [compOp?, ho] at hc
  split at hc
  · cases hc
  · rename_i args ha
    rw [hb] at hc
    cases hc
    simp only [op0] at hop
    refine callFn_sound hC hop (hi.opds ha) ?_
    simp only [execOp, ho, resolve, hb, Act.eval, Deferred.ofValue, pure_bind, invoke]
    congr 2
    apply Array.ext'
    simp

theorem s_callV (hC : C.Ok) (hi : In C φ h nx w ts a) {c : Call} (ho : o.op = .call c) {x : Operand} (hb : c.callee = .value x) (hx : ∀ f, x ≠ .func f) {ao : AOp} {r : Res}
    (hc : compOp? C.P o = some ao) (hop : op0 C ao nm ts h = some r) : OpPost C φ h nx w nm a o r := by
  simp only [compOp?, ho] at hc
  split at hc
  · cases hc
  · rename_i args ha
    rw [hb] at hc
    have hc' : ∃ y, opd C.P x = some y ∧ ao = .callV y args := by
      cases x with
      | func f => exact absurd rfl (hx f)
      | _ =>
        simp only at hc
        split at hc
        · rename_i y hy; cases hc; exact ⟨y, hy, rfl⟩
        · cases hc
    obtain ⟨y, hy, rfl⟩ := hc'
    have hv := hi.opd hy
    have hargs := hi.opds ha
    simp only [op0] at hop
    unfold callOf at hop
    split at hop
    · rename_i f first captured hs
      rw [hs] at hv
      obtain ⟨fn', first', captured', hf, h1, h2, hval⟩ := conc_func hv
      cases hf
      refine callFn_sound hC hop (concL_append h1 (concL_append hargs h2)) ?_
      simp only [execOp, ho, resolve, hb, hval, Deferred.ofValue, pure_bind, invoke]
      congr 2
      apply Array.ext'
      simp
    · rename_i l first captured hs
      cases hop
      rw [hs] at hv
      obtain ⟨fn', first', captured', hf, h1, h2, hval⟩ := conc_func hv
      simp only [concFn] at hf
      split at hf
      · rename_i B d z hB
        cases hf
        refine ⟨B, d, z, first'.toArray ++ c.args.map a.eval, hB, ?_, ?_⟩
        · simp only [execOp, ho, resolve, hb, hval, Deferred.ofValue, pure_bind, invoke]
        · simpa using concL_append h1 hargs
      · cases hf
    · cases hop

theorem method_sound {P : Program} {t : TypeId} {name : String} {f : FuncId} {q : Option (Bool × Nat)} (hm : methodA P t name = some (f, q)) (hr : Rep P φ h nx w) {v : AV} {v' : Value} (hv : conc φ v = some v') :
    ∀ rv : AV, (match q with | none => some v | some (g, n) => loadA h g n v) = some rv → ∃ rv', conc φ rv = some rv' ∧ ∀ fuel, (method (fuel + 1) t v' name).run P w = .ok (f, rv') w := by
  intro rv hrv
  unfold methodA at hm
  split at hm
  · cases hm
  rename_i i hinf
  split at hm
  · cases hm
  rename_i m hfind
  split at hm
  rotate_left
  · cases hm
  rename_i hpath
  have hfind' : i.methods.find? (fun x => x.name == name) = some m := by rw [← Array.find?_toList]; exact hfind
  have hpl : m.path.toList = [] := by
    have : m.path = #[] := Array.eq_empty_of_size_eq_zero hpath
    rw [this]
  split at hm
  · rename_i f' d hfn hd
    cases hm
    simp only at hrv; cases hrv
    refine ⟨v', hv, fun fuel => ?_⟩
    simp only [method, Sem.run_bind, r_typeInfo hinf, Result.andThen_ok, hfind', hpl, follow, Sem.run_pure, hfn, receiverAt, r_underlying hd, Place.get]
  · cases hm
  · rename_i f' e hfn hd
    split at hm
    · rename_i g n hg hn
      cases hm
      simp only at hrv
      obtain ⟨B, o', cs, el, fr, rv', hu, hcc, hcv, g1, g2⟩ := loadA_sound hr hrv hv
      subst hu
      refine ⟨rv', hcv, fun fuel => ?_⟩
      have hload := r_loadVar (w := w) hg hn hcc g1 g2
      have hwrap : ∀ (ats : Array TypeId) (ty : TypeId) (p : Addr) (s m : ByteArray), Builtin.ssaWrapNilChk_ ats ty #[.pointer (some p), .string s, .string m] = pure (.pointer (some p)) := fun _ _ _ _ _ => rfl
      have hpe : m.path.isEmpty = true := by
        have : m.path = #[] := Array.eq_empty_of_size_eq_zero hpath
        rw [this]; rfl
      simp only [method, Sem.run_bind, r_typeInfo hinf, Result.andThen_ok, hfind', hpl, follow, Sem.run_pure, hfn, receiverAt, r_underlying hd, Place.get, hpe, if_true, hwrap, strVal, asAddr, hload]
    · cases hm
  · rename_i f' d hno hfn hd
    cases hm
    simp only at hrv; cases hrv
    refine ⟨v', hv, fun fuel => ?_⟩
    simp only [method, Sem.run_bind, r_typeInfo hinf, Result.andThen_ok, hfind', hpl, follow, Sem.run_pure, hfn, receiverAt, r_underlying hd]
    cases d <;> first
      | (exact absurd rfl (hno _))
      | simp [Place.get]
  · cases hm

theorem s_callI (hC : C.Ok) (hi : In C φ h nx w ts a) {c : Call} (ho : o.op = .call c) {x : Operand} {name : String} (hb : c.callee = .invoke x name) {ao : AOp} {r : Res}
    (hc : compOp? C.P o = some ao) (hop : op0 C ao nm ts h = some r) : OpPost C φ h nx w nm a o r := by
  simp only [compOp?, ho] at hc
  split at hc
  · cases hc
  · rename_i args ha
    rw [hb] at hc
    simp only at hc
    split at hc
    · rename_i y hy
      cases hc
      have hv := hi.opd hy
      have hargs := hi.opds ha
      simp only [op0] at hop
      split at hop
      · rename_i t v hs
        rw [hs] at hv
        obtain ⟨v', hv', hu⟩ := conc_iface hv
        have fin : ∀ (f : FuncId) (rv : AV) (rv' : Value), conc φ rv = some rv' → (∀ fuel, (method (fuel + 1) t v' name).run C.P w = .ok (f, rv') w) → callFn C f (rv :: evL ts args) = some r → OpPost C φ h nx w nm a o r := by
          intro f rv rv' hrv hm hcall
          refine callFn_sound hC hcall (concL_cons_mk hrv hargs) ?_
          simp only [execOp, ho, resolve, hb, pure_bind, invoke]
          have h0 : (#[a.eval x] ++ c.args.map a.eval)[0]? = some (.iface t v') := by
            rw [hu, Array.getElem?_append_left (by simp)]; rfl
          have h1 : (#[a.eval x] ++ c.args.map a.eval).extract 1 (#[a.eval x] ++ c.args.map a.eval).size = c.args.map a.eval := by
            apply Array.ext'
            have e : (#[a.eval x] ++ c.args.map a.eval).toList = a.eval x :: (c.args.map a.eval).toList := by simp
            rw [Array.toList_extract, e, List.extract_eq_take_drop]
            simp only [List.drop_succ_cons, List.drop_zero]
            apply List.take_of_length_le
            simp
          rw [h0]
          simp only [h1, callMethod, Sem.run_bind, run_program, Result.andThen_ok]
          have hfuel : C.P.types.size + Made.depth = (C.P.types.size + (Made.depth - 1)) + 1 := by unfold Made.depth; omega
          rw [hfuel, hm]
          simp only [Result.andThen_ok]
          congr 2
          apply Array.ext'
          simp
        split at hop
        · rename_i f hm
          obtain ⟨rv', h1, h2⟩ := method_sound hm hi.rep hv' v rfl
          exact fin f v rv' h1 h2 hop
        · rename_i f g n hm
          split at hop
          · rename_i rv hl
            obtain ⟨rv', h1, h2⟩ := method_sound hm hi.rep hv' rv hl
            exact fin f rv rv' h1 h2 hop
          · cases hop
        · cases hop
      · cases hop
    · cases hc

theorem s_defer (hi : In C φ h nx w ts a) {c : Call} (ho : o.op = .defer c) {ao : AOp} {r : Res}
    (hc : compOp? C.P o = some ao) (hop : op0 C ao nm ts h = some r) : OpPost C φ h nx w nm a o r := by
  simp only [compOp?, ho] at hc
  split at hc
  · rename_i x args hb ha
    split at hc
    · rename_i y hy
      cases hc
      have hv := hi.opd hy
      have hargs := hi.opds ha
      simp only [op0] at hop
      split at hop
      · rename_i fn first captured hs
        cases hop
        rw [hs] at hv
        obtain ⟨fn', first', captured', hf, h1, h2, hval⟩ := conc_func hv
        refine ⟨fn', captured', _, hf, h2, concL_append h1 hargs, fun w' => ?_⟩
        simp only [execOp, ho, resolve, hb, hval, Deferred.ofValue, pure_bind, Sem.run_pure]
        congr 3
        apply Array.ext'
        simp
      · cases hop
    · cases hc
  · cases hc

/-- any operation -/
theorem op0_sound (hC : C.Ok) (hi : In C φ h nx w ts a) (hn : φ nm = none) (hlt : nm < nx) {r : Res} (hop : op0 C (compOp C.P o) nm ts h = some r) : OpPost C φ h nx w nm a o r := by
  unfold compOp at hop
  split at hop
  rotate_left
  · simp [op0] at hop
  rename_i ao hc
  cases hop' : o.op with
  | move x => exact s_move hi (.inl hop') hc hop
  | assign x => exact s_move hi (.inr hop') hc hop
  | pick c x y => exact s_pick hi hop' hc hop
  | alloc t => exact s_alloc hi hn hlt hop' hc hop
  | box t x => exact s_box hi hn hlt hop' hc hop
  | build t ps => exact s_build hC hi hop' hc hop
  | buildSlice t n ps => exact s_buildSlice hi hn hlt hop' hc hop
  | insert t x k y => exact s_mapUpdate hi (.inr hop') hc hop
  | load t x => exact s_load hi hop' hc hop
  | store t x y => exact s_store hi hop' hc hop
  | nilCheck x => exact s_nilCheck hi hop' hc hop
  | binOp op t x y t' => exact s_bin hi hop' hc hop
  | unOp op t x => exact s_un hi hop' hc hop
  | convert s d x =>
    by_cases hb : ∃ e y, ao = .bytesOf e y
    · obtain ⟨e, y, rfl⟩ := hb
      exact s_bytesOf hi hn hlt hop' hc hop
    · exact s_convert hi hop' hc hop (fun e y he => hb ⟨e, y, he⟩)
  | sliceToArrayPointer t x => exact s_s2a hi hop' hc hop
  | makeInterface t x => exact s_iface hi hop' hc hop
  | makeFunc fn x y =>
    exact s_func hi hop' hc hop
  | makeMap t y => exact s_makeMap hi hn hlt hop' hc hop
  | makeSlice t l c => exact s_makeSlice hi hn hlt hop' hc hop
  | slice t x lo hi' mx => exact s_slice hi hn hlt hop' hc hop
  | fieldAddr t x f => exact s_fieldAddr hi hop' hc hop
  | field t x f => exact s_field hi hop' hc hop
  | indexAddr t x i => exact s_indexAddr hi hop' hc hop
  | index t x i => exact s_index hi hop' hc hop
  | lookup t x k ok => exact s_lookup hi hop' hc hop
  | mapUpdate t x k y => exact s_mapUpdate hi (.inl hop') hc hop
  | range t x => exact s_range hi hn hlt hop' hc hop
  | next x b => exact s_next hi hop' hc hop
  | entry x => exact s_entry hi hop' hc hop
  | typeAssert x s t ok => exact s_assert hi hop' hc hop
  | extract x i => exact s_extract hi hop' hc hop
  | call c =>
    cases hb : c.callee with
    | builtin b =>
      cases b with
      | len => exact s_len hi hop' hb hc hop
      | append => exact s_append hi hn hlt hop' hb hc hop
      | copy => exact s_copy hi hop' hb hc hop
      | delete => exact s_delete hi hop' hb hc hop
      | clear => exact s_clear hi hop' hb hc hop
      | max => exact s_minmax (b := true) hi hop' hb hc hop
      | min => exact s_minmax (b := false) hi hop' hb hc hop
      | _ =>
        obtain ⟨args, _, hc'⟩ := comp_builtin hop' hb hc
        simp [compBuiltin] at hc'
    | value x =>
      by_cases hx : ∃ f, x = .func f
      · obtain ⟨f, rfl⟩ := hx; exact s_callF hC hi hop' hb hc hop
      · exact s_callV hC hi hop' hb (fun f e => hx ⟨f, e⟩) hc hop
    | invoke x name => exact s_callI hC hi hop' hb hc hop
  | defer c => exact s_defer hi hop' hc hop
  | _ => simp [compOp?, hop'] at hc

theorem op1_sound (hC : C.Ok) (hi : In C φ h nx w ts a) (hn : φ nm = none) (hlt : nm < nx) {r : Res} (hop : op1 C (compOp C.P o) nm ts h = some r) : OpPost C φ h nx w nm a o r := by
  unfold op1 at hop
  cases h0 : op0 C (compOp C.P o) nm ts h with
  | none => rw [h0] at hop; cases hop
  | some r0 =>
    have hp := op0_sound hC hi hn hlt h0
    rw [h0] at hop
    cases r0 with
    | q v =>
      simp only [norm] at hop
      cases hop
      obtain ⟨n, v', h1, h2, h3⟩ := hp
      refine ⟨n, v', h1, h2, ?_⟩
      cases isSym v with
      | false => exact h3
      | true => exact lookF_sound hC.facts h3
    | _ => cases hop; exact hp

end
end Go.Ax

