/- A part of the proof of TopWaits: see the last text of the claim. -/
import Derived.Test.YtflfeegpkckneaaGreatDoorAx4
set_option linter.unusedSectionVars false
set_option linter.unusedSimpArgs false
set_option linter.unusedVariables false
/- The abstract executor: literals, new blocks. -/
namespace Go.Ax
variable [Opq]

/-- each field of a struct type has a size; a function with a body is entered; the others are as told -/
structure Ctx.Ok (C : Ctx) : Prop where
  enter : ∀ f, C.bodies.testBit f = true → ∀ args w, (callFunc f args).run C.P w = .ok (.enter f args) w
  ext : ∀ f g, C.ext f = some g → C.bodies.testBit f = false → ∀ args v, g args = some v → ∀ φ args', concL φ args = some args' →
    ∃ v', conc φ v = some v' ∧ ∀ w, (callFunc f args'.toArray).run C.P w = .ok (.value v') w
  mixed : C.P.follows .mixedOrders = true
  facts : ∀ p ∈ C.facts, ∀ φ v, conc φ p.1 = some v → conc φ p.2 = some v

section
variable {C : Ctx} {φ : Inj} {h : Heap} {nx nm : Nat} {w : World} {ts : Tmps} {a : Act} {o : Oper}

theorem absV_notAny : ∀ {n : Nat} {v : Value} {b : AV}, absV n v = some b → notAny b = true
  | 0, v, b, h => by simp [absV] at h
  | n + 1, v, b, h => by
    simp only [absV] at h
    split at h <;> (try (cases h; rfl)) <;> (try (cases h; done))
    all_goals
      split at h <;> cases h
      rfl

theorem r_mapM {P : Program} {α β : Type} {f : α → Sem β} {g : α → β} : ∀ {l : List α}, (∀ x ∈ l, ∀ w, (f x).run P w = .ok (g x) w) → ∀ w, (l.mapM f).run P w = .ok (l.map g) w
  | [], _, w => by simp
  | x :: l, hx, w => by
    have ih := r_mapM (P := P) (f := f) (g := g) (l := l) (fun y hy => hx y (List.mem_cons_of_mem _ hy)) w
    simp only [List.mapM_cons, Sem.run_bind, hx x (List.mem_cons_self ..) w, Result.andThen_ok, ih, Sem.run_pure, List.map_cons]

theorem zeroCells_sound {P : Program} {t : TypeId} {z : List AV} (hz : zeroCells P t = some z) :
    ∃ z' : Value, (∀ w, (zeroValue t).run P w = .ok z' w) ∧ ∀ φ, concL φ z = some z'.cells.toList := by
  unfold zeroCells at hz
  split at hz
  · rename_i i hi
    split at hz
    · rename_i v hv
      split at hz
      · rename_i b hb
        cases hz
        exact ⟨v, fun w => r_zeroValue hi hv, fun φ => conc_cells (absV_sound _ _ _ hb) (absV_notAny hb)⟩
      · cases hz
    · cases hz
  · cases hz

theorem map_pairs (l : Array (Nat × Operand)) (f : Operand → Value) : (l.map fun (i, x) => (i, f x)).toList = l.toList.map fun p => (p.1, f p.2) := by
  simp

theorem allSized_sound {P : Program} : ∀ {l : List Field}, allSized P l = true → ∀ f ∈ l, (sizeA P f.type).isSome = true
  | [], _, f, hf => by cases hf
  | g :: l, h, f, hf => by
    simp only [allSized] at h
    split at h
    · rename_i n hn
      rcases List.mem_cons.1 hf with e | e
      · subst e; rw [hn]; rfl
      · exact allSized_sound h f e
    · cases h

theorem s_build (hC : C.Ok) (hi : In C φ h nx w ts a) {t : TypeId} {parts : Array (Nat × Operand)} (ho : o.op = .build t parts) {ao : AOp} {r : Res}
    (hc : compOp? C.P o = some ao) (hop : op0 C ao nm ts h = some r) : OpPost C φ h nx w nm a o r := by
  simp only [compOp?, ho] at hc
  split at hc
  · rename_i z fields hz hd
    split at hc
    · rename_i ps hps
      cases hall : allSized C.P fields.toList with
      | false => rw [hall] at hc; cases hc
      | true =>
      rw [hall] at hc
      cases hc
      simp only [op0] at hop
      split at hop
      · rename_i out hf
        cases hop
        obtain ⟨z', hzr, hzc⟩ := zeroCells_sound hz
        obtain ⟨out', hout, hfill⟩ := evParts_sound hi hps z _ out (hzc φ) hf
        refine Vals.mk' (v' := .agg out'.toArray) (by simp only [conc, hout]) ?_
        have hsz : ∀ f ∈ fields.toList, ∃ n, sizeA C.P f.type = some n := fun f hf => Option.isSome_iff_exists.1 (allSized_sound hall f hf)
        have hmap : ∀ w, (fields.mapM fun (f : Field) => (do pure (f.offset, ← sizeOf f.type) : Sem (Nat × Nat))).run C.P w = .ok (fields.map fun f => (f.offset, (sizeA C.P f.type).getD 0)) w := by
          intro w
          rw [Array.mapM_eq_mapM_toList]
          rw [Sem.run_map, r_mapM (g := fun f => (f.offset, (sizeA C.P f.type).getD 0))]
          · simp only [Result.andThen_ok, Result.ok.injEq, and_true]
            apply Array.ext'; simp
          · intro f hf w
            obtain ⟨n, hn⟩ := hsz f hf
            simp [r_sizeOf hn, hn]
        simp only [execOp, ho, Instr.build, Sem.run_bind, hzr, Result.andThen_ok, r_underlying hd, hmap]
        have hplace : (fun x : Nat => (fields.map fun f => (f.offset, (sizeA C.P f.type).getD 0))[x]?) = placeS C.P fields := by
          funext i
          unfold placeS
          rw [Array.getElem?_map]
          cases hfi : fields[i]? with
          | none => rfl
          | some f =>
            have hmem : f ∈ fields.toList := by
              have := Array.mem_of_getElem? hfi
              simpa using this
            obtain ⟨n, hn⟩ := hsz f hmem
            simp [hn]
        rw [hplace, map_pairs]
        simp only [Array.toArray_toList] at hfill
        rw [hfill]
        rfl
      · cases hop
    · cases hc
  · rename_i z len elem hz hd
    split at hc
    · rename_i n hn
      split at hc
      · rename_i ps hps
        cases hc
        simp only [op0] at hop
        split at hop
        · rename_i out hf
          cases hop
          obtain ⟨z', hzr, hzc⟩ := zeroCells_sound hz
          obtain ⟨out', hout, hfill⟩ := evParts_sound hi hps z _ out (hzc φ) hf
          refine Vals.mk' (v' := .agg out'.toArray) (by simp only [conc, hout]) ?_
          simp only [execOp, ho, Instr.build, Sem.run_bind, hzr, Result.andThen_ok, r_underlying hd, r_sizeOf hn]
          rw [map_pairs]
          simp only [Array.toArray_toList] at hfill
          rw [hfill]
          rfl
        · cases hop
      · cases hc
    · cases hc
  · cases hc

/-- cells over and over -/
theorem repeatL_sound : ∀ (n : Nat) {z : List AV} {l : List Value}, concL φ z = some l →
    concL φ (repeatL n z) = some ((List.range (n * l.length)).map fun i => l[i % l.length]!)
  | 0, z, l, hz => by simp [repeatL, concL]
  | n + 1, z, l, hz => by
    simp only [repeatL]
    have ih := repeatL_sound n hz
    rw [concL_append hz ih]
    congr 1
    rw [show (n + 1) * l.length = l.length + n * l.length from by rw [Nat.add_mul, Nat.one_mul, Nat.add_comm], List.range_add, List.map_append]
    congr 1
    · apply List.ext_getElem?
      intro i
      simp only [List.getElem?_map, List.getElem?_range']
      by_cases hi : i < l.length
      · simp [List.getElem?_eq_getElem hi, hi, Nat.mod_eq_of_lt hi]
      · simp [hi]
    · rw [List.map_map]
      apply List.map_congr_left
      intro i _
      simp

theorem repeat_array {z : List AV} {l : List Value} (hz : concL φ z = some l) (n : Nat) {zc : Array Value} (hzc : zc.toList = l) :
    concL φ (repeatL n z) = some ((Array.range (n * zc.size)).map fun i => zc[i % zc.size]!).toList := by
  have hs : zc.size = l.length := by rw [← hzc]; simp
  rw [repeatL_sound n hz, hs]
  congr 1
  rw [Array.toList_map, Array.toList_range]
  apply List.map_congr_left
  intro i _
  subst hzc
  cases hq : zc[i % zc.size]? <;> simp [getElem!_def, hq]

theorem objRep_new {vs : List AV} {l : List Value} (hl : concL φ vs = some l) (el el' : TypeId) (x : Nat) : objRep φ 0 x (.cells vs el none) (.cells l.toArray el') := by
  refine ⟨⟨l, hl, fun i v hv => by simpa using hv⟩, (by intro s hs; cases hs), fun i _ hh => ?_⟩
  simp at hh

theorem s_alloc (hi : In C φ h nx w ts a) (hn : φ nm = none) (hlt : nm < nx) {t : TypeId} (ho : o.op = .alloc t) {ao : AOp} {r : Res}
    (hc : compOp? C.P o = some ao) (hop : op0 C ao nm ts h = some r) : OpPost C φ h nx w nm a o r := by
  simp only [compOp?, ho] at hc
  split at hc
  · rename_i z hz
    cases hc
    simp only [op0] at hop
    cases hop
    obtain ⟨z', hzr, hzc⟩ := zeroCells_sound hz
    refine fresh_block hi hn hlt 0 (c := .cells z'.cells t) (v' := .pointer (some ⟨w.heap.size, 0, none⟩)) ?_ (.val _) (by simp only [conc, Inj.set_same]) ?_
    · simp [execOp, ho, Instr.alloc, hzr, newVar, newRow]
    · have := objRep_new (hzc (φ.set nm (w.heap.size, 0, 0))) t t 0
      simpa using this
  · cases hc

theorem s_box (hi : In C φ h nx w ts a) (hn : φ nm = none) (hlt : nm < nx) {t : TypeId} {x : Operand} (ho : o.op = .box t x) {ao : AOp} {r : Res}
    (hc : compOp? C.P o = some ao) (hop : op0 C ao nm ts h = some r) : OpPost C φ h nx w nm a o r := by
  simp only [compOp?, ho] at hc
  split at hc
  · rename_i y hx
    cases hc
    simp only [op0] at hop
    cases hna : notAny (ev ts y) with
    | false => rw [hna] at hop; cases hop
    | true =>
    rw [hna] at hop
    cases hop
    have hv := conc_cells (conc_mono (Inj.le_set (w.heap.size, 0, 0) hn) _ _ (hi.opd hx)) hna
    refine fresh_block hi hn hlt 0 (c := .cells (a.eval x).cells t) (v' := .pointer (some ⟨w.heap.size, 0, none⟩)) ?_ (.val _) (by simp only [conc, Inj.set_same]) ?_
    · simp [execOp, ho, Instr.box, newVar, newRow]
    · have := objRep_new hv t t 0
      simpa using this
  · cases hc

theorem s_buildSlice (hi : In C φ h nx w ts a) (hn : φ nm = none) (hlt : nm < nx) {t : TypeId} {len : Nat} {parts : Array (Nat × Operand)} (ho : o.op = .buildSlice t len parts) {ao : AOp} {r : Res}
    (hc : compOp? C.P o = some ao) (hop : op0 C ao nm ts h = some r) : OpPost C φ h nx w nm a o r := by
  simp only [compOp?, ho] at hc
  split at hc
  · rename_i elem hd
    split at hc
    · rename_i n z hsz hz
      split at hc
      · rename_i ps hps
        split at hc
        · rename_i hlen
          cases hc
          simp only [op0] at hop
          split at hop
          · rename_i out hf
            split at hop
            · rename_i hzl
              cases hop
              obtain ⟨z', hzr, hzc⟩ := zeroCells_sound hz
              have hzs : z'.cells.size = n := by
                have := concL_length (hzc φ)
                simp only [Array.length_toList] at this; omega
              have hrep := repeat_array (hzc φ) len (zc := z'.cells) rfl
              obtain ⟨out', hout, hfill⟩ := evParts_sound hi hps _ _ out hrep hf
              have hout' := concL_mono (Inj.le_set (w.heap.size, 0, 0) hn) _ _ hout
              refine fresh_block hi hn hlt 0 (c := .cells out'.toArray elem) (v' := .slice (some ⟨w.heap.size, 0, none⟩) len len) ?_ (.val _) (by simp only [conc, Inj.set_same]; simp) (objRep_new hout' elem elem 0)
              simp only [execOp, ho, Instr.buildSlice, Sem.run_bind, r_underlying hd, Result.andThen_ok, r_sizeOf hsz]
              rw [if_neg (by omega)]
              simp only [Array.toArray_toList] at hfill
              by_cases h0 : len * n = 0
              · have hcells : (Array.range (len * n)).map (fun x => (#[] : Array Value)[x % (#[] : Array Value).size]!) = (Array.range (len * z'.cells.size)).map fun i => z'.cells[i % z'.cells.size]! := by
                  rw [hzs]; simp [h0]
                simp only [if_pos h0, Sem.run_bind, Sem.run_pure, Result.andThen_ok, map_pairs]
                rw [hcells, hfill]
                simp [newRow]
              · have hcells : (Array.range (len * n)).map (fun x => z'.cells[x % z'.cells.size]!) = (Array.range (len * z'.cells.size)).map fun i => z'.cells[i % z'.cells.size]! := by
                  rw [hzs]
                simp only [if_neg h0, Sem.run_bind, Sem.run_pure, hzr, Result.andThen_ok, map_pairs]
                rw [hcells, hfill]
                simp [newRow]
            · cases hop
          · cases hop
        · cases hc
      · cases hc
    · cases hc
  · cases hc

theorem s_makeMap (hi : In C φ h nx w ts a) (hn : φ nm = none) (hlt : nm < nx) {t : TypeId} {y : Option Operand} (ho : o.op = .makeMap t y) {ao : AOp} {r : Res}
    (hc : compOp? C.P o = some ao) (hop : op0 C ao nm ts h = some r) : OpPost C φ h nx w nm a o r := by
  cases y with
  | some y => simp [compOp?, ho] at hc
  | none =>
    simp only [compOp?, ho] at hc
    cases hc
    simp only [op0] at hop
    cases hop
    refine fresh_block hi hn hlt 0 (c := .map #[] 0) (v' := .map (some w.heap.size)) ?_ (.val _) (by simp only [conc, Inj.set_same]) ⟨rfl, rfl⟩
    simp [execOp, ho, Instr.makeMap]

theorem wrap64_id {n : Int} (h0 : 0 ≤ n) (h1 : n < 2 ^ 40) : IntKind.i64.wrap n = n := by
  have e : n % (2 ^ IntKind.i64.bits : Int) = n := by
    show n % (2 ^ 64 : Int) = n
    omega
  unfold IntKind.wrap
  simp only [e]
  have h2 : ¬ (n ≥ (2 ^ (IntKind.i64.bits - 1) : Int)) := by
    show ¬ (n ≥ (2 ^ 63 : Int))
    omega
  simp [h2]

theorem s_makeSlice (hi : In C φ h nx w ts a) (hn : φ nm = none) (hlt : nm < nx) {t : TypeId} {l c : Operand} (ho : o.op = .makeSlice t l c) {ao : AOp} {r : Res}
    (hc : compOp? C.P o = some ao) (hop : op0 C ao nm ts h = some r) : OpPost C φ h nx w nm a o r := by
  simp only [compOp?, ho] at hc
  split at hc
  · rename_i elem l' c' hd hl hcc
    split at hc
    · rename_i n by_ z hsz hby hz
      cases hc
      simp only [op0] at hop
      split at hop
      · rename_i k1 lv k2 cv hlv hcv
        split at hop
        · rename_i hcond
          obtain ⟨g0, g1, g2, g3, g4⟩ := hcond
          cases hop
          have h1 := hi.opd hl
          have h2 := hi.opd hcc
          rw [hlv] at h1; rw [hcv] at h2
          obtain ⟨z', hzr, hzc⟩ := zeroCells_sound hz
          have hzs : z'.cells.size = n := by
            have := concL_length (hzc φ)
            simp only [Array.length_toList] at this; omega
          have hrep := concL_mono (Inj.le_set (w.heap.size, 0, 0) hn) _ _ (repeat_array (hzc φ) cv.toNat (zc := z'.cells) rfl)
          refine fresh_block hi hn hlt 0 (c := .cells ((Array.range (cv.toNat * z'.cells.size)).map fun i => z'.cells[i % z'.cells.size]!) elem) (v' := .slice (some ⟨w.heap.size, 0, none⟩) lv.toNat cv.toNat) ?_ (.val _) (by simp only [conc, Inj.set_same]; simp) ?_
          · have hinfo : ∃ i, C.P.info? elem = some i ∧ i.bytes = by_ := by
              unfold bytesA at hby
              split at hby
              · rename_i i hi'; cases hby; exact ⟨i, hi', rfl⟩
              · cases hby
            obtain ⟨i, hinf, rfl⟩ := hinfo
            have w1 : IntKind.i64.wrap lv = lv := wrap64_id g0 (by omega)
            have w2 : IntKind.i64.wrap cv = cv := wrap64_id (by omega) g2
            simp only [execOp, ho, conc_int h1, conc_int h2, Instr.makeSlice, asInt, asIntOf, Sem.run_bind, r_underlying hd, Result.andThen_ok, Sem.run_pure, r_typeInfo hinf, w1, w2]
            have ht : (decide (cv < 0) || decide ((i.bytes : Int) * cv > 2 ^ 48)) = false := by
              simp only [Bool.or_eq_false_iff, decide_eq_false_iff_not]
              constructor <;> omega
            have ht2 : (decide (cv < 0) || decide ((i.bytes : Int) * cv > 2 ^ 48) || decide (lv < 0) || decide (lv > cv)) = false := by
              rw [ht]; simp only [Bool.or_eq_false_iff, decide_eq_false_iff_not]
              refine ⟨⟨trivial, ?_⟩, ?_⟩ <;> omega
            by_cases h0 : cv.toNat * n = 0
            · have hcells : (Array.range (cv.toNat * n)).map (fun x => (#[] : Array Value)[x % (#[] : Array Value).size]!) = (Array.range (cv.toNat * z'.cells.size)).map fun i => z'.cells[i % z'.cells.size]! := by
                rw [hzs]; simp [h0]
              simp only [ht2, Bool.false_eq_true, if_false, Sem.run_bind, run_askRoom, Result.andThen_ok, r_sizeOf hsz, if_pos h0, Sem.run_pure, newRow, run_newObj]
              rw [hcells]
            · have hcells : (Array.range (cv.toNat * n)).map (fun x => z'.cells[x % z'.cells.size]!) = (Array.range (cv.toNat * z'.cells.size)).map fun i => z'.cells[i % z'.cells.size]! := by
                rw [hzs]
              simp only [ht2, Bool.false_eq_true, if_false, Sem.run_bind, run_askRoom, Result.andThen_ok, r_sizeOf hsz, if_neg h0, Sem.run_pure, hzr, newRow, run_newObj]
              rw [hcells]
          · have := objRep_new hrep elem elem 0
            rw [Array.toArray_toList] at this
            exact this
        · cases hop
      · cases hop
    · cases hc
  · cases hc

end
end Go.Ax

/- The abstract executor: rows that are written. -/
namespace Go.Ax
variable [Opq]

theorem Rep.same {P : Program} {φ : Inj} {h : Heap} {nx : Nat} {w w' : World} (r : Rep P φ h nx w) (hh : w'.heap = w.heap) : Rep P φ h nx w' where
  obj := by
    intro b o hb
    obtain ⟨B, d, x, c, hB, hc, ho⟩ := r.obj b o hb
    exact ⟨B, d, x, c, hB, by rw [hh]; exact hc, ho⟩
  inj := r.inj
  fresh := r.fresh
  glob := r.glob
  opq := by
    intro b tag data B d x hb hB
    obtain ⟨h1, h2⟩ := r.opq b tag data B d x hb hB
    exact ⟨Opq.loc _ _ _ _ _ _ h1 fun i hi => by rw [hh], fun i hi => by rw [hh]; exact h2 i hi⟩
  sep := r.sep

theorem fresh_block' {C : Ctx} {φ : Inj} {h : Heap} {nx nm : Nat} {w w' : World} {ts : Tmps} {a : Act} {o : Oper} (hi : In C φ h nx w ts a) (hn : φ nm = none) (hlt : nm < nx)
    {v : AV} {n : Next} {v' : Value} {ob : AObj} {c : Obj} (x : Nat) (hrun : (execOp a.eval o).run C.P w = .ok n w') (hh : w'.heap = w.heap.push c) (hos : w'.os = w.os) (hout : w'.output = w.output) (hval : IsVal n v')
    (hv : conc (φ.set nm (w.heap.size, 0, x)) v = some v') (ho : objRep (φ.set nm (w.heap.size, 0, x)) 0 x ob c) (hob : isOpq ob = false := by rfl) : Fresh C φ h nx w nm a o v (h.put nm (some ob)) := by
  refine ⟨n, v', _, φ.set nm (w.heap.size, 0, x), hrun, hval, hv, ?_, ?_⟩
  · refine Rep.same (w := { w with heap := w.heap.push c }) ?_ hh
    refine ((hi.rep.set hn hlt (w.heap.size, 0, x)).alloc c).add (Inj.set_same ..) (by simp) ho ?_ ?_ hob
    · intro b o' d' x' hb hg hB
      rw [Inj.set_ne _ _ hb] at hB
      exact absurd (hi.rep.lt hg hB) (by omega)
    · intro b o' hb hg _ hB
      rw [Inj.owns_set_ne hb] at hB
      exact absurd (hi.rep.owns_lt hg hB) (by omega)
  · have e := Eff.alloc hi.rep hn c ob x hob
    exact { ext := e.ext, os := hos, out := hout, size := by rw [hh]; simp, frame := fun i h1 h2 => by rw [hh]; exact e.frame i h1 h2, dom := e.dom }

theorem objRep_other {φ : Inj} {d x d1 x1 : Nat} {o o1 : AObj} {cs cs' : Array Value} {el el' : TypeId} {fr : Nat × Nat} {n : Nat} (hr : reach o x = some n) (hap : apart o o1 d x d1 x1)
    (ho : objRep φ d1 x1 o1 (.cells cs el fr)) (hs : cs'.size = cs.size) (hsame : ∀ j, ¬ (d ≤ j ∧ j < d + n) → cs'[j]? = cs[j]?) : objRep φ d1 x1 o1 (.cells cs' el' fr) := by
  obtain ⟨n', m, hr1, hr2, hdis⟩ := hap
  rw [hr] at hr1; cases hr1
  cases o1 <;> simp only [objRep] at ho ⊢
  rename_i vs e op
  obtain ⟨⟨l, hl, hcs⟩, h2, h3⟩ := ho
  simp only [reach] at hr2
  cases hr2
  refine ⟨⟨l, hl, fun i v hi => ?_⟩, (by rw [hs]; exact h2), (by rw [hs]; exact h3)⟩
  rw [hsame _ ?_]
  · exact hcs i v hi
  · intro hj
    have hlt : i < l.length := by
      rcases Nat.lt_or_ge i l.length with h | h
      · exact h
      · rw [List.getElem?_eq_none h] at hi; cases hi
    have := concL_length hl
    exact hdis (d1 + i) ⟨hj.1, hj.2, by omega, by omega⟩

section
variable {C : Ctx} {φ : Inj} {h : Heap} {nx nm : Nat} {w : World} {ts : Tmps} {a : Act} {o : Oper}

theorem splice_eq {off : Nat} {new old out : List AV} (hs : splice off new old = some out) : off + new.length ≤ old.length ∧ out = old.take off ++ (new ++ old.drop (off + new.length)) := by
  unfold splice at hs
  split at hs
  · rename_i hle; cases hs; exact ⟨hle, rfl⟩
  · cases hs

theorem getElem_splice {off : Nat} {new old : List Value} (hle : off + new.length ≤ old.length) (i : Nat) :
    (old.take off ++ (new ++ old.drop (off + new.length)))[i]? = if off ≤ i ∧ i < off + new.length then new[i - off]? else old[i]? := by
  have hL : (old.take off).length = off := by simp; omega
  rw [List.getElem?_append]
  rw [hL]
  by_cases h1 : i < off
  · rw [if_pos h1, if_neg (by omega), List.getElem?_take, if_pos h1]
  · rw [if_neg h1, List.getElem?_append]
    by_cases h2 : i - off < new.length
    · rw [if_pos h2, if_pos (by omega)]
    · rw [if_neg h2, if_neg (by omega), List.getElem?_drop]
      congr 1; omega

/-- a row with new cells in it -/
theorem row_write {P : Program} (r : Rep P φ h nx w) {b : Nat} {vs vs' new : List AV} {el : TypeId} {op : Option Nat} {off : Nat} (hg : h.get b = some (.cells vs el op)) (hs : splice off new vs = some vs')
    (hf : flatL new = true) {new' : List Value} (hnew : concL φ new = some new') {B d x : Nat} (hB : φ b = some (B, d, x)) :
    ∃ w', (storeCells ⟨B, d + off, none⟩ new').run P w = .ok () w' ∧ Rep P φ (h.put b (some (.cells vs' el op))) nx w' ∧ ∀ nm, Eff φ h w nm φ (h.put b (some (.cells vs' el op))) w' := by
  obtain ⟨hle, rfl⟩ := splice_eq hs
  obtain ⟨B', d', x', cs, el', fr, l, hB', hc, hl, hcs, hsz, hfr⟩ := r.cells hg
  rw [hB] at hB'; cases hB'
  have hlen := concL_length hnew
  have hll := concL_length hl
  have hdom : ∀ b1 o1 B1, (h.put b (some (.cells (vs.take off ++ (new ++ vs.drop (off + new.length))) el op))).get b1 = some o1 → φ.owns o1 b1 B1 → ∃ b0 o0, h.get b0 = some o0 ∧ φ.owns o0 b0 B1 := by
    intro b1 o1 B1 h1 h2
    rw [T.get_put] at h1
    split at h1
    · rename_i e; subst e; cases h1
      rw [Inj.owns_blk rfl] at h2
      exact ⟨b1, _, hg, (Inj.owns_blk rfl).2 h2⟩
    · exact ⟨b1, o1, h1, h2⟩
  have hreach : ∀ n, reach (.cells vs el op) x = some n → ∃ n', reach (.cells (vs.take off ++ (new ++ vs.drop (off + new.length))) el op) x = some n' ∧ n' ≤ n := by
    intro n hr
    simp only [reach] at hr ⊢
    cases hr
    exact ⟨_, rfl, by simp; omega⟩
  have hlen' : (vs.take off ++ (new ++ vs.drop (off + new.length))).length = vs.length := by simp; omega
  cases hne : new with
  | nil =>
    subst hne
    simp only [concL] at hnew; cases hnew
    refine ⟨w, by simp [storeCells], ?_, fun nm => { ext := fun _ _ => rfl, os := rfl, out := rfl, size := Nat.le_refl _, frame := fun _ _ _ => rfl, dom := fun b1 o1 B1 h1 h2 => .inr (hdom b1 o1 B1 h1 h2) }⟩
    have := r.write (o' := .cells (vs.take off ++ ([] ++ vs.drop (off + ([] : List AV).length))) el op) (c' := .cells cs el' fr) hg hB (by
      simp only [List.length_nil, Nat.add_zero, List.nil_append, List.take_append_drop]
      exact ⟨⟨l, hl, hcs⟩, hsz, hfr⟩) hreach (by intro b1 o1 d1 x1 c _ _ _ hc0 _ ho1; rw [hc] at hc0; cases hc0; exact ho1)
    rwa [heap_same w hc] at this
  | cons v0 new0 =>
    rw [← hne]
    have hpos : 0 < new.length := by rw [hne]; simp
    have hin : d + vs.length ≤ cs.size := by
      have hlast : l[vs.length - 1]? = some (l[vs.length - 1]'(by omega)) := List.getElem?_eq_getElem (by omega)
      have := hcs _ _ hlast
      have hlt : d + (vs.length - 1) < cs.size := by
        rcases Nat.lt_or_ge (d + (vs.length - 1)) cs.size with h1 | h1
        · exact h1
        · rw [Array.getElem?_eq_none h1] at this; cases this
      omega
    obtain ⟨cs', hrun, hsize, hget⟩ := r_storeCells (P := P) B (d + off) el' fr new' 0 cs w hc (by omega) hfr (flatL_one hnew hf)
    refine ⟨_, hrun, ?_, fun nm => ?_⟩
    · refine r.write hg hB ?_ hreach ?_
      · refine ⟨⟨l.take off ++ (new' ++ l.drop (off + new'.length)), ?_, ?_⟩, ?_, by rw [hsize]; exact hfr⟩
        · rw [hlen]
          exact concL_append (concL_take off hl) (concL_append hnew (concL_drop (off + new.length) hl))
        · intro i v hi
          rw [getElem_splice (by omega)] at hi
          rw [hget]
          by_cases h1 : off ≤ i ∧ i < off + new'.length
          · rw [if_pos h1] at hi
            rw [if_pos (by omega)]
            rw [show d + i - (d + off + 0) = i - off from by omega]; exact hi
          · rw [if_neg h1] at hi
            rw [if_neg (by omega)]
            exact hcs i v hi
        · intro s hs'
          rw [hsize, hlen']
          exact hsz s hs'
      · intro b1 o1 d1 x1 c hne1 h1 hb1 hc0 hap ho1
        rw [hc] at hc0; cases hc0
        have hr0 : ∃ n, reach (.cells vs el op) x = some n ∧ vs.length ≤ n := ⟨_, rfl, by omega⟩
        obtain ⟨n, hr, hge⟩ := hr0
        refine objRep_other hr hap ho1 hsize ?_
        intro j hj
        rw [hget, if_neg]
        omega
    · exact {
        ext := fun _ _ => rfl
        os := rfl
        out := rfl
        size := by simp
        frame := by
          intro i hi hno
          simp only [Array.getElem?_setIfInBounds]
          rw [if_neg]
          intro e
          exact hno b _ hg (by rw [← e]; exact Inj.owns_self hB)
        dom := fun b1 o1 B1 h1 h2 => .inr (hdom b1 o1 B1 h1 h2) }

theorem notAny_of {v : AV} (h : flatL v.cells = true) : notAny v = true := by
  cases v <;> try rfl
  rename_i k f args
  cases k <;> first | rfl | (simp [AV.cells, flatL, flatAV] at h)

theorem s_store (hi : In C φ h nx w ts a) {t : TypeId} {x y : Operand} (ho : o.op = .store t x y) {ao : AOp} {r : Res}
    (hc : compOp? C.P o = some ao) (hop : op0 C ao nm ts h = some r) : OpPost C φ h nx w nm a o r := by
  simp only [compOp?, ho] at hc
  split at hc
  · rename_i x' y' n hx hy hn
    cases hc
    simp only [op0] at hop
    split at hop
    · rename_i b p hs
      split at hop
      · rename_i vs el opn hg
        split at hop
        · rename_i hlen
          split at hop
          · rename_i vs' hsp
            cases hfl : flatL (ev ts y').cells with
            | false => rw [hfl] at hop; cases hop
            | true =>
              rw [hfl] at hop; cases hop
              have h1 := hi.opd hx
              have h2 := conc_cells (hi.opd hy) (notAny_of (by simpa using hfl))
              rw [hs] at h1
              obtain ⟨B, d, z, hB, hu⟩ := conc_ptr h1
              obtain ⟨w', hrun, hrep, heff⟩ := row_write hi.rep hg hsp hfl h2 hB
              refine ⟨_, undef, w', ?_, .skip, rfl, hrep, heff nm⟩
              have hsize : (a.eval y).cells.size = n := by
                have := concL_length h2
                simp only [Array.length_toList] at this
                omega
              simp only [execOp, ho, hu, Instr.storeAt, Instr.sureAddr, Sem.run_bind, Sem.run_pure, Result.andThen_ok, storeVar, r_sizeOf hn, hsize, ne_eq, not_true, if_false, hrun]
          · cases hop
        · cases hop
      · cases hop
    · cases hop
  · cases hc

end
end Go.Ax

/- The abstract executor: maps that are written, iterators. -/
namespace Go.Ax
variable [Opq]

theorem concE_cons {φ : Inj} {k v : AV} {n : Nat} {l : List (AV × AV × Nat)} {r : List MapEntry} (h : concE φ ((k, v, n) :: l) = some r) :
    ∃ k' v' l', conc φ k = some k' ∧ conc φ v = some v' ∧ concE φ l = some l' ∧ r = { key := k', val := v', born := n } :: l' := by
  simp only [concE] at h
  cases hk : conc φ k with
  | none => rw [hk] at h; simp at h
  | some k' =>
    cases hv : conc φ v with
    | none => rw [hk, hv] at h; simp at h
    | some v' =>
      cases hl : concE φ l with
      | none => rw [hk, hv, hl] at h; simp at h
      | some l' => rw [hk, hv, hl] at h; exact ⟨k', v', l', rfl, rfl, rfl, by simpa using h.symm⟩

theorem concE_mk {φ : Inj} {k v : AV} {n : Nat} {l : List (AV × AV × Nat)} {k' v' : Value} {l' : List MapEntry} (hk : conc φ k = some k') (hv : conc φ v = some v') (hl : concE φ l = some l') :
    concE φ ((k, v, n) :: l) = some ({ key := k', val := v', born := n } :: l') := by simp only [concE, hk, hv, hl]

theorem concE_append {φ : Inj} {k v : AV} {n : Nat} {k' v' : Value} (hk : conc φ k = some k') (hv : conc φ v = some v') : ∀ {l : List (AV × AV × Nat)} {r : List MapEntry}, concE φ l = some r →
    concE φ (l ++ [(k, v, n)]) = some (r ++ [{ key := k', val := v', born := n }])
  | [], r, h => by simp only [concE] at h; cases h; exact concE_mk hk hv rfl
  | (a, b, c) :: l, r, h => by
    obtain ⟨a', b', l', ha, hb, hl, rfl⟩ := concE_cons h
    exact concE_mk ha hb (concE_append hk hv hl)

theorem concE_length {φ : Inj} : ∀ {l : List (AV × AV × Nat)} {r : List MapEntry}, concE φ l = some r → r.length = l.length
  | [], r, h => by simp only [concE] at h; cases h; rfl
  | (a, b, c) :: l, r, h => by
    obtain ⟨a', b', l', _, _, hl, rfl⟩ := concE_cons h
    simp [concE_length hl]

theorem concE_modify {φ : Inj} {k v : AV} {k' v' : Value} (hk : conc φ k = some k') (hv : conc φ v = some v') : ∀ {l : List (AV × AV × Nat)} {r : List MapEntry} (i : Nat), concE φ l = some r →
    concE φ (l.modify i fun e => (k, v, e.2.2)) = some (r.modify i fun e => { e with key := k', val := v' })
  | [], r, i, h => by simp only [concE] at h; cases h; cases i <;> simp [concE]
  | (a, b, c) :: l, r, i, h => by
    obtain ⟨a', b', l', ha, hb, hl, rfl⟩ := concE_cons h
    cases i with
    | zero => simpa using concE_mk hk hv hl
    | succ i => simpa using concE_mk ha hb (concE_modify hk hv i hl)

theorem concE_erase {φ : Inj} : ∀ {l : List (AV × AV × Nat)} {r : List MapEntry} (i : Nat), concE φ l = some r → concE φ (l.eraseIdx i) = some (r.eraseIdx i)
  | [], r, i, h => by simp only [concE] at h; cases h; simp [concE]
  | (a, b, c) :: l, r, i, h => by
    obtain ⟨a', b', l', ha, hb, hl, rfl⟩ := concE_cons h
    cases i with
    | zero => simpa using hl
    | succ i => simpa using concE_mk ha hb (concE_erase i hl)

section
variable {C : Ctx} {φ : Inj} {h : Heap} {nx nm : Nat} {w : World} {ts : Tmps} {a : Act} {o : Oper}

def isRow : Obj → Bool
  | .cells .. => true
  | _ => false

theorem r_setObj {P : Program} {B : Nat} {c : Obj} (c' : Obj) (hc : w.heap[B]? = some c) (hn : isRow c = false) : (setObj B c').run P w = .ok () { w with heap := w.heap.setIfInBounds B c' } := by
  cases c <;> simp_all [setObj, Sem.run, isRow]

theorem r_getObj {P : Program} {B : Nat} {c : Obj} (hc : w.heap[B]? = some c) (hn : isRow c = false) : (getObj B).run P w = .ok c w := by
  cases c <;> simp_all [getObj, Sem.run, isRow]

/-- another object in the place of one that is no row -/
theorem obj_write {P : Program} (r : Rep P φ h nx w) {b B d x : Nat} {ob ob' : AObj} {c' : Obj} (hg : h.get b = some ob) (hB : φ b = some (B, d, x)) (h1 : reach ob x = none) (ho : objRep φ d x ob' c') (hq : isOpq ob = false := by rfl) (hq' : isOpq ob' = false := by rfl) :
    Rep P φ (h.put b (some ob')) nx { w with heap := w.heap.setIfInBounds B c' } ∧ ∀ nm, Eff φ h w nm φ (h.put b (some ob')) { w with heap := w.heap.setIfInBounds B c' } := by
  refine ⟨r.write hg hB ho (by intro n hr; rw [h1] at hr; cases hr) (by intro b1 o1 d1 x1 c hne hg1 hb1 _ _ _; exact (r.alone hg hB h1 b1 o1 d1 x1 hne hg1 hb1).elim) hq hq', fun nm => ?_⟩
  exact {
    ext := fun _ _ => rfl
    os := rfl
    out := rfl
    size := by simp
    frame := by
      intro i hi hno
      simp only [Array.getElem?_setIfInBounds]
      rw [if_neg]
      intro e
      exact hno b _ hg (by rw [← e]; exact Inj.owns_self hB)
    dom := by
      intro b1 o1 B1 hb1 hB1
      rw [T.get_put] at hb1
      split at hb1
      · rename_i e; subst e; cases hb1
        rw [Inj.owns_blk hq'] at hB1
        exact .inr ⟨b1, _, hg, (Inj.owns_blk hq).2 hB1⟩
      · exact .inr ⟨b1, o1, hb1, hB1⟩ }

theorem sameKey_bits {kk : KeyKind} {x y : AV} (hs : sameKey kk x y = some true) {u v : Value} (hu : conc φ x = some u) (hv : conc φ y = some v) : Instr.sameBits 10000 v u = true := by
  cases kk <;> cases x <;> cases y <;> simp only [sameKey, reduceCtorEq] at hs
  · split at hs
    · rename_i hk; subst hk
      cases conc_int hu; cases conc_int hv
      simp only [Option.some.injEq, beq_iff_eq] at hs
      subst hs
      simp [Instr.sameBits]
    · cases hs
  · cases conc_str hu; cases conc_str hv
    simp only [Option.some.injEq, beq_iff_eq] at hs
    subst hs
    rename_i s1
    have e : ((⟨s1.toArray⟩ : ByteArray) == ⟨s1.toArray⟩) = (s1.toArray == s1.toArray) := rfl
    simp only [Instr.sameBits]
    rw [e]; simp

theorem s_mapUpdate (hi : In C φ h nx w ts a) {t : TypeId} {x k y : Operand} (ho : o.op = .mapUpdate t x k y ∨ o.op = .insert t x k y) {ao : AOp} {r : Res}
    (hc : compOp? C.P o = some ao) (hop : op0 C ao nm ts h = some r) : OpPost C φ h nx w nm a o r := by
  have hc' : ∃ kt e x' k' y' kk, C.P.underlying t = some (.map kt e) ∧ opd C.P x = some x' ∧ opd C.P k = some k' ∧ opd C.P y = some y' ∧ keyKind C.P kt = some kk ∧ ao = .mapUpdate kk x' k' y' := by
    rcases ho with ho | ho <;>
    · simp only [compOp?, ho] at hc
      split at hc
      · rename_i kt e x' k' y' hd hx hk hy
        split at hc
        · rename_i kk hkk
          cases hc
          exact ⟨kt, e, x', k', y', kk, hd, hx, hk, hy, hkk, rfl⟩
        · cases hc
      · cases hc
  obtain ⟨kt, e, x', k', y', kk, hd, hx, hk, hy, hkk, rfl⟩ := hc'
  have hex : ∀ w', (Instr.mapUpdate t (a.eval x) (a.eval k) (a.eval y)).run C.P w = .ok () w' → (execOp a.eval o).run C.P w = .ok .skip w' := by
    intro w' hr
    rcases ho with ho | ho <;> simp [execOp, ho, hr]
  have hv := hi.opd hx
  have hu := hi.opd hk
  have hz := hi.opd hy
  obtain ⟨d, hkd, hdesc⟩ := keyKind_of hkk
  simp only [op0] at hop
  split at hop
  · rename_i q hs
    rw [hs] at hv
    obtain ⟨B, dd, z, hB, hmv⟩ := conc_map hv
    split at hop
    · rename_i es ck hg
      obtain ⟨B', d', z', ms, hB', hmc, hes⟩ := hi.rep.mapObj hg
      rw [hB] at hB'; cases hB'
      have hgo : (getObj B).run C.P w = .ok (.map ms ck) w := r_getObj hmc rfl
      split at hop
      · rename_i j v hsk hf
        cases hop
        obtain ⟨r', hr', v', e1, e2, k0, b0, n0, e3, e4, e5, m, e6, e7, e8⟩ := findA_sound hdesc hu hf hes
        subst e1
        simp only [Nat.sub_zero] at e3 e6
        have hfk := r_findKey (w := w) (kk := kk) hkd hr'
        obtain ⟨hrep, heff⟩ := obj_write hi.rep (c' := .map (ms.modify j fun e => { e with key := a.eval k, val := a.eval y }) ck) (ob' := .map (es.modify j fun e => (ev ts k', ev ts y', e.2.2)) ck) hg hB rfl
          ⟨rfl, by rw [Array.toList_modify]; exact concE_modify hu hz j hes⟩
        refine ⟨_, undef, _, hex _ ?_, .skip, rfl, hrep, heff nm⟩
        have hms : ms[j]? = some m := by simpa using e6
        have hbits := sameKey_bits e5 hu e7
        simp only [hmv, Instr.mapUpdate, Sem.run_bind, r_underlying hd, Result.andThen_ok, hgo, r_checkKey hkd hdesc, hfk, hms, Option.map_some, Option.getD_some, Instr.keyThatStays, hbits, if_true, Sem.run_pure,
          r_setObj _ hmc rfl]
      · rename_i hsk hf
        cases hop
        obtain ⟨r', hr', e1⟩ := findA_sound hdesc hu hf hes
        simp only at e1; subst e1
        have hfk := r_findKey (w := w) (kk := kk) hkd hr'
        obtain ⟨hrep, heff⟩ := obj_write hi.rep (c' := .map (ms.push { key := a.eval k, val := a.eval y, born := ck }) (ck + 1)) (ob' := .map (es ++ [(ev ts k', ev ts y', ck)]) (ck + 1)) hg hB rfl
          ⟨rfl, by rw [Array.toList_push]; exact concE_append hu hz hes⟩
        refine ⟨_, undef, _, hex _ ?_, .skip, rfl, hrep, heff nm⟩
        simp only [hmv, Instr.mapUpdate, Sem.run_bind, r_underlying hd, Result.andThen_ok, hgo, r_checkKey hkd hdesc, hfk, r_setObj _ hmc rfl]
      · cases hop
    · cases hop
  · cases hop

theorem toList_eraseIn {α : Type} (xs : Array α) (i : Nat) : (xs.eraseIdxIfInBounds i).toList = xs.toList.eraseIdx i := by
  unfold Array.eraseIdxIfInBounds
  split
  · rw [Array.toList_eraseIdx]
  · rename_i hge
    rw [List.eraseIdx_of_length_le (by simpa using hge)]

theorem comp_builtin {b : Builtin} {c : Call} (ho : o.op = .call c) (hb : c.callee = .builtin b) {ao : AOp} (hc : compOp? C.P o = some ao) :
    ∃ args, opds C.P c.args.toList = some args ∧ compBuiltin C.P b c.argTypes.toList args = some ao := by
  simp only [compOp?, ho] at hc
  split at hc
  · cases hc
  · rename_i args ha
    rw [hb] at hc
    exact ⟨args, ha, hc⟩

theorem exec_builtin {b : Builtin} {c : Call} (ho : o.op = .call c) (hb : c.callee = .builtin b) :
    execOp a.eval o = builtin b c.argTypes o.type (c.args.map fun | .const _ => true | _ => false) (c.args.map a.eval) := by
  simp only [execOp, ho, resolve, hb, invoke, pure_bind]
  rfl

end
end Go.Ax

