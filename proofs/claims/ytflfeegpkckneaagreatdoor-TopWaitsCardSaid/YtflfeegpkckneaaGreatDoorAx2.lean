/- A part of the proof of TopWaits: see the last text of the claim. -/
import Derived.Test.YtflfeegpkckneaaGreatDoorAx1
import Derived.Laws.Strings
set_option linter.unusedSectionVars false
set_option linter.unusedSimpArgs false
set_option linter.unusedVariables false
/- The abstract executor: operands; operations that change nothing. -/
namespace Go.Ax
variable [Opq]

theorem optMap_absV {φ : Inj} {n : Nat} (ih : ∀ v a, absV n v = some a → conc φ a = some v) : ∀ {l : List Value} {r : List AV}, optMap (absV n) l = some r → concL φ r = some l
  | [], r, h => by simp only [optMap] at h; cases h; rfl
  | v :: l, r, h => by
    simp only [optMap] at h
    cases hv : absV n v with
    | none => rw [hv] at h; simp at h
    | some a =>
      cases hl : optMap (absV n) l with
      | none => rw [hv, hl] at h; simp at h
      | some s => rw [hv, hl] at h; cases h; exact concL_cons_mk (ih v a hv) (optMap_absV ih hl)

theorem absV_sound {φ : Inj} : ∀ (n : Nat) (v : Value) (a : AV), absV n v = some a → conc φ a = some v
  | 0, v, a, h => by simp [absV] at h
  | n + 1, v, a, h => by
    have ih := absV_sound (φ := φ) n
    cases v with
    | bool b => simp only [absV] at h; cases h; rfl
    | int k i => simp only [absV] at h; cases h; rfl
    | float k b => simp [absV] at h
    | complex k x y => simp [absV] at h
    | string s => simp only [absV] at h; cases h; simp [conc]
    | pointer p => cases p with
      | none => simp only [absV] at h; cases h; rfl
      | some p => simp [absV] at h
    | slice p len cap =>
      cases p with
      | some p => simp [absV] at h
      | none =>
        cases len with
        | succ _ => simp [absV] at h
        | zero => cases cap with
          | succ _ => simp [absV] at h
          | zero => simp only [absV] at h; cases h; rfl
    | map r => cases r with
      | none => simp only [absV] at h; cases h; rfl
      | some r => simp [absV] at h
    | chan r => simp [absV] at h
    | func fn first captured =>
      cases fn with
      | yield l => simp [absV] at h
      | _ =>
        simp only [absV] at h
        cases ha : optMap (absV n) first.toList with
        | none => rw [ha] at h; simp at h
        | some x =>
          cases hb : optMap (absV n) captured.toList with
          | none => rw [ha, hb] at h; simp at h
          | some y =>
            rw [ha, hb] at h
            cases h
            simp only [conc, concFn, optMap_absV ih ha, optMap_absV ih hb]
    | nilFunc => simp only [absV] at h; cases h; rfl
    | iface t w =>
      simp only [absV] at h
      cases hw : absV n w with
      | none => rw [hw] at h; simp at h
      | some x => rw [hw] at h; cases h; simp only [conc, ih w x hw]
    | nilIface => simp only [absV] at h; cases h; rfl
    | agg cs =>
      simp only [absV] at h
      cases hw : optMap (absV n) cs.toList with
      | none => rw [hw] at h; simp at h
      | some x => rw [hw] at h; cases h; simp only [conc, optMap_absV ih hw]
    | tuple cs =>
      simp only [absV] at h
      cases hw : optMap (absV n) cs.toList with
      | none => rw [hw] at h; simp at h
      | some x => rw [hw] at h; cases h; simp only [conc, optMap_absV ih hw]

section
variable {P : Program} {φ : Inj} {ts : Tmps} {a : Act}

theorem opd_sound (hg : ∀ g, g < P.globals.size → φ g = some (g, 0, 0)) (ht : TsRel φ ts a.tmps) {x : Operand} {y : Opd} (h : opd P x = some y) :
    conc φ (ev ts y) = some (a.eval x) := by
  cases x with
  | tmp t => simp only [opd] at h; cases h; exact ht t
  | const v =>
    simp only [opd] at h
    cases hv : absV absD v with
    | none => rw [hv] at h; simp at h
    | some b => rw [hv] at h; cases h; exact absV_sound _ _ _ hv
  | global g =>
    simp only [opd] at h
    split at h
    · rename_i hlt; cases h; simp only [ev, conc, hg g hlt]; rfl
    · simp at h
  | func f => simp only [opd] at h; cases h; rfl

theorem opds_sound (hg : ∀ g, g < P.globals.size → φ g = some (g, 0, 0)) (ht : TsRel φ ts a.tmps) : ∀ {l : List Operand} {r : List Opd}, opds P l = some r →
    concL φ (evL ts r) = some (l.map a.eval)
  | [], r, h => by simp only [opds, optMap] at h; cases h; rfl
  | x :: l, r, h => by
    simp only [opds, optMap] at h
    cases hv : opd P x with
    | none => rw [hv] at h; simp at h
    | some b =>
      cases hl : optMap (opd P) l with
      | none => rw [hv, hl] at h; simp at h
      | some s => rw [hv, hl] at h; cases h; exact concL_cons_mk (opd_sound hg ht hv) (opds_sound hg ht hl)

theorem opdO_sound (hg : ∀ g, g < P.globals.size → φ g = some (g, 0, 0)) (ht : TsRel φ ts a.tmps) {x : Option Operand} {y : Option Opd} (h : opdO P x = some y) :
    (x = none ∧ y = none) ∨ ∃ x' y', x = some x' ∧ y = some y' ∧ conc φ (ev ts y') = some (a.eval x') := by
  cases x with
  | none => simp only [opdO] at h; cases h; exact .inl ⟨rfl, rfl⟩
  | some x =>
    simp only [opdO] at h
    cases hv : opd P x with
    | none => rw [hv] at h; simp at h
    | some b => rw [hv] at h; cases h; exact .inr ⟨x, b, rfl, rfl, opd_sound hg ht hv⟩

theorem optMap_toVal {n : Nat} (ih : ∀ a v, toValF n a = some v → conc φ a = some v) : ∀ {l : List AV} {r : List Value}, optMap (toValF n) l = some r → concL φ l = some r
  | [], r, h => by simp only [optMap] at h; cases h; rfl
  | v :: l, r, h => by
    simp only [optMap] at h
    cases hv : toValF n v with
    | none => rw [hv] at h; simp at h
    | some a =>
      cases hl : optMap (toValF n) l with
      | none => rw [hv, hl] at h; simp at h
      | some s => rw [hv, hl] at h; cases h; exact concL_cons_mk (ih v a hv) (optMap_toVal ih hl)

theorem toVal_sound : ∀ (n : Nat) (a : AV) (v : Value), toValF n a = some v → conc φ a = some v
  | 0, a, v, h => by simp [toValF] at h
  | n + 1, a, v, h => by
    have ih := toVal_sound n
    cases a <;> simp only [toValF] at h <;> first
      | (cases h; rfl)
      | (simp at h; done)
      | skip
    rename_i cs
    cases hw : optMap (toValF n) cs with
    | none => rw [hw] at h; simp at h
    | some x => rw [hw] at h; cases h; simp only [conc, optMap_toVal ih hw]

theorem pureRun_sound {α : Type} : ∀ (s : Sem α) (x : α), pureRun P s = some x → ∀ w, s.run P w = .ok x w
  | .pure a, x, h, w => by simp only [pureRun] at h; cases h; rfl
  | .program k, x, h, w => by simp only [pureRun] at h; exact pureRun_sound (k P) x h w
  | .load _ _ _, x, h, _ => by simp [pureRun] at h
  | .store _ _ _ _, x, h, _ => by simp [pureRun] at h
  | .new _ _, x, h, _ => by simp [pureRun] at h
  | .shape _ _, x, h, _ => by simp [pureRun] at h
  | .freeze _ _ _, x, h, _ => by simp [pureRun] at h
  | .frozen _ _, x, h, _ => by simp [pureRun] at h
  | .getObj _ _, x, h, _ => by simp [pureRun] at h
  | .setObj _ _ _, x, h, _ => by simp [pureRun] at h
  | .choose _ _, x, h, _ => by simp [pureRun] at h
  | .sys _ _, x, h, _ => by simp [pureRun] at h
  | .mark _ _, x, h, _ => by simp [pureRun] at h
  | .halt _, x, h, _ => by simp [pureRun] at h

theorem scal_sound {s : Sem Value} {v : AV} (h : scal P s = some v) (w : World) : ∃ v', s.run P w = .ok v' w ∧ conc φ v = some v' := by
  unfold scal at h
  cases hp : pureRun P s with
  | none => rw [hp] at h; simp at h
  | some x => rw [hp] at h; exact ⟨x, pureRun_sound s x hp w, absV_sound _ _ _ h⟩

/-! ### what values stand for, the other way round -/
theorem conc_int {k : IntKind} {n : Int} {v : Value} (h : conc φ (.int k n) = some v) : v = .int k n := by simp only [conc] at h; cases h; rfl
theorem conc_bool {b : Bool} {v : Value} (h : conc φ (.bool b) = some v) : v = .bool b := by simp only [conc] at h; cases h; rfl
theorem conc_str {s : List UInt8} {v : Value} (h : conc φ (.str s) = some v) : v = .string ⟨s.toArray⟩ := by simp only [conc] at h; cases h; rfl
theorem conc_nilptr {v : Value} (h : conc φ .nilptr = some v) : v = .pointer none := by simp only [conc] at h; cases h; rfl
theorem conc_nilslice {v : Value} (h : conc φ .nilslice = some v) : v = .slice none 0 0 := by simp only [conc] at h; cases h; rfl
theorem conc_nilmap {v : Value} (h : conc φ .nilmap = some v) : v = .map none := by simp only [conc] at h; cases h; rfl
theorem conc_nilFunc {v : Value} (h : conc φ .nilFunc = some v) : v = .nilFunc := by simp only [conc] at h; cases h; rfl
theorem conc_nilIface {v : Value} (h : conc φ .nilIface = some v) : v = .nilIface := by simp only [conc] at h; cases h; rfl
theorem conc_ptr {b o : Nat} {v : Value} (h : conc φ (.ptr b o) = some v) : ∃ B d x, φ b = some (B, d, x) ∧ v = .pointer (some ⟨B, d + o, none⟩) := by
  simp only [conc] at h
  cases hb : φ b with
  | none => rw [hb] at h; simp at h
  | some t => obtain ⟨B, d, x⟩ := t; rw [hb] at h; cases h; exact ⟨B, d, x, rfl, rfl⟩
theorem conc_slice {b o len cap : Nat} {op : Bool} {v : Value} (h : conc φ (.slice b o len cap op) = some v) :
    ∃ B d x, φ b = some (B, d, x) ∧ v = .slice (some ⟨B, d + o, none⟩) len (bif op then cap + x else cap) := by
  simp only [conc] at h
  cases hb : φ b with
  | none => rw [hb] at h; simp at h
  | some t => obtain ⟨B, d, x⟩ := t; rw [hb] at h; cases h; exact ⟨B, d, x, rfl, rfl⟩
theorem conc_map {r : Nat} {v : Value} (h : conc φ (.map r) = some v) : ∃ B d x, φ r = some (B, d, x) ∧ v = .map (some B) := by
  simp only [conc] at h
  cases hb : φ r with
  | none => rw [hb] at h; simp at h
  | some t => obtain ⟨B, d, x⟩ := t; rw [hb] at h; cases h; exact ⟨B, d, x, rfl, rfl⟩
theorem conc_iface {t : TypeId} {x : AV} {v : Value} (h : conc φ (.iface t x) = some v) : ∃ x', conc φ x = some x' ∧ v = .iface t x' := by
  simp only [conc] at h
  cases hb : conc φ x with
  | none => rw [hb] at h; simp at h
  | some y => rw [hb] at h; cases h; exact ⟨y, rfl, rfl⟩
theorem conc_agg {cs : List AV} {v : Value} (h : conc φ (.agg cs) = some v) : ∃ l, concL φ cs = some l ∧ v = .agg l.toArray := by
  simp only [conc] at h
  cases hb : concL φ cs with
  | none => rw [hb] at h; simp at h
  | some y => rw [hb] at h; cases h; exact ⟨y, rfl, rfl⟩
theorem conc_tuple {cs : List AV} {v : Value} (h : conc φ (.tuple cs) = some v) : ∃ l, concL φ cs = some l ∧ v = .tuple l.toArray := by
  simp only [conc] at h
  cases hb : concL φ cs with
  | none => rw [hb] at h; simp at h
  | some y => rw [hb] at h; cases h; exact ⟨y, rfl, rfl⟩
theorem conc_func {fn : Fn} {x y : List AV} {v : Value} (h : conc φ (.func fn x y) = some v) :
    ∃ fn' x' y', concFn φ fn = some fn' ∧ concL φ x = some x' ∧ concL φ y = some y' ∧ v = .func fn' x'.toArray y'.toArray := by
  simp only [conc] at h
  cases hf : concFn φ fn with
  | none => rw [hf] at h; simp at h
  | some fn' =>
    cases hx : concL φ x with
    | none => rw [hf, hx] at h; simp at h
    | some x' =>
      cases hy : concL φ y with
      | none => rw [hf, hx, hy] at h; simp at h
      | some y' => rw [hf, hx, hy] at h; cases h; exact ⟨fn', x', y', rfl, rfl, rfl, rfl⟩

theorem conc_sym {k : Knd} {f : SOp} {cs : List AV} {v : Value} (h : conc φ (.sym k f cs) = some v) : ∃ l, concL φ cs = some l ∧ v = Sg.den k f l := by
  simp only [conc] at h
  cases hb : concL φ cs with
  | none => rw [hb] at h; simp at h
  | some y => rw [hb] at h; cases h; exact ⟨y, rfl, rfl⟩
theorem conc_sym_knd {k : Knd} {f : SOp} {cs : List AV} {v : Value} (h : conc φ (.sym k f cs) = some v) : HasKnd k v := by
  obtain ⟨l, _, rfl⟩ := conc_sym h
  exact Sg.den_knd k f l
theorem conc_sstr {cs : List AV} {v : Value} (h : conc φ (.sstr cs) = some v) : ∃ l s, concL φ cs = some l ∧ bytesV l = some s ∧ v = .string ⟨s.toArray⟩ := by
  simp only [conc] at h
  cases hb : concL φ cs with
  | none => rw [hb] at h; simp at h
  | some y =>
    rw [hb] at h
    simp only at h
    split at h
    · rename_i s hs; cases h; exact ⟨y, s, rfl, hs, rfl⟩
    · cases h

theorem HasKnd.one {k : Knd} {v : Value} (h : HasKnd k v) (hk : k ≠ .any) : v.oneCell' = true := by
  cases k with
  | int k => obtain ⟨n, rfl, _⟩ := h; rfl
  | bool => obtain ⟨n, rfl⟩ := h; rfl
  | str => obtain ⟨n, rfl⟩ := h; rfl
  | one => exact h
  | any => exact absurd rfl hk

theorem cells_one {v : Value} (h : v.oneCell' = true) : v.cells = #[v] := by
  cases v <;> first | rfl | cases h

theorem conc_cells {x : AV} {v : Value} (h : conc φ x = some v) (hx : notAny x = true) : concL φ x.cells = some v.cells.toList := by
  cases x with
  | sym k f cs =>
    have hk : k ≠ .any := by rintro rfl; cases hx
    rw [cells_one ((conc_sym_knd h).one hk)]
    exact concL_cons_mk h rfl
  | sstr cs => obtain ⟨l, s, _, _, rfl⟩ := conc_sstr h; exact concL_cons_mk h rfl
  | agg cs => obtain ⟨l, hl, rfl⟩ := conc_agg h; simpa [AV.cells, Value.cells] using hl
  | bool b => cases conc_bool h; exact concL_cons_mk h rfl
  | int k n => cases conc_int h; exact concL_cons_mk h rfl
  | str s => cases conc_str h; exact concL_cons_mk h rfl
  | nilptr => cases conc_nilptr h; exact concL_cons_mk h rfl
  | nilslice => cases conc_nilslice h; exact concL_cons_mk h rfl
  | nilmap => cases conc_nilmap h; exact concL_cons_mk h rfl
  | nilFunc => cases conc_nilFunc h; exact concL_cons_mk h rfl
  | nilIface => cases conc_nilIface h; exact concL_cons_mk h rfl
  | ptr b o => obtain ⟨B, d, y, _, rfl⟩ := conc_ptr h; exact concL_cons_mk h rfl
  | slice b o l c p => obtain ⟨B, d, y, _, rfl⟩ := conc_slice h; exact concL_cons_mk h rfl
  | map r => obtain ⟨B, d, y, _, rfl⟩ := conc_map h; exact concL_cons_mk h rfl
  | iface t y => obtain ⟨B, _, rfl⟩ := conc_iface h; exact concL_cons_mk h rfl
  | func f y z => obtain ⟨B, d, e, _, _, _, rfl⟩ := conc_func h; exact concL_cons_mk h rfl
  | tuple cs => obtain ⟨l, hl, rfl⟩ := conc_tuple h; exact concL_cons_mk h rfl

theorem flat_one {x : AV} {v : Value} (h : conc φ x = some v) (hf : flatAV x = true) : v.oneCell' = true := by
  cases x with
  | sym k f cs => exact (conc_sym_knd h).one (by rintro rfl; simp [flatAV] at hf)
  | sstr cs => obtain ⟨l, s, _, _, rfl⟩ := conc_sstr h; rfl
  | agg cs => simp [flatAV] at hf
  | tuple cs => simp [flatAV] at hf
  | bool b => cases conc_bool h; rfl
  | int k n => cases conc_int h; rfl
  | str s => cases conc_str h; rfl
  | nilptr => cases conc_nilptr h; rfl
  | nilslice => cases conc_nilslice h; rfl
  | nilmap => cases conc_nilmap h; rfl
  | nilFunc => cases conc_nilFunc h; rfl
  | nilIface => cases conc_nilIface h; rfl
  | ptr b o => obtain ⟨B, d, y, _, rfl⟩ := conc_ptr h; rfl
  | slice b o l c p => obtain ⟨B, d, y, _, rfl⟩ := conc_slice h; rfl
  | map r => obtain ⟨B, d, y, _, rfl⟩ := conc_map h; rfl
  | iface t y => obtain ⟨B, _, rfl⟩ := conc_iface h; rfl
  | func f y z => obtain ⟨B, d, e, _, _, _, rfl⟩ := conc_func h; rfl

theorem flatL_one : ∀ {l : List AV} {r : List Value}, concL φ l = some r → flatL l = true → ∀ v ∈ r, v.oneCell' = true
  | [], r, h, _, v, hv => by simp only [concL] at h; cases h; cases hv
  | x :: l, r, h, hf, v, hv => by
    obtain ⟨x', l', hx, hl, rfl⟩ := concL_cons h
    simp only [flatL, Bool.and_eq_true] at hf
    cases hv with
    | head => exact flat_one hx hf.1
    | tail _ hm => exact flatL_one hl hf.2 v hm

end
end Go.Ax

/- The abstract executor: operations on values. -/
namespace Go.Ax
variable [Opq]

inductive IsVal : Next → Value → Prop
  | val (v : Value) : IsVal (.value v) v
  | skip : IsVal .skip undef

/-- what the abstract state stands for -/
structure In (C : Ctx) (φ : Inj) (h : Heap) (nx : Nat) (w : World) (ts : Tmps) (a : Act) : Prop where
  rep : Rep C.P φ h nx w
  ts : TsRel φ ts a.tmps

/-- the operation tells v and changes nothing -/
def Vals (C : Ctx) (φ : Inj) (w : World) (a : Act) (o : Oper) (v : AV) : Prop :=
  ∃ n v', (execOp a.eval o).run C.P w = .ok n w ∧ IsVal n v' ∧ conc φ v = some v'

/-- what one operation may change beside a new name -/
structure Eff (φ : Inj) (h : Heap) (w : World) (nm : Nat) (φ' : Inj) (h' : Heap) (w' : World) : Prop where
  ext : ∀ b, b ≠ nm → φ' b = φ b
  os : w'.os = w.os
  out : w'.output = w.output
  size : w.heap.size ≤ w'.heap.size
  frame : ∀ i, i < w.heap.size → (∀ b o, h.get b = some o → ¬ φ.owns o b i) → w'.heap[i]? = w.heap[i]?
  dom : ∀ b o B, h'.get b = some o → φ'.owns o b B → w.heap.size ≤ B ∨ ∃ b0 o0, h.get b0 = some o0 ∧ φ.owns o0 b0 B

def Fresh (C : Ctx) (φ : Inj) (h : Heap) (nx : Nat) (w : World) (nm : Nat) (a : Act) (o : Oper) (v : AV) (h' : Heap) : Prop :=
  ∃ n v' w' φ', (execOp a.eval o).run C.P w = .ok n w' ∧ IsVal n v' ∧ conc φ' v = some v' ∧ Rep C.P φ' h' nx w' ∧ Eff φ h w nm φ' h' w'

/-- a new name without a block -/
def Ghost (C : Ctx) (φ : Inj) (w : World) (nm : Nat) (a : Act) (o : Oper) (v : AV) : Prop :=
  ∃ n v' x, (execOp a.eval o).run C.P w = .ok n w ∧ IsVal n v' ∧ conc (fun b => if b = nm then some x else φ b) v = some v'

def Loud (C : Ctx) (φ : Inj) (h : Heap) (nx : Nat) (w : World) (nm : Nat) (a : Act) (o : Oper) (v : AV) (h' : Heap) : Prop :=
  ∃ n v' w', (execOp a.eval o).run C.P w = .ok n w' ∧ IsVal n v' ∧ conc φ v = some v' ∧ Rep C.P φ h' nx w' ∧ Eff φ h w nm φ h' w'

def CallsFn (C : Ctx) (φ : Inj) (w : World) (a : Act) (o : Oper) : Callee → List AV → Prop
  | .fn f, args => ∃ args' : Array Value, (execOp a.eval o).run C.P w = .ok (.enter f args') w ∧ concL φ args = some args'.toList
  | .dfn _, _ => False
  | .yield l, args => ∃ L d x, ∃ args' : Array Value, φ l = some (L, d, x) ∧ (execOp a.eval o).run C.P w = (Instr.yield L args').run C.P w ∧ concL φ args = some args'.toList

def OpPost (C : Ctx) (φ : Inj) (h : Heap) (nx : Nat) (w : World) (nm : Nat) (a : Act) (o : Oper) : Res → Prop
  | .q v => Vals C φ w a o v
  | .f v ob ed => Fresh C φ h nx w nm a o v ((edit h ed).put nm (some ob))
  | .g v ob ed => Fresh C φ h nx w nm a o v ((edit h (some ed)).put nm (some ob)) ∧ Ghost C φ w nm a o v
  | .l v h' => Loud C φ h nx w nm a o v h'
  | .c f args => CallsFn C φ w a o f args
  | .d fn captured args => ∃ fn' captured' args', concFn φ fn = some fn' ∧ concL φ captured = some captured' ∧ concL φ args = some args' ∧
      ∀ w', (execOp a.eval o).run C.P w' = .ok (.defer { target := .fn fn' captured'.toArray, args := args'.toArray }) w'

section
variable {C : Ctx} {φ : Inj} {h : Heap} {nx nm : Nat} {w : World} {ts : Tmps} {a : Act} {o : Oper}

theorem Vals.mk' {v : AV} {v' : Value} (hv : conc φ v = some v') (hr : (execOp a.eval o).run C.P w = .ok (.value v') w) : Vals C φ w a o v :=
  ⟨_, v', hr, .val v', hv⟩

theorem In.opd (hi : In C φ h nx w ts a) {x : Operand} {y : Opd} (hx : opd C.P x = some y) : conc φ (ev ts y) = some (a.eval x) :=
  opd_sound hi.rep.glob hi.ts hx

theorem In.opds (hi : In C φ h nx w ts a) {l : List Operand} {r : List Opd} (hx : opds C.P l = some r) : concL φ (evL ts r) = some (l.map a.eval) :=
  opds_sound hi.rep.glob hi.ts hx

theorem qO_some {x : Option AV} {r : Res} (h : qO x = some r) : ∃ v, x = some v ∧ r = .q v := by
  cases x with
  | none => simp [qO] at h
  | some v => simp only [qO] at h; cases h; exact ⟨v, rfl, rfl⟩

theorem s_move (hi : In C φ h nx w ts a) {x : Operand} (ho : o.op = .move x ∨ o.op = .assign x) {ao : AOp} {r : Res}
    (hc : compOp? C.P o = some ao) (hop : op0 C ao nm ts h = some r) : OpPost C φ h nx w nm a o r := by
  rcases ho with ho | ho <;>
  · simp only [compOp?, ho] at hc
    split at hc
    · rename_i y hx
      cases hc
      simp only [op0] at hop; cases hop
      exact Vals.mk' (hi.opd hx) (by simp [execOp, ho])
    · cases hc

theorem s_pick (hi : In C φ h nx w ts a) {c x y : Operand} (ho : o.op = .pick c x y) {ao : AOp} {r : Res}
    (hc : compOp? C.P o = some ao) (hop : op0 C ao nm ts h = some r) : OpPost C φ h nx w nm a o r := by
  simp only [compOp?, ho] at hc
  split at hc
  · rename_i c' x' y' hcc hxx hyy
    cases hc
    simp only [op0] at hop
    have h1 := hi.opd hcc
    cases hb : ev ts c' with
    | bool b =>
      rw [hb] at hop h1; cases hop
      have h2 := conc_bool h1
      cases b with
      | true => exact Vals.mk' (hi.opd hxx) (by simp [execOp, ho, h2, asBool])
      | false => exact Vals.mk' (hi.opd hyy) (by simp [execOp, ho, h2, asBool])
    | _ => rw [hb] at hop; cases hop
  · cases hc

theorem s_nilCheck (hi : In C φ h nx w ts a) {x : Operand} (ho : o.op = .nilCheck x) {ao : AOp} {r : Res}
    (hc : compOp? C.P o = some ao) (hop : op0 C ao nm ts h = some r) : OpPost C φ h nx w nm a o r := by
  simp only [compOp?, ho] at hc
  split at hc
  · rename_i x' hxx
    cases hc
    have h1 := hi.opd hxx
    simp only [op0] at hop
    split at hop <;> (try cases hop)
    · rename_i b p hb; rw [hb] at h1; obtain ⟨B, d, y, hB, hv⟩ := conc_ptr h1
      exact Vals.mk' h1 (by simp [execOp, ho, hv])
    · rename_i t v hb; rw [hb] at h1; obtain ⟨B, hB, hv⟩ := conc_iface h1
      exact Vals.mk' h1 (by simp [execOp, ho, hv])
    · rename_i f y z hb; rw [hb] at h1; obtain ⟨fn', y', z', hf, hy, hz, hv⟩ := conc_func h1
      cases hf
      exact Vals.mk' h1 (by simp [execOp, ho, hv])
    · rename_i r hb; rw [hb] at h1; obtain ⟨B, d, y, hB, hv⟩ := conc_map h1
      exact Vals.mk' h1 (by simp [execOp, ho, hv])
    · rename_i hb; rw [hb] at h1; have hv := conc_nilmap h1
      exact Vals.mk' h1 (by simp [execOp, ho, hv])
    · rename_i hb; rw [hb] at h1; have hv := conc_nilslice h1
      exact Vals.mk' h1 (by simp [execOp, ho, hv])
    · rename_i b p l c q hb; rw [hb] at h1; obtain ⟨B, d, y, hB, hv⟩ := conc_slice h1
      exact Vals.mk' h1 (by simp [execOp, ho, hv])
  · cases hc

def isConstO : Operand → Bool
  | .const _ => true
  | _ => false

theorem isC_of {P : Program} {x : Operand} {y : Opd} (h : Ax.opd P x = some y) (hv : a.eval x = .nilIface) : isConstO x = isC y := by
  cases x with
  | tmp t => simp only [Ax.opd] at h; cases h; rfl
  | const v =>
    simp only [Ax.opd] at h
    split at h
    · cases h; rfl
    · cases h
  | global g => simp [Act.eval] at hv
  | func f => simp [Act.eval] at hv

theorem eqGuard_same {op : BinOp} {t : TypeId} {x y x' y' : Operand} {u v : Value}
    (hx : u = .nilIface → v = .nilIface → (isConstO x || isConstO y) = (isConstO x' || isConstO y')) :
    eqGuard op t x y u v = eqGuard op t x' y' u v := by
  unfold eqGuard
  cases op <;> (try rfl) <;>
    (simp only [Bool.not_true, Bool.false_eq_true, if_false]
     split
     · have := hx rfl rfl
       revert this
       cases x <;> cases y <;> cases x' <;> cases y' <;> simp [isConstO]
     · rfl
     · rfl)

theorem eqGuard_pure {op : BinOp} {t : TypeId} {x y : Operand} {u v : Value} (hu : ¬ (u = .nilIface ∧ v = .nilIface)) (ha : ∀ cs ds, ¬ (u = .agg cs ∧ v = .agg ds)) (w : World) :
    (eqGuard op t x y u v).run C.P w = .ok () w := by
  unfold eqGuard
  cases op <;> (try rfl) <;>
    (simp only [Bool.not_true, Bool.false_eq_true, if_false]
     split
     · exact absurd ⟨rfl, rfl⟩ hu
     · exact absurd ⟨rfl, rfl⟩ (ha _ _)
     · rfl)

theorem r_eql {P : Program} {t : TypeId} {u v : Value} {r : Bool} {w : World} (hu : ∀ k n, u ≠ .int k n) (hu2 : ∀ k n, u ≠ .float k n) (hu3 : ∀ k n m, u ≠ .complex k n m) (hu4 : ∀ s, u ≠ .string s)
    (h : (Op.equal t u v).run P w = .ok r w) : (binOp .eql t u v).run P w = .ok (.bool r) w ∧ (binOp .neq t u v).run P w = .ok (.bool !r) w := by
  cases u <;> first
    | exact absurd rfl (hu _ _)
    | exact absurd rfl (hu2 _ _)
    | exact absurd rfl (hu3 _ _ _)
    | exact absurd rfl (hu4 _)
    | (constructor <;> simp [binOp, h])

theorem equal_once (t : TypeId) (u v : Value) : Op.equal t u v = Op.equalIn (9999 + 1) t u v := rfl

theorem nil_eq {P : Program} {d : TypeDesc} {t : TypeId} {x y : AV} {u v : Value} {r : Bool} (hd : P.underlying t = some d) (hn : nilEq x y = some r)
    (hx : nilKind d x = true) (hu : conc φ x = some u) (hv : conc φ y = some v) (w : World) : (Op.equal t u v).run P w = .ok r w := by
  have hrun : ∀ w, (underlying t).run P w = .ok d w := fun w => r_underlying hd
  cases x <;> cases y <;> simp only [nilEq, Option.some.injEq, reduceCtorEq] at hn <;> subst hn <;>
    cases d <;> simp only [nilKind, Bool.false_eq_true] at hx <;>
    (first
      | (cases conc_nilptr hu; cases conc_nilptr hv; (rw [equal_once, Op.equalIn]; simp only [Sem.run_bind, hrun, Result.andThen_ok]; rfl))
      | (cases conc_nilptr hu; obtain ⟨B, e, z, _, rfl⟩ := conc_ptr hv; (rw [equal_once, Op.equalIn]; simp only [Sem.run_bind, hrun, Result.andThen_ok]; rfl))
      | (cases conc_nilptr hv; obtain ⟨B, e, z, _, rfl⟩ := conc_ptr hu; (rw [equal_once, Op.equalIn]; simp only [Sem.run_bind, hrun, Result.andThen_ok]; rfl))
      | (cases conc_nilslice hu; cases conc_nilslice hv; (rw [equal_once, Op.equalIn]; simp only [Sem.run_bind, hrun, Result.andThen_ok]; rfl))
      | (cases conc_nilslice hu; obtain ⟨B, e, z, _, rfl⟩ := conc_slice hv; (rw [equal_once, Op.equalIn]; simp only [Sem.run_bind, hrun, Result.andThen_ok]; rfl))
      | (cases conc_nilslice hv; obtain ⟨B, e, z, _, rfl⟩ := conc_slice hu; (rw [equal_once, Op.equalIn]; simp only [Sem.run_bind, hrun, Result.andThen_ok]; rfl))
      | (cases conc_nilmap hu; cases conc_nilmap hv; (rw [equal_once, Op.equalIn]; simp only [Sem.run_bind, hrun, Result.andThen_ok]; rfl))
      | (cases conc_nilmap hu; obtain ⟨B, e, z, _, rfl⟩ := conc_map hv; (rw [equal_once, Op.equalIn]; simp only [Sem.run_bind, hrun, Result.andThen_ok]; rfl))
      | (cases conc_nilmap hv; obtain ⟨B, e, z, _, rfl⟩ := conc_map hu; (rw [equal_once, Op.equalIn]; simp only [Sem.run_bind, hrun, Result.andThen_ok]; rfl))
      | (cases conc_nilFunc hu; cases conc_nilFunc hv; (rw [equal_once, Op.equalIn]; simp only [Sem.run_bind, hrun, Result.andThen_ok]; rfl))
      | (cases conc_nilFunc hu; obtain ⟨B, e, z, _, _, _, rfl⟩ := conc_func hv; (rw [equal_once, Op.equalIn]; simp only [Sem.run_bind, hrun, Result.andThen_ok]; rfl))
      | (cases conc_nilFunc hv; obtain ⟨B, e, z, _, _, _, rfl⟩ := conc_func hu; (rw [equal_once, Op.equalIn]; simp only [Sem.run_bind, hrun, Result.andThen_ok]; rfl))
      | (cases conc_nilIface hu; obtain ⟨z, _, rfl⟩ := conc_iface hv; (rw [equal_once, Op.equalIn]; simp only [Sem.run_bind, hrun, Result.andThen_ok]; rfl))
      | (cases conc_nilIface hv; obtain ⟨z, _, rfl⟩ := conc_iface hu; (rw [equal_once, Op.equalIn]; simp only [Sem.run_bind, hrun, Result.andThen_ok]; rfl)))

end
end Go.Ax

/- The abstract executor: values that are not given. -/
namespace Go.Ax

mutual
theorem beq_eq : ∀ {u v : AV}, AV.beq u v = true → u = v
  | .bool a, .bool b, h => by simp only [AV.beq, beq_iff_eq] at h; rw [h]
  | .int k n, .int k' n', h => by simp only [AV.beq, Bool.and_eq_true, decide_eq_true_eq] at h; rw [h.1, h.2]
  | .str a, .str b, h => by simp only [AV.beq, beq_iff_eq] at h; rw [h]
  | .nilptr, .nilptr, _ => rfl
  | .nilslice, .nilslice, _ => rfl
  | .nilmap, .nilmap, _ => rfl
  | .nilFunc, .nilFunc, _ => rfl
  | .nilIface, .nilIface, _ => rfl
  | .ptr b o, .ptr b' o', h => by simp only [AV.beq, Bool.and_eq_true] at h; rw [Nat.eq_of_beq_eq_true h.1, Nat.eq_of_beq_eq_true h.2]
  | .slice b o l c p, .slice b' o' l' c' p', h => by
    simp only [AV.beq, Bool.and_eq_true, beq_iff_eq] at h
    rw [Nat.eq_of_beq_eq_true h.1, Nat.eq_of_beq_eq_true h.2.1, Nat.eq_of_beq_eq_true h.2.2.1, Nat.eq_of_beq_eq_true h.2.2.2.1, h.2.2.2.2]
  | .map r, .map r', h => by simp only [AV.beq] at h; rw [Nat.eq_of_beq_eq_true h]
  | .func f a b, .func f' a' b', h => by
    simp only [AV.beq, Bool.and_eq_true, decide_eq_true_eq] at h
    rw [h.1, beqL_eq h.2.1, beqL_eq h.2.2]
  | .iface t v, .iface t' v', h => by
    simp only [AV.beq, Bool.and_eq_true] at h
    rw [Nat.eq_of_beq_eq_true h.1, beq_eq h.2]
  | .agg a, .agg b, h => by simp only [AV.beq] at h; rw [beqL_eq h]
  | .tuple a, .tuple b, h => by simp only [AV.beq] at h; rw [beqL_eq h]
  | .sym k f a, .sym k' f' a', h => by
    simp only [AV.beq, Bool.and_eq_true, decide_eq_true_eq] at h
    rw [h.1, h.2.1, beqL_eq h.2.2]
  | .sstr a, .sstr b, h => by simp only [AV.beq] at h; rw [beqL_eq h]
theorem beqL_eq : ∀ {u v : List AV}, beqL u v = true → u = v
  | [], [], _ => rfl
  | a :: l, b :: m, h => by
    simp only [beqL, Bool.and_eq_true] at h
    rw [beq_eq h.1, beqL_eq h.2]
end

variable [Opq]

omit [Opq] in
theorem wrap_def (k : IntKind) (n : Int) : k.wrap n = if k.signed = true ∧ n % (2 ^ k.bits : Int) ≥ (2 ^ (k.bits - 1) : Int) then n % (2 ^ k.bits : Int) - (2 ^ k.bits : Int) else n % (2 ^ k.bits : Int) := by
  unfold IntKind.wrap
  simp only [Bool.and_eq_true, decide_eq_true_eq]

omit [Opq] in
theorem wrap_wrap (k : IntKind) (n : Int) : k.wrap (k.wrap n) = k.wrap n := by
  rw [wrap_def k n, wrap_def]
  cases k <;> simp only [IntKind.signed, IntKind.bits, true_and, Bool.false_eq_true, false_and, if_false] <;> omega

omit [Opq] in
theorem wrap_range (k : IntKind) (n : Int) : k.wrap n = n ↔ k.min ≤ n ∧ n ≤ k.max := by
  rw [wrap_def]
  cases k <;> simp only [IntKind.min, IntKind.max, IntKind.signed, IntKind.bits, true_and, Bool.false_eq_true, false_and, if_false, if_true] <;> omega

section
variable {P : Program} {φ : Inj} {w : World}

theorem kndA_int {x : AV} {k : IntKind} {u : Value} (h : kndA x = some (.int k)) (hx : conc φ x = some u) : ∃ n, u = .int k n ∧ (canonA x = true → k.wrap n = n) := by
  cases x <;> simp only [kndA, reduceCtorEq, Option.some.injEq, Knd.int.injEq] at h
  · subst h; exact ⟨_, conc_int hx, fun hc => by simpa [canonA] using hc⟩
  · subst h
    obtain ⟨n, rfl, hn⟩ := conc_sym_knd hx
    exact ⟨n, rfl, fun _ => hn⟩

theorem kndA_bool {x : AV} {u : Value} (h : kndA x = some .bool) (hx : conc φ x = some u) : ∃ b, u = .bool b := by
  cases x <;> simp only [kndA, reduceCtorEq, Option.some.injEq] at h
  · exact ⟨_, conc_bool hx⟩
  · subst h; exact conc_sym_knd hx

theorem den2 {k : Knd} {op : BinOp} {x y : AV} {u u' v : Value} (hx : conc φ x = some u) (hy : conc φ y = some u') (hv : binV op u u' = v) (hk : HasKnd k v) :
    conc φ (.sym k (.bin op) [x, y]) = some v := by
  simp only [conc, concL, hx, hy]
  exact congrArg some (Sg.den_eq hv hk)

theorem fdiv_range {k : IntKind} {a : Int} {n : Nat} (h : k.wrap a = a) : k.wrap (a.fdiv (2 ^ n)) = a.fdiv (2 ^ n) := by
  rw [wrap_range] at h ⊢
  have hp : (0 : Int) < 2 ^ n := by have := Nat.two_pow_pos n; exact_mod_cast this
  rw [Int.fdiv_eq_ediv_of_nonneg _ (Int.le_of_lt hp)]
  have h1 : (1 : Int) ≤ 2 ^ n := by omega
  have hmin : k.min ≤ 0 := by cases k <;> simp [IntKind.min, IntKind.signed, IntKind.bits]
  have hmax : 0 ≤ k.max := by cases k <;> simp [IntKind.max, IntKind.signed, IntKind.bits]
  constructor
  · rw [Int.le_ediv_iff_mul_le hp]
    have : k.min * 2 ^ n ≤ k.min * 1 := Int.mul_le_mul_of_nonpos_left hmin h1
    omega
  · rcases Int.lt_or_le a 0 with ha | ha
    · have : a / 2 ^ n < 0 := Int.ediv_neg_of_neg_of_pos ha hp
      omega
    · have : a / 2 ^ n ≤ a := Int.ediv_le_self _ ha
      omega

theorem emod_le_self {a b : Int} (ha : 0 ≤ a) : a % b ≤ a := by
  rcases Int.lt_trichotomy b 0 with hb | hb | hb
  · rw [← Int.emod_neg]
    rcases Int.lt_or_le a (-b) with h | h
    · rw [Int.emod_eq_of_lt ha h]; omega
    · have := Int.emod_lt_of_pos a (show 0 < -b by omega); omega
  · subst hb; simp
  · rcases Int.lt_or_le a b with h | h
    · rw [Int.emod_eq_of_lt ha h]; omega
    · have := Int.emod_lt_of_pos a hb; omega

theorem tmod_range {k : IntKind} {a b : Int} (h : k.wrap a = a) : k.wrap (a.tmod b) = a.tmod b := by
  rw [wrap_range] at h ⊢
  have hmin : k.min ≤ 0 := by cases k <;> simp [IntKind.min, IntKind.signed, IntKind.bits]
  have hmax : 0 ≤ k.max := by cases k <;> simp [IntKind.max, IntKind.signed, IntKind.bits]
  rcases Int.le_total 0 a with ha | ha
  · have h1 := Int.tmod_nonneg b ha
    have h2 : a.tmod b ≤ a := by
      rw [Int.tmod_eq_emod_of_nonneg ha]
      exact emod_le_self ha
    omega
  · have e : a.tmod b = -((-a).tmod b) := by rw [Int.neg_tmod]; omega
    have ha' : 0 ≤ -a := by omega
    have h1 := Int.tmod_nonneg b ha'
    have h2 : (-a).tmod b ≤ -a := by
      rw [Int.tmod_eq_emod_of_nonneg ha']
      exact emod_le_self ha'
    omega

theorem arith_case {op : BinOp} {t : TypeId} {k : IntKind} {x y : AV} {u u' : Value} (hx : conc φ x = some u) (hy : conc φ y = some u') (m : Int) (h1 : binOp op t u u' = .pure (.int k (k.wrap m))) (h2 : binV op u u' = .int k (k.wrap m)) :
    ∃ v', conc φ (.sym (.int k) (.bin op) [x, y]) = some v' ∧ binOp op t u u' = .pure v' := ⟨_, den2 hx hy h2 ⟨_, rfl, wrap_wrap k m⟩, h1⟩

theorem bool_case {op : BinOp} {t : TypeId} {x y : AV} {u u' : Value} (hx : conc φ x = some u) (hy : conc φ y = some u') (m : Bool) (h1 : binOp op t u u' = .pure (.bool m)) (h2 : binV op u u' = .bool m) :
    ∃ v', conc φ (.sym .bool (.bin op) [x, y]) = some v' ∧ binOp op t u u' = .pure v' := ⟨_, den2 hx hy h2 ⟨_, rfl⟩, h1⟩

theorem symInt_sound {op : BinOp} {t : TypeId} {k k' : IntKind} {x y v : AV} {u u' : Value} (h : symInt op k k' x y = some v) (kx : kndA x = some (.int k)) (ky : kndA y = some (.int k'))
    (hx : conc φ x = some u) (hy : conc φ y = some u') : ∃ v', conc φ v = some v' ∧ binOp op t u u' = .pure v' := by
  obtain ⟨a, rfl, ca⟩ := kndA_int kx hx
  obtain ⟨b, rfl, cb⟩ := kndA_int ky hy
  have hs : ∀ {a b : Int}, (conc φ x = some (.int k a)) → (conc φ y = some (.int k' b)) → AV.beq x y = true → k = k' → a = b := by
    intro a b h1 h2 hb hk
    have := beq_eq hb
    subst this; subst hk
    rw [h1] at h2
    cases h2; rfl
  have ar : ∀ n : Int, HasKnd (.int k) (.int k (k.wrap n)) := fun n => ⟨_, rfl, wrap_wrap k n⟩
  have ar' : ∀ n : Int, HasKnd (.int k') (.int k' (k'.wrap n)) := fun n => ⟨_, rfl, wrap_wrap k' n⟩
  have sh : 0 ≤ b → canonA x = true → (op = .shl ∨ op = .shr) → ∃ v', conc φ (.sym (.int k) (.bin op) [x, y]) = some v' ∧ binOp op t (.int k a) (.int k' b) = .pure v' := by
    intro hb hc hop
    have e : ∀ t, binOp op t (.int k a) (.int k' b) = Op.shift op k a k' b := by
      intro t; rcases hop with rfl | rfl <;> rfl
    have e2 : Op.shift op k a k' b = .pure (if op = .shl then .int k (k.wrap (a * 2 ^ (min b.toNat k.bits))) else .int k (a.fdiv (2 ^ (min b.toNat k.bits)))) := by
      unfold Op.shift
      rw [if_neg (by omega)]
      rcases hop with rfl | rfl <;> rfl
    rw [e, e2]
    refine ⟨_, den2 hx hy ?_ ?_, rfl⟩
    · have : binV op (.int k a) (.int k' b) = match binOp op 0 (.int k a) (.int k' b) with | .pure v => v | _ => undef := by
        rcases hop with rfl | rfl <;> rfl
      rw [this, e, e2]
    · rcases hop with rfl | rfl
      · exact ar _
      · exact ⟨_, rfl, fdiv_range (ca hc)⟩
  cases op <;> simp only [symInt] at h
  case shl =>
    split at h
    · rename_i k1 n
      split at h
      · rename_i hc; cases h
        cases conc_int hy
        exact sh hc.1 hc.2 (.inl rfl)
      · cases h
    · rename_i hno
      split at h
      · rename_i hc; cases h
        refine sh ?_ hc.2 (.inl rfl)
        have : canonA y = true := by
          cases y with
          | int k n => exact absurd rfl (hno k n)
          | sym k f args => rfl
          | bool b => cases ky
          | _ => cases ky
        have h1 := (wrap_range k' b).1 (cb this)
        have : k'.min = 0 := by unfold IntKind.min; rw [hc.1]; rfl
        omega
      · cases h
  case shr =>
    split at h
    · rename_i k1 n
      split at h
      · rename_i hc; cases h
        cases conc_int hy
        exact sh hc.1 hc.2 (.inr rfl)
      · cases h
    · rename_i hno
      split at h
      · rename_i hc; cases h
        refine sh ?_ hc.2 (.inr rfl)
        have : canonA y = true := by
          cases y with
          | int k n => exact absurd rfl (hno k n)
          | sym k f args => rfl
          | bool b => cases ky
          | _ => cases ky
        have h1 := (wrap_range k' b).1 (cb this)
        have : k'.min = 0 := by unfold IntKind.min; rw [hc.1]; rfl
        omega
      · cases h
  case quo =>
    split at h
    · rename_i y' k1 n
      split at h
      · rename_i hc; cases h
        obtain ⟨rfl, hc⟩ := hc
        cases conc_int hy
        have e : ∀ t, binOp .quo t (.int k a) (.int k b) = .pure (.int k (k.wrap (a.tdiv b))) := by
          intro t
          simp only [binOp, ne_eq, not_true_eq_false, if_false, Op.intDiv, if_neg hc]; rfl
        refine ⟨_, den2 hx hy ?_ (ar _), e t⟩
        show (match binOp .quo 0 (.int k a) (.int k b) with | .pure v => v | _ => undef) = _
        rw [e]
      · cases h
    · cases h
  case rem =>
    split at h
    · rename_i y' k1 n
      split at h
      · rename_i hc; cases h
        obtain ⟨rfl, hc, hcx⟩ := hc
        cases conc_int hy
        have e : ∀ t, binOp .rem t (.int k a) (.int k b) = .pure (.int k (a.tmod b)) := by
          intro t
          simp only [binOp, ne_eq, not_true_eq_false, if_false, Op.intDiv, if_neg hc]; rfl
        refine ⟨_, den2 hx hy ?_ ⟨_, rfl, tmod_range (ca hcx)⟩, e t⟩
        show (match binOp .rem 0 (.int k a) (.int k b) with | .pure v => v | _ => undef) = _
        rw [e]
      · cases h
    · cases h
  all_goals
    split at h
    rotate_left
    · cases h
    rename_i hk
    subst hk
  case add | sub | mul | and | or | xor | andNot =>
    cases h
    refine arith_case hx hy ?_ ?_ ?_
    rotate_left
    · simp only [binOp, ne_eq, not_true_eq_false, if_false, Op.intArith, Op.intBits]; rfl
    · simp only [binV, binOp, ne_eq, not_true_eq_false, if_false, Op.intArith, Op.intBits]; rfl
  all_goals
    split at h
    · rename_i r hb hr
      have := hs hx hy hb rfl
      subst this
      simp only [cmpB, Option.some.injEq, reduceCtorEq] at hr
      try subst hr
      try cases h
      try exact ⟨_, rfl, by simp only [binOp, ne_eq, not_true_eq_false, if_false, Op.intCmp, beq_self_eq_true, bne_self_eq_false]; rfl⟩
    · cases h
      refine bool_case hx hy ?_ ?_ ?_
      rotate_left
      · simp only [binOp, ne_eq, not_true_eq_false, if_false, Op.intCmp]; rfl
      · simp only [binV, binOp, ne_eq, not_true_eq_false, if_false, Op.intCmp]; rfl

theorem strBytes_conc (φ : Inj) : ∀ (s : List UInt8), ∃ l, concL φ (strBytes s) = some l ∧ bytesV l = some s
  | [] => ⟨[], rfl, rfl⟩
  | c :: s => by
    obtain ⟨l, h1, h2⟩ := strBytes_conc φ s
    refine ⟨.int .u8 c.toNat :: l, concL_cons_mk rfl h1, ?_⟩
    simp only [bytesV, h2]
    rw [if_pos ⟨by omega, by have := c.toNat_lt; omega⟩]
    simp

theorem byteL_sound {x : AV} {l : List AV} {u : Value} (h : byteL x = some l) (hx : conc φ x = some u) : ∃ l' s, concL φ l = some l' ∧ bytesV l' = some s ∧ u = .string ⟨s.toArray⟩ ∧ s.length = l.length := by
  have len : ∀ {l' : List Value} {s : List UInt8}, bytesV l' = some s → s.length = l'.length := by
    intro l'
    induction l' with
    | nil => intro s h; simp only [bytesV] at h; cases h; rfl
    | cons v l' ih =>
      intro s h
      simp only [bytesV] at h
      split at h
      · rename_i n r _ hr
        split at h
        · cases h; simp [ih hr]
        · cases h
      · cases h
  cases x <;> simp only [byteL, reduceCtorEq, Option.some.injEq] at h
  · subst h
    obtain ⟨l', h1, h2⟩ := strBytes_conc φ _
    refine ⟨l', _, h1, h2, conc_str hx, ?_⟩
    rw [len h2, concL_length h1]
  · subst h
    obtain ⟨l', s, h1, h2, rfl⟩ := conc_sstr hx
    exact ⟨l', s, h1, h2, rfl, by rw [len h2, concL_length h1]⟩

theorem bytesV_append : ∀ {l m : List Value} {s r : List UInt8}, bytesV l = some s → bytesV m = some r → bytesV (l ++ m) = some (s ++ r)
  | [], m, s, r, h, h' => by simp only [bytesV] at h; cases h; exact h'
  | v :: l, m, s, r, h, h' => by
    simp only [bytesV] at h
    split at h
    · rename_i n q _ hq
      split at h
      · rename_i hn
        cases h
        simp only [List.cons_append, bytesV, bytesV_append hq h', if_pos hn]
      · cases h
    · cases h

theorem symStr_sound {op : BinOp} {t : TypeId} {x y v : AV} {l m : List AV} {u u' : Value} (h : symStr op x y l m = some v) (lx : byteL x = some l) (ly : byteL y = some m)
    (hx : conc φ x = some u) (hy : conc φ y = some u') : ∃ v', conc φ v = some v' ∧ binOp op t u u' = .pure v' := by
  obtain ⟨l', s, l1, l2, rfl, l3⟩ := byteL_sound lx hx
  obtain ⟨m', r, m1, m2, rfl, m3⟩ := byteL_sound ly hy
  cases op <;> simp only [symStr, reduceCtorEq] at h
  case add =>
    cases hb : Nat.ble (l.length + m.length) 4294967296 with
    | false => rw [hb] at h; cases h
    | true =>
      rw [hb] at h; cases h
      have hle := Nat.le_of_ble_eq_true hb
      refine ⟨.string ⟨(s ++ r).toArray⟩, ?_, ?_⟩
      · simp only [conc, concL_append l1 m1, bytesV_append l2 m2]
      · simp only [binOp, Op.stringOp]
        rw [if_neg]
        · congr 1
        · simp only [ByteArray.size, List.size_toArray, l3, m3, IntKind.max, IntKind.signed, IntKind.bits, if_true]
          omega
  case eql | neq =>
    cases hb : Nat.beq l.length m.length with
    | false =>
      rw [hb] at h
      simp only [cond_false, cmpB, Option.some.injEq] at h
      subst h
      refine ⟨_, rfl, ?_⟩
      have hne : l.length ≠ m.length := Nat.ne_of_beq_eq_false hb
      have : ((ByteArray.mk s.toArray).toList == (ByteArray.mk r.toArray).toList) = false := by
        rw [beq_eq_false_iff_ne]
        intro e
        have e2 := congrArg List.length e
        rw [ByteArray.toList_mk, ByteArray.toList_mk] at e2
        omega
      simp only [binOp, Op.stringOp, this]; rfl
    | true =>
      rw [hb] at h
      simp only [cond_true] at h
      cases hl : beqL l m with
      | true =>
        rw [hl] at h
        have := beqL_eq hl
        subst this
        simp only [cond_true, cmpB, Option.some.injEq] at h
        subst h
        rw [l1] at m1; cases m1
        rw [l2] at m2; cases m2
        refine ⟨_, rfl, ?_⟩
        simp only [binOp, Op.stringOp, beq_self_eq_true]; rfl
      | false =>
        rw [hl] at h
        cases h
        exact bool_case hx hy _ rfl rfl
  all_goals
    cases h
    exact bool_case hx hy _ rfl rfl

theorem r_boolEq {t : TypeId} (ht : P.underlying t = some .bool) (a b : Bool) (w : World) : (Op.equal t (.bool a) (.bool b)).run P w = .ok (a == b) w := by
  rw [equal_once, Op.equalIn]
  simp only [Sem.run_bind, r_underlying ht, Result.andThen_ok]
  rfl

theorem symBin_sound {op : BinOp} {t : TypeId} {x y v : AV} {u u' : Value} (h : symBin P op t x y = some v) (hx : conc φ x = some u) (hy : conc φ y = some u') :
    (∃ v', conc φ v = some v' ∧ ∀ w, (binOp op t u u').run P w = .ok v' w) ∧ u ≠ .nilIface ∧ ∀ cs, u ≠ .agg cs := by
  unfold symBin at h
  split at h
  · rename_i k k' kx ky
    obtain ⟨v', h1, h2⟩ := symInt_sound (t := t) h kx ky hx hy
    obtain ⟨n, rfl, _⟩ := kndA_int kx hx
    exact ⟨⟨v', h1, fun w => by rw [h2]; rfl⟩, by simp, by simp⟩
  · rename_i kx ky
    obtain ⟨a, rfl⟩ := kndA_bool kx hx
    obtain ⟨b, rfl⟩ := kndA_bool ky hy
    refine ⟨?_, by simp, by simp⟩
    unfold symBool at h
    split at h
    · rename_i ht
      cases h
      refine ⟨.bool (a == b), den2 hx hy rfl ⟨_, rfl⟩, fun w => ?_⟩
      exact (r_eql (by simp) (by simp) (by simp) (by simp) (r_boolEq ht a b w)).1
    · rename_i ht
      cases h
      refine ⟨.bool (!(a == b)), den2 hx hy rfl ⟨_, rfl⟩, fun w => ?_⟩
      exact (r_eql (by simp) (by simp) (by simp) (by simp) (r_boolEq ht a b w)).2
    · cases h
  · split at h
    · rename_i l m lx ly
      obtain ⟨v', h1, h2⟩ := symStr_sound (t := t) h lx ly hx hy
      obtain ⟨l', s, _, _, rfl, _⟩ := byteL_sound lx hx
      exact ⟨⟨v', h1, fun w => by rw [h2]; rfl⟩, by simp, by simp⟩
    · cases h

theorem symUn_sound {op : UnOp} {x v : AV} {u : Value} (h : symUn op x = some v) (hx : conc φ x = some u) : ∃ v', conc φ v = some v' ∧ Op.unary op u = .pure v' := by
  unfold symUn at h
  split at h
  · cases h
    obtain ⟨b, rfl⟩ := conc_sym_knd hx
    refine ⟨.bool (!b), ?_, rfl⟩
    simp only [conc, concL] at hx ⊢
    rw [hx]
    exact congrArg some (Sg.den_eq rfl ⟨_, rfl⟩)
  · cases h
    obtain ⟨b, rfl, _⟩ := conc_sym_knd hx
    refine ⟨.int _ (IntKind.wrap _ (0 - b)), ?_, rfl⟩
    simp only [conc, concL] at hx ⊢
    rw [hx]
    exact congrArg some (Sg.den_eq rfl ⟨_, rfl, wrap_wrap _ _⟩)
  · cases h
    obtain ⟨b, rfl, _⟩ := conc_sym_knd hx
    refine ⟨_, ?_, rfl⟩
    simp only [conc, concL] at hx ⊢
    rw [hx]
    exact congrArg some (Sg.den_eq rfl ⟨_, rfl, wrap_wrap _ _⟩)
  · cases h

theorem sym_conv {k k0 : IntKind} {f : SOp} {args : List AV} {n : Int} (hx : conc φ (.sym (.int k0) f args) = some (.int k0 n)) : conc φ (.sym (.int k) .conv [.sym (.int k0) f args]) = some (.int k (k.wrap n)) := by
  simp only [conc, concL] at hx ⊢
  rw [hx]
  exact congrArg some (Sg.den_eq rfl ⟨_, rfl, wrap_wrap _ _⟩)

/-- facts -/
theorem lookF_sound : ∀ {fs : List (AV × AV)}, (∀ p ∈ fs, ∀ φ v, conc φ p.1 = some v → conc φ p.2 = some v) → ∀ {v : AV} {v' : Value}, conc φ v = some v' → conc φ (lookF fs v) = some v'
  | [], _, v, v', h => h
  | (a, b) :: l, hf, v, v', h => by
    simp only [lookF]
    cases hb : AV.beq a v with
    | true =>
      have := beq_eq hb
      subst this
      exact hf _ (List.mem_cons_self ..) φ v' h
    | false => exact lookF_sound (fun p hp => hf p (List.mem_cons_of_mem _ hp)) h

theorem bytesV_cons {v : Value} {l : List Value} {s : List UInt8} (h : bytesV (v :: l) = some s) : ∃ c r, v = .int .u8 (UInt8.toNat c) ∧ bytesV l = some r ∧ s = c :: r := by
  simp only [bytesV] at h
  split at h
  · rename_i _ n r hr
    split at h
    · rename_i hn
      cases h
      refine ⟨UInt8.ofNat n.toNat, r, ?_, hr, rfl⟩
      have : (UInt8.ofNat n.toNat).toNat = n.toNat := by
        rw [UInt8.toNat_ofNat']
        omega
      rw [this]
      congr 1
      omega
    · cases h
  · cases h

theorem bytesV_len : ∀ {l : List Value} {s : List UInt8}, bytesV l = some s → s.length = l.length
  | [], s, h => by simp only [bytesV] at h; cases h; rfl
  | v :: l, s, h => by
    obtain ⟨c, r, _, hr, rfl⟩ := bytesV_cons h
    simp [bytesV_len hr]

theorem bytesV_cons_mk {c : UInt8} {l : List Value} {s : List UInt8} (h : bytesV l = some s) : bytesV (.int .u8 (UInt8.toNat c) :: l) = some (c :: s) := by
  simp only [bytesV, h]
  rw [if_pos ⟨by omega, by have := c.toNat_lt; omega⟩]
  simp

theorem bytesV_drop : ∀ (n : Nat) {l : List Value} {s : List UInt8}, bytesV l = some s → bytesV (l.drop n) = some (s.drop n)
  | 0, l, s, h => by simpa using h
  | n + 1, [], s, h => by simp only [bytesV] at h; cases h; rfl
  | n + 1, v :: l, s, h => by
    obtain ⟨c, r, _, hr, rfl⟩ := bytesV_cons h
    simpa using bytesV_drop n hr

theorem bytesV_take : ∀ (n : Nat) {l : List Value} {s : List UInt8}, bytesV l = some s → bytesV (l.take n) = some (s.take n)
  | 0, l, s, h => by simp [bytesV]
  | n + 1, [], s, h => by simp only [bytesV] at h; cases h; rfl
  | n + 1, v :: l, s, h => by
    obtain ⟨c, r, rfl, hr, rfl⟩ := bytesV_cons h
    simpa using bytesV_cons_mk (bytesV_take n hr)

theorem bytesV_eq : ∀ {l : List Value} {s : List UInt8}, bytesV l = some s → l = s.map fun b => Value.int .u8 (UInt8.toNat b)
  | [], s, h => by simp only [bytesV] at h; cases h; rfl
  | v :: l, s, h => by
    obtain ⟨c, r, rfl, hr, rfl⟩ := bytesV_cons h
    rw [bytesV_eq hr]; rfl

theorem conc_sstr' {cs : List AV} {v : Value} (h : conc φ (.sstr cs) = some v) : ∃ s : List UInt8, concL φ cs = some (s.map fun b => Value.int .u8 (UInt8.toNat b)) ∧ s.length = cs.length ∧ v = .string ⟨s.toArray⟩ := by
  obtain ⟨l, s, h1, h2, h3⟩ := conc_sstr h
  have := bytesV_eq h2
  subst this
  exact ⟨s, h1, by have := concL_length h1; simpa using this, h3⟩

end
end Go.Ax

