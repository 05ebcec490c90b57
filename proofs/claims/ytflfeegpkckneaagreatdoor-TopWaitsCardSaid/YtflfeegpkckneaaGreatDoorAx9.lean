/- A part of the proof of TopWaits: see the last text of the claim. -/
import Derived.Test.YtflfeegpkckneaaGreatDoorAx8
set_option linter.unusedSectionVars false
set_option linter.unusedSimpArgs false
set_option linter.unusedVariables false
/- The abstract executor: regions that draw their order: the trace, the ancestors. -/
namespace Go.Ax

theorem seq_of_drun {C : Ctx} {env : Env} {rd gl : Bool} : ∀ (l : List AOper) (i nm : Nat) (s : AS) (pd : Pend) (R : List Rec) (f : AS × Pend), drun C env rd gl i nm l s pd = some (R, f) →
    ∃ S : Nat → AS × Pend, S 0 = (s, pd) ∧ R.length = l.length ∧ S R.length = f ∧ ∀ k r, R[k]? = some r →
      l[k]? = some r.o ∧ r.i = i + k ∧ r.nm = nm + k ∧ r.ts = (S k).1.ts ∧ r.pd = (S k).2 ∧ r.ts2 = (S (k + 1)).1.ts ∧ dstep C env rd gl (i + k) (nm + k) r.o (S k).1 (S k).2 = some (r.d, S (k + 1))
  | [], i, nm, s, pd, R, f, h => by
    simp only [drun] at h; cases h
    exact ⟨fun _ => (s, pd), rfl, rfl, rfl, fun k r hk => by simp at hk⟩
  | o :: l, i, nm, s, pd, R, f, h => by
    simp only [drun] at h
    split at h
    · cases h
    · rename_i d s1 pd1 hd
      split at h
      · rename_i rs x hr
        cases h
        obtain ⟨S, h0, hlen, hf, hS⟩ := seq_of_drun l (i + 1) (nm + 1) s1 pd1 rs f hr
        refine ⟨fun k => match k with | 0 => (s, pd) | k + 1 => S k, rfl, by simp [hlen], by simpa using hf, ?_⟩
        intro k r hk
        cases k with
        | zero =>
          simp only [List.getElem?_cons_zero, Option.some.injEq] at hk
          subst hk
          refine ⟨rfl, rfl, rfl, rfl, rfl, ?_, ?_⟩
          · show s1.ts = (S 0).1.ts; rw [h0]
          · show dstep C env rd gl (i + 0) (nm + 0) o s pd = some (d, S 0)
            rw [h0]; exact hd
        | succ k =>
          simp only [List.getElem?_cons_succ] at hk
          obtain ⟨q1, q2, q3, q4, q5, q6, q7⟩ := hS k r hk
          refine ⟨by simpa using q1, by omega, by omega, q4, q5, q6, ?_⟩
          rw [show i + (k + 1) = i + 1 + k from by omega, show nm + (k + 1) = nm + 1 + k from by omega]
          exact q7
      · cases h

/-! ### the ancestors -/
theorem ancOf_bit (es : List Edge) (acc : Nat → Nat) (k : Nat) : (ancOf es acc).testBit k = true ↔ ∃ e ∈ es, Region.binds .any e = true ∧ (k = e.on ∨ (acc e.on).testBit k = true) := by
  induction es with
  | nil => simp [ancOf]
  | cons e es ih =>
    simp only [ancOf]
    cases hb : Region.binds .any e with
    | false =>
      simp only [cond_false, ih, List.mem_cons]
      constructor
      · rintro ⟨e', h1, h2⟩; exact ⟨e', .inr h1, h2⟩
      · rintro ⟨e', rfl | h1, h2⟩
        · rw [hb] at h2; simp at h2
        · exact ⟨e', h1, h2⟩
    | true =>
      simp only [cond_true, Nat.testBit_or, Bool.or_eq_true, ih, List.mem_cons, Nat.testBit_two_pow, decide_eq_true_eq]
      constructor
      · rintro ((h | h) | ⟨e', h1, h2⟩)
        · exact ⟨e, .inl rfl, hb, .inl h.symm⟩
        · exact ⟨e, .inl rfl, hb, .inr h⟩
        · exact ⟨e', .inr h1, h2⟩
      · rintro ⟨e', rfl | h1, h2, h3⟩
        · rcases h3 with h3 | h3
          · exact .inl (.inl h3.symm)
          · exact .inl (.inr h3)
        · exact .inr ⟨e', h1, h2, h3⟩

theorem nth_append_lt : ∀ (l : List Nat) (x i : Nat), i < l.length → nth (l ++ [x]) i = nth l i
  | [], x, i, h => by simp at h
  | a :: l, x, 0, _ => rfl
  | a :: l, x, i + 1, h => by simpa [nth] using nth_append_lt l x i (by simpa using h)

theorem nth_append_eq : ∀ (l : List Nat) (x : Nat), nth (l ++ [x]) l.length = x
  | [], x => rfl
  | a :: l, x => by simpa [nth] using nth_append_eq l x

theorem nth_ge : ∀ (l : List Nat) (i : Nat), l.length ≤ i → nth l i = 0
  | [], i, _ => rfl
  | a :: l, 0, h => by simp at h
  | a :: l, i + 1, h => by simpa [nth] using nth_ge l i (by simpa using h)

/-- the compiled operations: each one's text; its ancestors out of those of the ones ahead -/
theorem compOps_spec {P : Program} {ops : Array Oper} : ∀ (l : List Oper) (acc : List Nat),
    (compOps P ops l acc).length = l.length ∧ ∀ (k : Nat) (o : Oper), l[k]? = some o → ∃ ao acc', (compOps P ops l acc)[k]? = some ao ∧ ao.dst = o.dst ∧ ao.op = compOp P o ∧ ao.guard = guardOf ops o ∧ ao.anc = ancOf o.after.toList (nth acc') ∧
      acc'.length = acc.length + k ∧ (∀ j, j < acc.length → nth acc' j = nth acc j) ∧ (∀ j bo, j < k → (compOps P ops l acc)[j]? = some bo → nth acc' (acc.length + j) = bo.anc)
  | [], acc => ⟨rfl, fun k o h => by simp at h⟩
  | o :: l, acc => by
    obtain ⟨ih1, ih2⟩ := compOps_spec (P := P) (ops := ops) l (acc ++ [ancOf o.after.toList (nth acc)])
    refine ⟨by simp [compOps, ih1], ?_⟩
    intro k o' hk
    cases k with
    | zero =>
      simp only [List.getElem?_cons_zero, Option.some.injEq] at hk
      subst hk
      exact ⟨{ dst := o.dst, op := compOp P o, guard := guardOf ops o, anc := ancOf o.after.toList (nth acc) }, acc, by simp [compOps], rfl, rfl, rfl, rfl, by simp, fun _ _ => rfl, fun j bo hj => by omega⟩
    | succ k =>
      simp only [List.getElem?_cons_succ] at hk
      obtain ⟨ao, acc', h1, h2, h3, h4, h5, h6, h7, h8⟩ := ih2 k o' hk
      refine ⟨ao, acc', by simpa [compOps] using h1, h2, h3, h4, h5, by rw [h6]; simp; omega, ?_, ?_⟩
      · intro j hj
        rw [h7 j (by simp; omega), nth_append_lt _ _ _ hj]
      · intro j bo hj hb
        cases j with
        | zero =>
          simp only [compOps, List.getElem?_cons_zero, Option.some.injEq] at hb
          subst hb
          rw [Nat.add_zero, h7 acc.length (by simp), nth_append_eq]
        | succ j =>
          simp only [compOps, List.getElem?_cons_succ] at hb
          have := h8 j bo (by omega) hb
          simp only [List.length_append, List.length_cons, List.length_nil, Nat.zero_add] at this
          rw [show acc.length + (j + 1) = acc.length + 1 + j from by omega]
          exact this


/-! ### the run of a region in the order of the text, piece by piece -/
def fwd : Did → Option AObj
  | .f _ ob => some ob
  | _ => none

theorem fwd_some {d : Did} {ob : AObj} : fwd d = some ob ↔ ∃ v, d = .f v ob := by
  cases d <;> simp [fwd]

def ancAt (O : Nat → AOper) : Nat → Nat
  | 0 => 0
  | l + 1 => (O l).anc

def recOf (base : Nat) (O : Nat → AOper) (D : Nat → Did) (S : Nat → AS × Pend) (k : Nat) : Rec :=
  { i := k, nm := base + k, o := O k, ts := (S k).1.ts, ts2 := (S (k + 1)).1.ts, pd := (S k).2, d := D k }

structure Tr (C : Ctx) (env : Env) (rd gl : Bool) (base m : Nat) (O : Nat → AOper) (D : Nat → Did) (S : Nat → AS × Pend) : Prop where
  p0 : (S 0).2 = []
  step : ∀ k, k < m → dstep C env rd gl k (base + k) (O k) (S k).1 (S k).2 = some (D k, S (k + 1))
  trans : ∀ k j i, k < m → (O k).anc.testBit j = true → (O j).anc.testBit i = true → (O k).anc.testBit i = true
  chain : ∀ i j, i < j → j < m → isL (D i) = true → isL (D j) = true → (O j).anc.testBit i = true
  meet : ∀ i j, i < j → j < m → meet (O j) (O i) = true → (O j).anc.testBit i = true
  names : ∀ l j h nx ds ob, l < m → j < m → D l = .l h nx ds → fwd (D j) = some ob → (O l).anc.testBit j = true ∨ h.get (base + j) = none
  old : ∀ b, base ≤ b → (S 0).1.h.get b = none
  reads : ∀ k v, k < m → D k = .q v → readsHeap (O k).op = true → chkReads C (recOf base O D S k) false v 0 0 (S 0).1.h ((List.range m).map (recOf base O D S)) = true
  ghost : ∀ k v, k < m → D k = .g v → chkReads C (recOf base O D S k) true v 0 0 (S 0).1.h ((List.range m).map (recOf base O D S)) = true

section
variable {C : Ctx} {env : Env} {rd gl : Bool} {base m : Nat} {O : Nat → AOper} {D : Nat → Did} {S : Nat → AS × Pend}

def whatK (C : Ctx) (env : Env) (rd : Bool) (nm : Nat) (o : AOper) (s : AS) (pd : Pend) (s' : AS) : Did → Prop
  | .s => wantedA s.ts o.guard = false ∧ s'.ts = putD s.ts o.dst undefA
  | .q v => wantedA s.ts o.guard = true ∧ isLoud o.op = false ∧ op1 C o.op nm s.ts (absorb o.anc pd s.h) = some (.q v) ∧ s'.ts = putD s.ts o.dst v
  | .g v => wantedA s.ts o.guard = true ∧ (∃ ob ed, op1 C o.op nm s.ts (absorb o.anc pd s.h) = some (.g v ob ed)) ∧ s'.ts = putD s.ts o.dst v
  | .f v ob => wantedA s.ts o.guard = true ∧ pureFresh o.op = true ∧ op1 C o.op nm s.ts (absorb o.anc pd s.h) = some (.f v ob none) ∧ s'.ts = putD s.ts o.dst v
  | .l _ _ _ => wantedA s.ts o.guard = true ∧ step1 C env rd o nm { s with h := absorb o.anc pd s.h } = some s'

/-- what dstep tells -/
structure Dk (C : Ctx) (env : Env) (rd : Bool) (k nm : Nat) (o : AOper) (s : AS) (pd : Pend) (d : Did) (s' : AS) (pd' : Pend) : Prop where
  dst : dstOk s.nt o.dst = true
  gd : guardOk s.ts o.guard = true
  anc : o.anc < 2 ^ k
  ts : ∃ v, s'.ts = putD s.ts o.dst v
  nt : s'.nt = s.nt
  quiet : isL d = false → s'.h = s.h ∧ s'.nx = s.nx ∧ s'.ds = s.ds ∧ pd' = (match fwd d with | some ob => (k, nm, ob) :: pd | none => pd)
  loud : isL d = true → pd' = keepP o.anc pd ∧ d = .l s'.h s'.nx s'.ds
  what : whatK C env rd nm o s pd s' d

theorem step1_facts {o : AOper} {nm : Nat} {s s' : AS} (h : step1 C env rd o nm s = some s') : (∃ v, s'.ts = putD s.ts o.dst v) ∧ s'.nt = s.nt := by
  unfold step1 at h
  split at h
  · cases h; exact ⟨⟨_, rfl⟩, rfl⟩
  · cases h; exact ⟨⟨_, rfl⟩, rfl⟩
  · cases h; exact ⟨⟨_, rfl⟩, rfl⟩
  · cases h; exact ⟨⟨_, rfl⟩, rfl⟩
  · split at h
    · cases h; exact ⟨⟨_, rfl⟩, rfl⟩
    · cases h
  · cases rd with
    | true => cases h
    | false => cases h; exact ⟨⟨_, rfl⟩, rfl⟩
  · cases h

theorem dstep_spec {k nm : Nat} {o : AOper} {s : AS} {pd : Pend} {d : Did} {s' : AS} {pd' : Pend} (h : dstep C env rd gl k nm o s pd = some (d, s', pd')) : Dk C env rd k nm o s pd d s' pd' := by
  unfold dstep at h
  cases hd : dstOk s.nt o.dst && (guardOk s.ts o.guard && Nat.blt o.anc (2 ^ k)) with
  | false => rw [hd] at h; cases h
  | true =>
    rw [hd] at h
    simp only [cond_true] at h
    simp only [Bool.and_eq_true] at hd
    have h1 := hd.1
    have h2 : o.anc < 2 ^ k := Nat.le_of_ble_eq_true hd.2.2
    have h0 := hd.2.1
    split at h
    · rename_i hw
      cases h
      exact ⟨h1, h0, h2, ⟨_, rfl⟩, rfl, fun _ => ⟨rfl, rfl, rfl, rfl⟩, fun h => (by cases h), hw, rfl⟩
    · rename_i hw
      split at h
      · rename_i hl
        split at h
        · rename_i s1 hs
          cases h
          have := step1_facts hs
          exact ⟨h1, h0, h2, this.1, this.2, fun h => (by cases h), fun _ => ⟨rfl, rfl⟩, hw, hs⟩
        · cases h
      · rename_i hl
        split at h
        · rename_i v hop
          cases h
          simp only [Bool.or_eq_false_iff] at hl
          exact ⟨h1, h0, h2, ⟨_, rfl⟩, rfl, fun _ => ⟨rfl, rfl, rfl, rfl⟩, fun h => (by cases h), hw, hl.1, hop, rfl⟩
        · rename_i v ob hop
          cases hp : pureFresh o.op with
          | false => rw [hp] at h; cases h
          | true =>
            rw [hp] at h
            cases h
            exact ⟨h1, h0, h2, ⟨_, rfl⟩, rfl, fun _ => ⟨rfl, rfl, rfl, rfl⟩, fun h => (by cases h), hw, hp, hop, rfl⟩
        · rename_i v ob ed hop
          cases h
          exact ⟨h1, h0, h2, ⟨_, rfl⟩, rfl, fun _ => ⟨rfl, rfl, rfl, rfl⟩, fun h => (by cases h), hw, ⟨_, _, hop⟩, rfl⟩
        · cases h

theorem Tr.at (T : Tr C env rd gl base m O D S) {k : Nat} (hk : k < m) : Dk C env rd k (base + k) (O k) (S k).1 (S k).2 (D k) (S (k + 1)).1 (S (k + 1)).2 :=
  dstep_spec (T.step k hk)

theorem Tr.noq (T : Tr C env rd gl base m O D S) (k : Nat) (ob : AObj) (hk : k < m) (hf : fwd (D k) = some ob) : isOpq ob = false := by
  have hw := (T.at hk).what
  obtain ⟨v, hD⟩ := fwd_some.1 hf
  rw [hD] at hw
  obtain ⟨_, hp, hop, _⟩ := hw
  exact op1_noq hp hop

theorem Tr.anc_lt (T : Tr C env rd gl base m O D S) {k j : Nat} (hk : k < m) (h : (O k).anc.testBit j = true) : j < k := by
  have h1 := (T.at hk).anc
  rcases Nat.lt_or_ge j k with h2 | h2
  · exact h2
  · rw [Nat.testBit_lt_two_pow (Nat.lt_of_lt_of_le h1 (Nat.pow_le_pow_right (by omega) h2))] at h; cases h

theorem Tr.nt (T : Tr C env rd gl base m O D S) : ∀ k, k ≤ m → (S k).1.nt = (S 0).1.nt
  | 0, _ => rfl
  | k + 1, h => ((T.at (by omega)).nt).trans (T.nt k (by omega))

/-- the last loud operation ahead of k -/
def lastq (D : Nat → Did) : Nat → Nat
  | 0 => 0
  | k + 1 => bif isL (D k) then k + 1 else lastq D k

theorem lastq_spec (D : Nat → Did) : ∀ k, lastq D k ≤ k ∧ (∀ l, lastq D k = l + 1 → isL (D l) = true) ∧ ∀ l, l < k → isL (D l) = true → l < lastq D k
  | 0 => ⟨Nat.le_refl _, fun l h => by simp [lastq] at h, fun l h => by omega⟩
  | k + 1 => by
    obtain ⟨h1, h2, h3⟩ := lastq_spec D k
    simp only [lastq]
    cases hd : isL (D k) with
    | true =>
      simp only [cond_true]
      exact ⟨Nat.le_refl _, fun l h => by have : l = k := by omega
                                          subst this; exact hd, fun l h _ => h⟩
    | false =>
      simp only [cond_false]
      refine ⟨by omega, h2, fun l hl h => ?_⟩
      rcases Nat.lt_succ_iff_lt_or_eq.1 hl with h' | rfl
      · exact h3 l h' h
      · rw [hd] at h; cases h

theorem Tr.same (T : Tr C env rd gl base m O D S) : ∀ k, k ≤ m → (S k).1.h = (S (lastq D k)).1.h ∧ (S k).1.nx = (S (lastq D k)).1.nx ∧ (S k).1.ds = (S (lastq D k)).1.ds
  | 0, _ => ⟨rfl, rfl, rfl⟩
  | k + 1, h => by
    obtain ⟨h1, h2, h3⟩ := T.same k (by omega)
    simp only [lastq]
    cases hd : isL (D k) with
    | true => exact ⟨rfl, rfl, rfl⟩
    | false =>
      obtain ⟨q1, q2, q3, _⟩ := (T.at (show k < m by omega)).quiet hd
      simp only [cond_false]
      exact ⟨q1.trans h1, q2.trans h2, q3.trans h3⟩

theorem Tr.pend (T : Tr C env rd gl base m O D S) : ∀ k, k ≤ m → ∀ e : Nat × Nat × AObj, e ∈ (S k).2 ↔ (e.1 < k ∧ e.2.1 = base + e.1 ∧ fwd (D e.1) = some e.2.2 ∧ ∀ l, l < k → isL (D l) = true → (O l).anc.testBit e.1 = false)
  | 0, _, e => by
    rw [T.p0]
    simp
  | k + 1, hk, e => by
    have ih := T.pend k (by omega) e
    have hat := T.at (show k < m by omega)
    cases hd : isL (D k) with
    | true =>
      rw [(hat.loud hd).1, mem_keepP, ih]
      have hf : fwd (D k) = none := by cases hD : D k <;> rw [hD] at hd <;> first | rfl | cases hd
      constructor
      · rintro ⟨⟨h1, h2, h3, h4⟩, h5⟩
        refine ⟨by omega, h2, h3, fun l hl h => ?_⟩
        rcases Nat.lt_succ_iff_lt_or_eq.1 hl with h' | rfl
        · exact h4 l h' h
        · exact h5
      · rintro ⟨h1, h2, h3, h4⟩
        refine ⟨⟨?_, h2, h3, fun l hl h => h4 l (by omega) h⟩, h4 k (by omega) hd⟩
        rcases Nat.lt_succ_iff_lt_or_eq.1 h1 with h' | h'
        · exact h'
        · rw [h', hf] at h3; cases h3
    | false =>
      rw [(hat.quiet hd).2.2.2]
      have hl : ∀ l, l < k + 1 → isL (D l) = true → l < k := fun l hl h => by
        rcases Nat.lt_succ_iff_lt_or_eq.1 hl with h' | rfl
        · exact h'
        · rw [hd] at h; cases h
      cases hf : fwd (D k) with
      | none =>
        simp only
        rw [ih]
        constructor
        · rintro ⟨h1, h2, h3, h4⟩
          exact ⟨by omega, h2, h3, fun l hl' h => h4 l (hl l hl' h) h⟩
        · rintro ⟨h1, h2, h3, h4⟩
          refine ⟨?_, h2, h3, fun l hl h => h4 l (by omega) h⟩
          rcases Nat.lt_succ_iff_lt_or_eq.1 h1 with h' | h'
          · exact h'
          · rw [h', hf] at h3; cases h3
      | some ob =>
        simp only [List.mem_cons]
        rw [ih]
        constructor
        · rintro (rfl | ⟨h1, h2, h3, h4⟩)
          · refine ⟨by simp, rfl, hf, fun l hl' h => ?_⟩
            cases hb : (O l).anc.testBit k with
            | false => rfl
            | true => exact absurd (T.anc_lt (show l < m by omega) hb) (by have := hl l hl' h; omega)
          · exact ⟨by omega, h2, h3, fun l hl' h => h4 l (hl l hl' h) h⟩
        · rintro ⟨h1, h2, h3, h4⟩
          rcases Nat.lt_succ_iff_lt_or_eq.1 h1 with h' | h'
          · exact .inr ⟨h', h2, h3, fun l hl h => h4 l (by omega) h⟩
          · left
            obtain ⟨j, nm, ob'⟩ := e
            simp only at h' h2 h3
            subst h'; subst h2
            rw [hf] at h3; cases h3; rfl

/-! ### what is listed -/
structure Last (m : Nat) (D : Nat → Did) (M q : Nat) : Prop where
  is : ∀ l, q = l + 1 → isL (D l) = true ∧ M.testBit l = true
  lt : ∀ l, l < m → isL (D l) = true → M.testBit l = true → l < q
  le : q ≤ m

def FP (base m : Nat) (D : Nat → Did) : Pend := (List.range m).filterMap fun j => match fwd (D j) with
  | some ob => some (j, base + j, ob)
  | none => none

theorem mem_FP {e : Nat × Nat × AObj} : e ∈ FP base m D ↔ e.1 < m ∧ e.2.1 = base + e.1 ∧ fwd (D e.1) = some e.2.2 := by
  unfold FP
  simp only [List.mem_filterMap, List.mem_range]
  constructor
  · rintro ⟨j, hj, he⟩
    cases hf : fwd (D j) with
    | none => rw [hf] at he; cases he
    | some ob => rw [hf] at he; cases he; exact ⟨hj, rfl, hf⟩
  · rintro ⟨h1, h2, h3⟩
    refine ⟨e.1, h1, ?_⟩
    rw [h3]
    simp only [Option.some.injEq]
    rw [← h2]

def Hx (base m : Nat) (O : Nat → AOper) (D : Nat → Did) (S : Nat → AS × Pend) (M q : Nat) : Heap := absorb M (keepP (ancAt O q) (FP base m D)) (S q).1.h

def qOk (m : Nat) (D : Nat → Did) (q : Nat) : Prop := ∀ l, q = l + 1 → isL (D l) = true ∧ l < m

theorem Tr.hAt (T : Tr C env rd gl base m O D S) {q j : Nat} {ob : AObj} (hq : qOk m D q) (hj : j < m) (hf : fwd (D j) = some ob) (hn : (ancAt O q).testBit j = false) : (S q).1.h.get (base + j) = none := by
  cases q with
  | zero => exact T.old _ (by omega)
  | succ l =>
    obtain ⟨h1, h2⟩ := hq l rfl
    have h3 := ((T.at h2).loud h1).2
    rcases T.names l j _ _ _ ob h2 hj h3 hf with h | h
    · simp only [ancAt] at hn; rw [hn] at h; cases h
    · exact h

theorem Tr.Hx_inv {M q b : Nat} {o : AObj} (h : (Hx base m O D S M q).get b = some o) :
    (∃ j, b = base + j ∧ j < m ∧ M.testBit j = true ∧ (ancAt O q).testBit j = false ∧ fwd (D j) = some o) ∨ (S q).1.h.get b = some o := by
  rcases absorb_inv h with ⟨j, h1, h2⟩ | h1
  · rw [mem_keepP, mem_FP] at h1
    exact .inl ⟨j, h1.1.2.1, h1.1.1, h2, h1.2, h1.1.2.2⟩
  · exact .inr h1

theorem Tr.Hx_new {M q j : Nat} {o : AObj} (hj : j < m) (hM : M.testBit j = true) (hn : (ancAt O q).testBit j = false) (hf : fwd (D j) = some o) :
    (Hx base m O D S M q).get (base + j) = some o := by
  refine absorb_new (j := j) ?_ (.inl ⟨mem_keepP.2 ⟨mem_FP.2 ⟨hj, rfl, hf⟩, hn⟩, hM⟩)
  intro j' o' h'
  rw [mem_keepP, mem_FP] at h'
  have : j' = j := by have := h'.1.2.1; simp only at this; omega
  subst this
  have := h'.1.2.2
  rw [hf] at this; cases this; rfl

theorem Tr.Hx_old (T : Tr C env rd gl base m O D S) {M q b : Nat} {o : AObj} (hq : qOk m D q) (h : (S q).1.h.get b = some o) : (Hx base m O D S M q).get b = some o := by
  unfold Hx
  rw [absorb_old]
  · exact h
  · intro j ob hj
    rw [mem_keepP, mem_FP] at hj
    obtain ⟨⟨h1, h2, h3⟩, h4⟩ := hj
    simp only at h1 h2 h3 h4
    subst h2
    rw [T.hAt hq h1 h3 h4] at h; cases h

structure Set (m : Nat) (O : Nat → AOper) (D : Nat → Did) (M q : Nat) : Prop where
  lt : ∀ j, M.testBit j = true → j < m
  dc : ∀ j i, M.testBit j = true → (O j).anc.testBit i = true → M.testBit i = true
  last : Last m D M q

theorem Set.qOk {M q : Nat} (h : Set m O D M q) : qOk m D q := fun l e => ⟨(h.last.is l e).1, h.lt l (h.last.is l e).2⟩

/-- ready: not listed, all ahead of it are -/
structure Rdy (m : Nat) (O : Nat → AOper) (M i : Nat) : Prop where
  lt : i < m
  not : M.testBit i = false
  anc : ∀ j, (O i).anc.testBit j = true → M.testBit j = true

/-- a loud operation that is ready: the heap behind the last one is that of the text -/
theorem Tr.loud_at (T : Tr C env rd gl base m O D S) {M q i : Nat} (hs : Set m O D M q) (hr : Rdy m O M i) (hl : isL (D i) = true) : lastq D i = q ∧ ∀ l, l < m → isL (D l) = true → M.testBit l = true → l < i := by
  have hlt : ∀ l, l < m → isL (D l) = true → M.testBit l = true → l < i := by
    intro l h1 h2 h3
    rcases Nat.lt_trichotomy l i with h | h | h
    · exact h
    · subst h; rw [hr.not] at h3; cases h3
    · have := hs.dc l i h3 (T.chain i l h h1 hl h2)
      rw [hr.not] at this; cases this
  refine ⟨?_, hlt⟩
  obtain ⟨h1, h2, h3⟩ := lastq_spec D i
  have hq : ∀ l, l < i → isL (D l) = true → l < q := fun l hl' h => hs.last.lt l (by have := hr.lt; omega) h (hr.anc l (T.chain l i hl' hr.lt h hl))
  rcases Nat.lt_trichotomy (lastq D i) q with h | h | h
  · cases q with
    | zero => omega
    | succ l =>
      obtain ⟨k1, k2⟩ := hs.last.is l rfl
      have := h3 l (hlt l (hs.lt l k2) k1 k2) k1
      omega
  · exact h
  · cases hq' : lastq D i with
    | zero => omega
    | succ l =>
      have := hq l (by omega) (h2 l hq')
      omega

theorem Tr.anc_mono (T : Tr C env rd gl base m O D S) {M q i : Nat} (hs : Set m O D M q) (hr : Rdy m O M i) (hl : isL (D i) = true) {j : Nat} (h : (ancAt O q).testBit j = true) : (O i).anc.testBit j = true := by
  cases q with
  | zero => simp [ancAt] at h
  | succ l =>
    obtain ⟨k1, k2⟩ := hs.last.is l rfl
    have := (T.loud_at hs hr hl).2 l (hs.lt l k2) k1 k2
    exact T.trans i l j hr.lt (T.chain l i this hr.lt k1 hl) h

/-- a canonical heap is part of the heap that is there -/
theorem Tr.canon (T : Tr C env rd gl base m O D S) {M q anc : Nat} {pd : Pend} (hs : Set m O D M q) (hpd : ∀ e ∈ pd, e.1 < m ∧ e.2.1 = base + e.1 ∧ fwd (D e.1) = some e.2.2 ∧ (ancAt O q).testBit e.1 = false)
    (hanc : ∀ j, anc.testBit j = true → M.testBit j = true) {b : Nat} {o : AObj} (h : (absorb anc pd (S q).1.h).get b = some o) : (Hx base m O D S M q).get b = some o := by
  rcases absorb_inv h with ⟨j, h1, h2⟩ | h1
  · obtain ⟨k1, k2, k3, k4⟩ := hpd _ h1
    simp only at k1 k2 k3 k4
    subst k2
    exact Tr.Hx_new k1 (hanc j h2) k4 k3
  · exact T.Hx_old hs.qOk h1

/-- the last loud operation ahead of i, from both sides -/
theorem Tr.canon_q (T : Tr C env rd gl base m O D S) {M i q : Nat} (hr : Rdy m O M i) (hq : qOk m D q) (hle : q ≤ i) (hlast : ∀ l, l < i → isL (D l) = true → l < q) : q = lastq D i := by
  obtain ⟨h1, h2, h3⟩ := lastq_spec D i
  have a1 : q ≤ lastq D i := by
    cases q with
    | zero => omega
    | succ l => have := h3 l (by omega) (hq l rfl).1; omega
  have a2 : lastq D i ≤ q := by
    cases hq' : lastq D i with
    | zero => omega
    | succ l => have := hlast l (by omega) (h2 l hq'); omega
  omega

/-- what a reading operation was checked for -/
theorem Tr.reads_at (T : Tr C env rd gl base m O D S) {M q i : Nat} {gh : Bool} {v : AV} (hs : Set m O D M q) (hr : Rdy m O M i) : ∀ (n k q' : Nat), n + k = m → qOk m D q' → q' ≤ k → (∀ l, l < k → isL (D l) = true → l < q') →
    (∀ l, q' = l + 1 → M.testBit l = true) →
    chkReads C (recOf base O D S i) gh v q' (ancAt O q') (S q').1.h ((List.range' k n).map (recOf base O D S)) = true → q = lastq D i ∨ sameAt C (recOf base O D S i) gh v (ancAt O q) (S q).1.h = true
  | 0, k, q', hk, hq', hle, hlast, hM, h => by
    simp only [List.range'_zero, List.map_nil, chkReads] at h
    have : q' = q := by
      have h1 : q ≤ q' := by
        cases q with
        | zero => omega
        | succ l => have := hlast l (by have := hs.lt l (hs.last.is l rfl).2; omega) (hs.last.is l rfl).1; omega
      have h2 : q' ≤ q := by
        cases q' with
        | zero => omega
        | succ l => have := hs.last.lt l (hq' l rfl).2 (hq' l rfl).1 (hM l rfl); omega
      omega
    subst this
    have e4 : (recOf base O D S i).i = i := rfl
    rw [e4] at h
    cases hb : Nat.ble q' i with
    | true => exact .inl (T.canon_q hr hq' (Nat.le_of_ble_eq_true hb) fun l h1 h2 => hlast l (by have := hr.lt; omega) h2)
    | false => rw [hb] at h; exact .inr h
  | n + 1, k, q', hk, hq', hle, hlast, hM, h => by
    have stop : isL (D k) = true → M.testBit k = false → q' = q := by
      intro hl hMk
      have h1 : q ≤ q' := by
        cases q with
        | zero => omega
        | succ l =>
          obtain ⟨a1, a2⟩ := hs.last.is l rfl
          rcases Nat.lt_trichotomy l k with h' | h' | h'
          · have := hlast l h' a1; omega
          · subst h'; rw [hMk] at a2; cases a2
          · have := hs.dc l k a2 (T.chain k l h' (hs.lt l a2) hl a1)
            rw [hMk] at this; cases this
      have h2 : q' ≤ q := by
        cases q' with
        | zero => omega
        | succ l => have := hs.last.lt l (hq' l rfl).2 (hq' l rfl).1 (hM l rfl); omega
      omega
    have go : isL (D k) = true → M.testBit k = true → chkReads C (recOf base O D S i) gh v (k + 1) (O k).anc (S (k + 1)).1.h ((List.range' (k + 1) n).map (recOf base O D S)) = true → q = lastq D i ∨ sameAt C (recOf base O D S i) gh v (ancAt O q) (S q).1.h = true := by
      intro hl hMk h'
      refine T.reads_at hs hr n (k + 1) (k + 1) (by omega) (fun l e => ?_) (Nat.le_refl _) (fun l hl' _ => hl') (fun l e => ?_) h'
      · have : l = k := by omega
        subst this; exact ⟨hl, by omega⟩
      · have : l = k := by omega
        subst this; exact hMk
    have here : q' = q → isL (D k) = true → (bif Nat.ble q' i && Nat.blt i k then true else sameAt C (recOf base O D S i) gh v (ancAt O q') (S q').1.h) = true → q = lastq D i ∨ sameAt C (recOf base O D S i) gh v (ancAt O q) (S q).1.h = true := by
      rintro rfl hl h
      cases hb : Nat.ble q' i && Nat.blt i k with
      | true =>
        simp only [Bool.and_eq_true] at hb
        have h2 : i < k := Nat.le_of_ble_eq_true hb.2
        exact .inl (T.canon_q hr hq' (Nat.le_of_ble_eq_true hb.1) fun l h1 h3 => hlast l (by omega) h3)
      | false => rw [hb] at h; exact .inr h
    simp only [List.range'_succ, List.map_cons, chkReads] at h
    cases hd : isL (D k) with
    | false =>
      have h' : chkReads C (recOf base O D S i) gh v q' (ancAt O q') (S q').1.h ((List.range' (k + 1) n).map (recOf base O D S)) = true := by
        have e : (recOf base O D S k).d = D k := rfl
        rw [e] at h
        cases hD : D k <;> rw [hD] at h hd <;> first | exact h | cases hd
      refine T.reads_at hs hr n (k + 1) q' (by omega) hq' (by omega) (fun l hl h'' => ?_) hM h'
      rcases Nat.lt_succ_iff_lt_or_eq.1 hl with h3 | rfl
      · exact hlast l h3 h''
      · rw [hd] at h''; cases h''
    | true =>
      have hD := ((T.at (show k < m by omega)).loud hd).2
      have e : (recOf base O D S k).d = D k := rfl
      rw [e, hD] at h
      have e1 : (recOf base O D S i).o = O i := rfl
      have e2 : (recOf base O D S k).i = k := rfl
      have e3 : (recOf base O D S k).o = O k := rfl
      have e4 : (recOf base O D S i).i = i := rfl
      simp only [e1, e2, e3, e4] at h
      cases b1 : (O i).anc.testBit k with
      | true =>
        rw [b1] at h
        exact go hd (hr.anc k b1) h
      | false =>
        rw [b1] at h
        simp only [cond_false] at h
        cases b2 : (O k).anc.testBit i with
        | true =>
          rw [b2] at h
          have hMk : M.testBit k = false := by
            cases hb : M.testBit k with
            | false => rfl
            | true => have := hs.dc k i hb b2; rw [hr.not] at this; cases this
          exact here (stop hd hMk) hd h
        | false =>
          rw [b2] at h
          simp only [cond_false, Bool.and_eq_true] at h
          cases hb : M.testBit k with
          | true => exact go hd hb h.2
          | false => exact here (stop hd hb) hd h.1

end
end Go.Ax

/- The abstract executor: regions that draw their order: one operation, whichever. -/
namespace Go.Ax
variable [Opq]

section
variable {C : Ctx} {env : Env} {rd gl : Bool} {base m : Nat} {O : Nat → AOper} {D : Nat → Did} {S : Nat → AS × Pend}

theorem ev_putD (ts : Tmps) (dst : Option Nat) (v : AV) (t : Nat) : ev (putD ts dst v) (.tmp t) = if dst = some t then v else ev ts (.tmp t) := by
  cases dst with
  | none => simp [putD]
  | some d =>
    simp only [putD, ev_put, Option.some.injEq]
    by_cases h : t = d
    · subst h; simp
    · rw [if_neg h, if_neg (fun e => h e.symm)]

def Vk (O : Nat → AOper) (S : Nat → AS × Pend) (k : Nat) : AV := match (O k).dst with
  | some d => ev (S (k + 1)).1.ts (.tmp d)
  | none => undefA

/-- the temporaries behind the listed operations -/
def bt (O : Nat → AOper) (S : Nat → AS × Pend) (M : Nat) : Nat → Tmps
  | 0 => (S 0).1.ts
  | k + 1 => bif M.testBit k then putD (bt O S M k) (O k).dst (Vk O S k) else bt O S M k

theorem Vk_eq {k : Nat} {v : AV} {d : Nat} (h : (S (k + 1)).1.ts = putD (S k).1.ts (O k).dst v) (hd : (O k).dst = some d) : Vk O S k = v := by
  unfold Vk
  rw [hd] at h ⊢
  simp only
  rw [h, ev_putD, if_pos rfl]

theorem Tr.evS (T : Tr C env rd gl base m O D S) {k : Nat} (hk : k < m) (t : Nat) : ev (S (k + 1)).1.ts (.tmp t) = if (O k).dst = some t then Vk O S k else ev (S k).1.ts (.tmp t) := by
  obtain ⟨v, hv⟩ := (T.at hk).ts
  split
  · rename_i h
    rw [Vk_eq hv h, hv, ev_putD, if_pos h]
  · rename_i h
    rw [hv, ev_putD, if_neg h]

theorem Tr.bt_lo (T : Tr C env rd gl base m O D S) {M t : Nat} : ∀ k, k ≤ m → (∀ j, j < k → (O j).dst = some t → M.testBit j = true) → ev (bt O S M k) (.tmp t) = ev (S k).1.ts (.tmp t)
  | 0, _, _ => rfl
  | k + 1, hk, h => by
    have ih := T.bt_lo (M := M) (t := t) k (by omega) (fun j hj => h j (by omega))
    rw [T.evS (by omega)]
    simp only [bt]
    split
    · rename_i hd
      rw [h k (by omega) hd, cond_true, ev_putD, if_pos hd]
    · rename_i hd
      cases M.testBit k with
      | true => rw [cond_true, ev_putD, if_neg hd, ih]
      | false => rw [cond_false, ih]

theorem bt_hi {M i t : Nat} : ∀ n, (∀ j, i ≤ j → j < i + n → (O j).dst = some t → M.testBit j = false) → ev (bt O S M (i + n)) (.tmp t) = ev (bt O S M i) (.tmp t)
  | 0, _ => rfl
  | n + 1, h => by
    rw [← bt_hi n (fun j h1 h2 => h j h1 (by omega)), show i + (n + 1) = (i + n) + 1 from rfl]
    simp only [bt]
    cases hb : M.testBit (i + n) with
    | false => rfl
    | true =>
      rw [cond_true, ev_putD, if_neg]
      intro hd
      rw [h (i + n) (by omega) (by omega) hd] at hb; cases hb

theorem meet_dd {x y : AOper} {t : Nat} (h1 : x.dst = some t) (h2 : y.dst = some t) : meet x y = true := by
  simp [meet, h1, h2]

theorem meet_du {x y : AOper} {t : Nat} (h1 : x.dst = some t) (h2 : t ∈ usesA y) : meet x y = true := by
  simp [meet, h1, (memN_iff t _).2 h2]

theorem meet_ud {x y : AOper} {t : Nat} (h1 : t ∈ usesA x) (h2 : y.dst = some t) : meet x y = true := by
  simp [meet, h2, (memN_iff t _).2 h1]

theorem Tr.bt_uses (T : Tr C env rd gl base m O D S) {M q i t : Nat} (hs : Set m O D M q) (hr : Rdy m O M i) (ht : t ∈ usesA (O i)) : ev (bt O S M m) (.tmp t) = ev (S i).1.ts (.tmp t) := by
  rw [show m = i + (m - i) from by have := hr.lt; omega, bt_hi, T.bt_lo i (Nat.le_of_lt hr.lt)]
  · intro j hj hd
    exact hr.anc j (T.meet j i hj hr.lt (meet_ud ht hd))
  · intro j h1 h2 hd
    rcases Nat.lt_or_ge i j with h | h
    · cases hb : M.testBit j with
      | false => rfl
      | true =>
        have := hs.dc j i hb (T.meet i j h (by have := hr.lt; omega) (meet_du hd ht))
        rw [hr.not] at this; cases this
    · have : j = i := by omega
      subst this; exact hr.not

theorem setBit (M i j : Nat) : (M ||| 2 ^ i).testBit j = (M.testBit j || decide (i = j)) := by
  rw [Nat.testBit_or, Nat.testBit_two_pow]

theorem setBit_iff {M i j : Nat} : (M ||| 2 ^ i).testBit j = true ↔ M.testBit j = true ∨ i = j := by
  rw [setBit]; simp

theorem setBit_ne {M i j : Nat} (h : i ≠ j) : (M ||| 2 ^ i).testBit j = M.testBit j := by
  rw [setBit]; simp [h]

theorem Tr.bt_set (T : Tr C env rd gl base m O D S) {M q i t : Nat} (hs : Set m O D M q) (hr : Rdy m O M i) : ∀ k, k ≤ m →
    ev (bt O S (M ||| 2 ^ i) k) (.tmp t) = if i < k ∧ (O i).dst = some t then Vk O S i else ev (bt O S M k) (.tmp t)
  | 0, _ => by simp [bt]
  | k + 1, hk => by
    have ih := T.bt_set (t := t) hs hr k (by omega)
    simp only [bt]
    by_cases hki : i = k
    · subst hki
      rw [setBit, hr.not]
      simp only [decide_true, Bool.or_true, cond_true, cond_false, ev_putD]
      rw [ih]
      by_cases hd : (O i).dst = some t
      · simp [hd]
      · simp [hd]
    · rw [setBit_ne hki]
      cases hb : M.testBit k with
      | false =>
        rw [cond_false, cond_false, ih]
        by_cases h : i < k ∧ (O i).dst = some t
        · rw [if_pos h, if_pos ⟨by omega, h.2⟩]
        · rw [if_neg h, if_neg (fun e => h ⟨by omega, e.2⟩)]
      | true =>
        rw [cond_true, cond_true, ev_putD, ev_putD, ih]
        by_cases hd : (O k).dst = some t
        · rw [if_pos hd, if_pos hd, if_neg]
          rintro ⟨h1, h2⟩
          have := hs.dc k i hb (T.meet i k (by omega) (by omega) (meet_dd hd h2))
          rw [hr.not] at this; cases this
        · rw [if_neg hd, if_neg hd]
          by_cases h : i < k ∧ (O i).dst = some t
          · rw [if_pos h, if_pos ⟨by omega, h.2⟩]
          · rw [if_neg h, if_neg (fun e => h ⟨by omega, e.2⟩)]

theorem TsRel.cg {φ : Inj} {ts ts' : Tmps} {tmps : Array Value} (h : TsRel φ ts tmps) (he : ∀ t, ev ts' (.tmp t) = ev ts (.tmp t)) : TsRel φ ts' tmps :=
  fun t => by rw [he t]; exact h t

theorem Tr.ts_set (T : Tr C env rd gl base m O D S) {M q i : Nat} {φ : Inj} {a : Act} (hs : Set m O D M q) (hr : Rdy m O M i) (ht : TsRel φ (bt O S M m) a.tmps) (hd : dstOk a.tmps.size (O i).dst = true) {v : AV} {v' : Value}
    (hv : (S (i + 1)).1.ts = putD (S i).1.ts (O i).dst v) (hc : conc φ v = some v') : TsRel φ (bt O S (M ||| 2 ^ i) m) (a.put (O i).dst v').tmps := by
  refine (ht.putD hd hc).cg fun t => ?_
  rw [T.bt_set hs hr m (Nat.le_refl _), ev_putD]
  by_cases h : (O i).dst = some t
  · rw [if_pos h, if_pos ⟨hr.lt, h⟩, Vk_eq hv h]
  · rw [if_neg h, if_neg (fun e => h e.2)]

/-! ### where a run stands amid a region -/
structure DInv (C : Ctx) (base m : Nat) (O : Nat → AOper) (D : Nat → Did) (S : Nat → AS × Pend) (φ0 : Inj) (w0 : World) (M q : Nat) (φ : Inj) (a : Act) (w : World) : Prop where
  set : Set m O D M q
  rep : Rep C.P φ (Hx base m O D S M q) (S q).1.nx w
  nx : base + m ≤ (S q).1.nx
  excl : ∀ j ob, j < m → M.testBit j = true → (ancAt O q).testBit j = false → fwd (D j) = some ob → ∀ b o B, b ≠ base + j → (Hx base m O D S M q).get b = some o → φ.owns o b B → φ.blk (base + j) ≠ some B
  ts : TsRel φ (bt O S M m) a.tmps
  ds : DsRel φ (S q).1.ds a.defers
  chg : Chg φ0 (S 0).1.h base w0 φ (Hx base m O D S M q) (S q).1.nx w
  out : ∀ j, j < m → M.testBit j = false → φ (base + j) = none
  nt : a.tmps.size = (S 0).1.nt

theorem Set.quiet {M q i : Nat} (hs : Set m O D M q) (hr : Rdy m O M i) (hd : isL (D i) = false) : Set m O D (M ||| 2 ^ i) q where
  lt := by
    intro j hj
    rcases setBit_iff.1 hj with h | rfl
    · exact hs.lt j h
    · exact hr.lt
  dc := by
    intro j k hj hk
    rw [setBit_iff]
    rcases setBit_iff.1 hj with h | rfl
    · exact .inl (hs.dc j k h hk)
    · exact .inl (hr.anc k hk)
  last := ⟨fun l e => ⟨(hs.last.is l e).1, setBit_iff.2 (.inl (hs.last.is l e).2)⟩, fun l h1 h2 h3 => by
    rcases setBit_iff.1 h3 with h | rfl
    · exact hs.last.lt l h1 h2 h
    · (rw [hd] at h2; cases h2), hs.last.le⟩

theorem Tr.set_loud (T : Tr C env rd gl base m O D S) {M q i : Nat} (hs : Set m O D M q) (hr : Rdy m O M i) (hd : isL (D i) = true) : Set m O D (M ||| 2 ^ i) (i + 1) where
  lt := by
    intro j hj
    rcases setBit_iff.1 hj with h | rfl
    · exact hs.lt j h
    · exact hr.lt
  dc := by
    intro j k hj hk
    rw [setBit_iff]
    rcases setBit_iff.1 hj with h | rfl
    · exact .inl (hs.dc j k h hk)
    · exact .inl (hr.anc k hk)
  last := ⟨fun l e => by
    have : l = i := by omega
    subst this; exact ⟨hd, setBit_iff.2 (.inr rfl)⟩, fun l h1 h2 h3 => by
    rcases setBit_iff.1 h3 with h | rfl
    · have := (T.loud_at hs hr hd).2 l h1 h2 h; omega
    · omega, hr.lt⟩

theorem absorb_same {M M' : Nat} : ∀ {pd : Pend} {h : Heap}, (∀ e ∈ pd, M.testBit e.1 = M'.testBit e.1) → absorb M pd h = absorb M' pd h
  | [], _, _ => rfl
  | (i, nm, ob) :: l, h, he => by
    simp only [absorb]
    rw [he (i, nm, ob) (by simp), absorb_same (h := h.put nm (some ob)) (fun e h1 => he e (by simp [h1])), absorb_same (h := h) (fun e h1 => he e (by simp [h1]))]

theorem Hx_quiet {M q i : Nat} (hf : fwd (D i) = none) : Hx base m O D S (M ||| 2 ^ i) q = Hx base m O D S M q := by
  unfold Hx
  refine absorb_same fun e he => ?_
  rw [mem_keepP, mem_FP] at he
  rw [setBit_ne]
  rintro rfl
  rw [hf] at he
  cases he.1.2.2

theorem Set.ancAt {M q i : Nat} (hs : Set m O D M q) (h : M.testBit i = false) : (ancAt O q).testBit i = false := by
  cases q with
  | zero => simp [Ax.ancAt]
  | succ l =>
    cases hb : (Ax.ancAt O (l + 1)).testBit i with
    | false => rfl
    | true =>
      have := hs.dc l i (hs.last.is l rfl).2 hb
      rw [h] at this; cases this

theorem le_of_ne {φ φ' : Inj} {nm : Nat} (hn : φ nm = none) (hext : ∀ b, b ≠ nm → φ' b = φ b) : φ.le φ' := by
  intro b x hb
  rw [hext b]; · exact hb
  · rintro rfl; rw [hn] at hb; cases hb

theorem blk_ne {φ φ' : Inj} {b : Nat} (h : φ' b = φ b) : φ'.blk b = φ.blk b := by unfold Inj.blk; rw [h]

section
variable {φ0 : Inj} {w0 : World} {M q i : Nat} {φ : Inj} {a : Act} {w : World}

/-- an operation that leaves the heap alone, with or without a new name -/
theorem DInv.quiet (T : Tr C env rd gl base m O D S) (I : DInv C base m O D S φ0 w0 M q φ a w) (hr : Rdy m O M i) (hd : isL (D i) = false) (hf : fwd (D i) = none) {φ' : Inj} (hext : ∀ b, b ≠ base + i → φ' b = φ b)
    {v : AV} {v' : Value} (hv : (S (i + 1)).1.ts = putD (S i).1.ts (O i).dst v) (hc : conc φ' v = some v') : DInv C base m O D S φ0 w0 (M ||| 2 ^ i) q φ' (a.put (O i).dst v') w := by
  have hn := I.out i hr.lt hr.not
  have hle := le_of_ne hn hext
  have hdom : ∀ b o, (Hx base m O D S M q).get b = some o → b ≠ base + i := by
    rintro b o hb rfl
    rw [I.rep.get_nm hn] at hb; cases hb
  have hdst : dstOk a.tmps.size (O i).dst = true := by
    rw [I.nt, ← T.nt i (Nat.le_of_lt hr.lt)]; exact (T.at hr.lt).dst
  refine ⟨I.set.quiet hr hd, ?_, I.nx, ?_, ?_, ?_, ?_, ?_, ?_⟩
  · rw [Hx_quiet hf]
    refine ⟨?_, ?_, ?_, ?_, ?_, ?_⟩
    · intro b o hb
      obtain ⟨B, d, x, c, h1, h2, h3⟩ := I.rep.obj b o hb
      exact ⟨B, d, x, c, hle _ _ h1, h2, objRep_mono hle h3⟩
    · intro b b' o o' B d x d' x' hne hb hb' h1 h2
      rw [hext b (hdom b o hb)] at h1
      rw [hext b' (hdom b' o' hb')] at h2
      exact I.rep.inj b b' o o' B d x d' x' hne hb hb' h1 h2
    · intro b hb
      rw [hext b (by have := I.nx; have := hr.lt; omega)]
      exact I.rep.fresh b hb
    · intro g hg
      exact hle _ _ (I.rep.glob g hg)
    · intro b tag data B d x hb hB
      rw [hext b (hdom b _ hb)] at hB
      exact I.rep.opq b tag data B d x hb hB
    · intro b b' o o' k hne hq hb hb' h1 h2
      rw [Inj.owns_congr (hext b (hdom b o hb))] at h1
      rw [Inj.owns_congr (hext b' (hdom b' o' hb'))] at h2
      exact I.rep.sep b b' o o' k hne hq hb hb' h1 h2
  · rw [Hx_quiet hf]
    intro j ob hj hM ha hfj b o B hb hg hB
    have hji : j ≠ i := by rintro rfl; rw [hf] at hfj; cases hfj
    rw [setBit_ne (Ne.symm hji)] at hM
    rw [Inj.owns_congr (hext b (hdom b o hg))] at hB
    rw [blk_ne (hext (base + j) (by omega))]
    exact I.excl j ob hj hM ha hfj b o B hb hg hB
  · exact T.ts_set I.set hr (I.ts.mono hle) hdst hv hc
  · rw [put_defers]; exact I.ds.mono hle
  · rw [Hx_quiet hf]
    refine { I.chg with ext := fun b hb => ?_, dom := fun b o B hb hB => ?_ }
    · rw [hext b (by omega)]; exact I.chg.ext b hb
    · rw [Inj.owns_congr (hext b (hdom b o hb))] at hB
      exact I.chg.dom b o B hb hB
  · intro j hj hM
    have hji : j ≠ i := by
      rintro rfl
      rw [setBit] at hM; simp at hM
    rw [setBit_ne (Ne.symm hji)] at hM
    rw [hext (base + j) (by omega)]
    exact I.out j hj hM
  · rw [put_size]; exact I.nt

/-- an operation that makes a block -/
theorem DInv.fresh (T : Tr C env rd gl base m O D S) (I : DInv C base m O D S φ0 w0 M q φ a w) (hr : Rdy m O M i) {v0 : AV} {ob : AObj} (hD : D i = .f v0 ob) {φ' : Inj} {w' : World}
    (hrep : Rep C.P φ' ((edit .leaf none).put (base + i) (some ob)) (S q).1.nx w') (he : Eff φ .leaf w (base + i) φ' ((edit .leaf none).put (base + i) (some ob)) w')
    {v : AV} {v' : Value} (hv : (S (i + 1)).1.ts = putD (S i).1.ts (O i).dst v) (hc : conc φ' v = some v') : DInv C base m O D S φ0 w0 (M ||| 2 ^ i) q φ' (a.put (O i).dst v') w' := by
  have hn := I.out i hr.lt hr.not
  have hle := le_of_ne hn he.ext
  have hf : fwd (D i) = some ob := by rw [hD]; rfl
  have hd : isL (D i) = false := by rw [hD]; rfl
  have hdst : dstOk a.tmps.size (O i).dst = true := by
    rw [I.nt, ← T.nt i (Nat.le_of_lt hr.lt)]; exact (T.at hr.lt).dst
  have hput : ((edit .leaf none).put (base + i) (some ob) : Heap).get (base + i) = some ob := Ax.T.get_put_same _ _ _
  obtain ⟨Bn, dn, xn, cn, hBn, hcn, hon⟩ := hrep.obj _ _ hput
  have hbig : w.heap.size ≤ Bn := by
    rcases he.dom _ _ Bn hput (Inj.owns_self hBn) with h | ⟨b0, o0, h, _⟩
    · exact h
    · simp at h
  have hold : ∀ k, k < w.heap.size → w'.heap[k]? = w.heap[k]? := fun k hk => he.frame k hk (fun b o h => by simp at h)
  have hset := I.set.quiet hr hd
  have hdom : ∀ b o, (Hx base m O D S (M ||| 2 ^ i) q).get b = some o → (b = base + i ∧ o = ob) ∨ (b ≠ base + i ∧ (Hx base m O D S M q).get b = some o) := by
    intro b o hb
    rcases Tr.Hx_inv hb with ⟨j, rfl, h1, h2, h3, h4⟩ | h1
    · by_cases hji : j = i
      · subst hji; rw [hf] at h4; cases h4; exact .inl ⟨rfl, rfl⟩
      · rw [setBit_ne (Ne.symm hji)] at h2
        exact .inr ⟨by omega, Tr.Hx_new h1 h2 h3 h4⟩
    · have h2 := T.Hx_old (M := M) I.set.qOk h1
      refine .inr ⟨?_, h2⟩
      rintro rfl
      rw [I.rep.get_nm hn] at h2; cases h2
  have hnoq : isOpq ob = false := T.noq i ob hr.lt hf
  have hblk : ∀ b o B, (Hx base m O D S M q).get b = some o → φ.owns o b B → B < w.heap.size := fun b o B hb hB => I.rep.owns_lt hb hB
  refine ⟨hset, ?_, I.nx, ?_, ?_, ?_, ?_, ?_, ?_⟩
  · refine ⟨?_, ?_, hrep.fresh, hrep.glob, ?_, ?_⟩
    · intro b o hb
      rcases hdom b o hb with ⟨rfl, rfl⟩ | ⟨hne, hb⟩
      · exact ⟨Bn, dn, xn, cn, hBn, hcn, hon⟩
      · obtain ⟨B, d, x, c, h1, h2, h3⟩ := I.rep.obj b o hb
        refine ⟨B, d, x, c, hle _ _ h1, ?_, objRep_mono hle h3⟩
        rw [hold B (I.rep.lt hb h1)]; exact h2
    · intro b b' o o' B d x d' x' hne hb hb' h1 h2
      rcases hdom b o hb with ⟨rfl, rfl⟩ | ⟨hne1, hb⟩
      · rcases hdom b' o' hb' with ⟨rfl, rfl⟩ | ⟨hne2, hb'⟩
        · exact absurd rfl hne
        · rw [hBn] at h1; cases h1
          rw [he.ext _ hne2] at h2
          have := I.rep.lt hb' h2
          omega
      · rcases hdom b' o' hb' with ⟨rfl, rfl⟩ | ⟨hne2, hb'⟩
        · rw [hBn] at h2; cases h2
          rw [he.ext _ hne1] at h1
          have := I.rep.lt hb h1
          omega
        · rw [he.ext _ hne1] at h1
          rw [he.ext _ hne2] at h2
          exact I.rep.inj b b' o o' B d x d' x' hne hb hb' h1 h2
    · intro b tag data B d x hb hB
      rcases hdom b _ hb with ⟨rfl, e⟩ | ⟨hne, hb⟩
      · rw [← e] at hnoq; cases hnoq
      · rw [he.ext _ hne] at hB
        obtain ⟨k1, k2⟩ := I.rep.opq b tag data B d x hb hB
        exact ⟨Opq.loc _ _ _ _ _ _ k1 fun k hk => hold k (k2 k hk), fun k hk => Nat.lt_of_lt_of_le (k2 k hk) he.size⟩
    · intro b b' o o' k hne hq hb hb' h1 h2
      rcases hdom b o hb with ⟨rfl, rfl⟩ | ⟨hne1, hb⟩
      · rw [hnoq] at hq; cases hq
      · rw [Inj.owns_congr (he.ext _ hne1)] at h1
        rcases hdom b' o' hb' with ⟨rfl, rfl⟩ | ⟨hne2, hb'⟩
        · rw [Inj.owns_blk hnoq, Inj.blk_of hBn] at h2
          cases h2
          have := hblk b o Bn hb h1
          omega
        · rw [Inj.owns_congr (he.ext _ hne2)] at h2
          exact I.rep.sep b b' o o' k hne hq hb hb' h1 h2
  · intro j ob' hj hM ha hfj b o B hb hg hB
    by_cases hji : j = i
    · subst hji
      rcases hdom b o hg with ⟨rfl, _⟩ | ⟨hne, hg⟩
      · exact absurd rfl hb
      · rw [Inj.owns_congr (he.ext _ hne)] at hB
        have := hblk b o B hg hB
        rw [Inj.blk_of hBn]
        intro e; cases e; omega
    · rw [setBit_ne (Ne.symm hji)] at hM
      have hj' := Tr.Hx_new (S := S) (base := base) hj hM ha hfj
      rw [blk_ne (he.ext (base + j) (by omega))]
      rcases hdom b o hg with ⟨rfl, rfl⟩ | ⟨hne, hg⟩
      · rw [Inj.owns_blk hnoq, Inj.blk_of hBn] at hB; cases hB
        intro e
        obtain ⟨d1, x1, e1⟩ := Inj.blk_some e
        have := I.rep.lt hj' e1
        omega
      · rw [Inj.owns_congr (he.ext _ hne)] at hB
        exact I.excl j ob' hj hM ha hfj b o B hb hg hB
  · exact T.ts_set I.set hr (I.ts.mono hle) hdst hv hc
  · rw [put_defers]; exact I.ds.mono hle
  · refine ⟨?_, I.chg.nx, he.os.trans I.chg.os, he.out.trans I.chg.out, Nat.le_trans I.chg.size he.size, ?_, ?_⟩
    · intro b hb
      rw [he.ext b (by omega)]; exact I.chg.ext b hb
    · intro k hk hno
      rw [hold k (Nat.lt_of_lt_of_le hk I.chg.size)]
      exact I.chg.frame k hk hno
    · intro b o B hb hB
      rcases hdom b o hb with ⟨rfl, rfl⟩ | ⟨hne, hb⟩
      · rw [Inj.owns_blk hnoq, Inj.blk_of hBn] at hB; cases hB
        exact .inl (Nat.le_trans I.chg.size hbig)
      · rw [Inj.owns_congr (he.ext _ hne)] at hB
        exact I.chg.dom b o B hb hB
  · intro j hj hM
    have hji : j ≠ i := by
      rintro rfl
      rw [setBit] at hM; simp at hM
    rw [setBit_ne (Ne.symm hji)] at hM
    rw [he.ext (base + j) (by omega)]
    exact I.out j hj hM
  · rw [put_size]; exact I.nt

end
end
end Go.Ax

