/- A part of the proof of TopWaits: see the last text of the claim. -/
import Derived.Test.YtflfeegpkckneaaGreatDoorAx11
import Derived.Test.YtflfeegpkckneaaGreatDoorAx12
import Derived.Test.YtflfeegpkckneaaGreatDoorAx1
set_option linter.unusedSectionVars false
set_option linter.unusedSimpArgs false
set_option linter.unusedVariables false
/- The abstract executor: one state said in other words: it is right. -/
namespace Go.Ax

/-! ### it is right -/
def MS.le (m m' : MS) : Prop := (∀ b r, m.ρ.get b = some r → m'.ρ.get b = some r) ∧ (∀ i v, m.θ.get i = some v → m'.θ.get i = some v)

theorem MS.le_refl (m : MS) : m.le m := ⟨fun _ _ h => h, fun _ _ h => h⟩
theorem MS.le_trans {a b c : MS} (h : a.le b) (h' : b.le c) : a.le c := ⟨fun x r e => h'.1 x r (h.1 x r e), fun x r e => h'.2 x r (h.2 x r e)⟩

theorem mN_le {g nx b o b' o' : Nat} {room : Option (Bool × Nat)} {m m' : MS} (h : mN g nx b o b' o' room m = some m') : m.le m' := by
  unfold mN at h
  cases h1 : Nat.blt b g with
  | true =>
    rw [h1] at h
    simp only [cond_true] at h
    cases h2 : Nat.beq b b' && (Nat.beq o o' && room.isNone) with
    | true => rw [h2] at h; cases h; exact MS.le_refl _
    | false => rw [h2] at h; cases h
  | false =>
    rw [h1] at h
    simp only [cond_false] at h
    cases h2 : Nat.blt b nx with
    | false => rw [h2] at h; cases h
    | true =>
      rw [h2] at h
      simp only [cond_true] at h
      split at h
      · rename_i r hr
        cases h3 : Nat.beq r.b b' && (Nat.beq (o + r.δ) o' && roomOk r room) with
        | true => rw [h3] at h; cases h; exact MS.le_refl _
        | false => rw [h3] at h; cases h
      · rename_i hr
        cases h3 : Nat.ble o o' with
        | false => rw [h3] at h; cases h
        | true =>
          rw [h3] at h; cases h
          refine ⟨fun c r hc => ?_, fun _ _ h => h⟩
          simp only
          rw [T.get_put]
          split
          · rename_i e; subst e; rw [hr] at hc; cases hc
          · exact hc

theorem mVar_le {k : Knd} {i : Nat} {v : AV} {m m' : MS} (h : mVar k i v m = some m') : m.le m' := by
  unfold mVar at h
  cases h1 : okKnd k v with
  | false => rw [h1] at h; cases h
  | true =>
    rw [h1] at h
    simp only [cond_true] at h
    split at h
    · rename_i u hu
      cases h2 : AV.beq u v with
      | false => rw [h2] at h; cases h
      | true => rw [h2] at h; cases h; exact MS.le_refl _
    · rename_i hu
      cases h
      refine ⟨fun _ _ h => h, fun c r hc => ?_⟩
      simp only
      rw [T.get_put]
      split
      · rename_i e; subst e; rw [hu] at hc; cases hc
      · exact hc

mutual
theorem mV_le {g nx : Nat} : ∀ (p v : AV) (m m' : MS), mV g nx p v m = some m' → m.le m'
  | .sym k f args, v, m, m', h => by
    simp only [mV] at h
    split at h
    · exact mVar_le h
    · split at h
      · rename_i k' f' args'
        cases h1 : !isVar f && (decide (f = f') && decide (k = k')) with
        | false => rw [h1] at h; cases h
        | true => rw [h1] at h; exact mL_le _ _ _ _ h
      · cases h
  | .ptr b o, v, m, m', h => by
    simp only [mV] at h
    split at h
    · exact mN_le h
    · cases h
  | .slice b o len cap op, v, m, m', h => by
    simp only [mV] at h
    split at h
    · rename_i b' o' len' cap' op'
      cases h1 : Nat.beq len len' with
      | false => rw [h1] at h; cases h
      | true =>
        rw [h1] at h
        cases op with
        | false =>
          simp only [cond_true] at h
          cases h2 : Nat.beq cap cap' && !op' with
          | false => rw [h2] at h; cases h
          | true => rw [h2] at h; exact mN_le h
        | true =>
          simp only [cond_true] at h
          cases h2 : Nat.ble cap cap' with
          | false => rw [h2] at h; cases h
          | true => rw [h2] at h; exact mN_le h
    · cases h
  | .map r, v, m, m', h => by
    simp only [mV] at h
    split at h
    · exact mN_le h
    · cases h
  | .func fn a b, v, m, m', h => by
    simp only [mV] at h
    split at h
    · rename_i fn' a' b'
      cases h1 : !isYield fn && decide (fn = fn') with
      | false => rw [h1] at h; cases h
      | true =>
        rw [h1] at h
        simp only [cond_true] at h
        split at h
        · rename_i m1 hm1
          exact MS.le_trans (mL_le _ _ _ _ hm1) (mL_le _ _ _ _ h)
        · cases h
    · cases h
  | .iface t x, v, m, m', h => by
    simp only [mV] at h
    split at h
    · rename_i t' x'
      cases h1 : Nat.beq t t' with
      | false => rw [h1] at h; cases h
      | true => rw [h1] at h; exact mV_le _ _ _ _ h
    · cases h
  | .agg l, v, m, m', h => by
    simp only [mV] at h
    split at h
    · exact mL_le _ _ _ _ h
    · cases h
  | .tuple l, v, m, m', h => by
    simp only [mV] at h
    split at h
    · exact mL_le _ _ _ _ h
    · cases h
  | .sstr l, v, m, m', h => by
    simp only [mV] at h
    split at h
    · exact mL_le _ _ _ _ h
    · exact mL_le _ _ _ _ h
    · cases h
  | .bool b, v, m, m', h => by
    simp only [mV] at h
    split at h
    · rename_i b'
      cases h1 : b == b' with
      | false => rw [h1] at h; cases h
      | true => rw [h1] at h; cases h; exact MS.le_refl _
    · cases h
  | .int k n, v, m, m', h => by
    simp only [mV] at h
    split at h
    · rename_i k' n'
      cases h1 : decide (k = k') && decide (n = n') with
      | false => rw [h1] at h; cases h
      | true => rw [h1] at h; cases h; exact MS.le_refl _
    · cases h
  | .str s, v, m, m', h => by
    simp only [mV] at h
    split at h
    · rename_i s'
      cases h1 : s == s' with
      | false => rw [h1] at h; cases h
      | true => rw [h1] at h; cases h; exact MS.le_refl _
    · cases h
  | .nilptr, v, m, m', h => by
    simp only [mV] at h
    split at h
    · cases h; exact MS.le_refl _
    · cases h
  | .nilslice, v, m, m', h => by
    simp only [mV] at h
    split at h
    · cases h; exact MS.le_refl _
    · cases h
  | .nilmap, v, m, m', h => by
    simp only [mV] at h
    split at h
    · cases h; exact MS.le_refl _
    · cases h
  | .nilFunc, v, m, m', h => by
    simp only [mV] at h
    split at h
    · cases h; exact MS.le_refl _
    · cases h
  | .nilIface, v, m, m', h => by
    simp only [mV] at h
    split at h
    · cases h; exact MS.le_refl _
    · cases h
theorem mL_le {g nx : Nat} : ∀ (p v : List AV) (m m' : MS), mL g nx p v m = some m' → m.le m'
  | [], l, m, m', h => by
    simp only [mL] at h
    split at h
    · cases h; exact MS.le_refl _
    · cases h
  | p :: ps, l, m, m', h => by
    simp only [mL] at h
    split at h
    · split at h
      · rename_i m1 hm1
        exact MS.le_trans (mV_le _ _ _ _ hm1) (mL_le _ _ _ _ h)
      · cases h
    · cases h
end


/-- the new names -/
def phi2 (g nx : Nat) (φ : Inj) (M : MS) : Inj := fun b =>
  if b < g then φ b else if b < nx then match M.ρ.get b with
    | some r => match φ r.b with
      | some (B, d, x) => some (B, d + r.δ, (bif r.ux then x else 0) + r.κ)
      | none => none
    | none => none
  else none

/-- the new values that are not given -/
@[reducible] noncomputable def opq2 (I : Opq) (φ : Inj) (M : MS) (dv : Nat → Value) : Opq := { I with
  var := fun i => match M.θ.get i with
    | some v => match @conc I.toSg φ v with
      | some x => x
      | none => dv i
    | none => dv i }

section
variable {I : Opq} {φ : Inj} {M : MS} {g nx : Nat} {dv : Nat → Value}

theorem mN_sound {b o b' o' : Nat} {room : Option (Bool × Nat)} {m m' : MS} (h : mN g nx b o b' o' room m = some m') (hM : m'.le M) {B d x : Nat} (hB : φ b' = some (B, d, x)) :
    ∃ d2 x2, phi2 g nx φ M b = some (B, d2, x2) ∧ d2 + o = d + o' ∧ (∀ u k, room = some (u, k) → x2 = (bif u then x else 0) + k) := by
  unfold mN at h
  unfold phi2
  cases h1 : Nat.blt b g with
  | true =>
    rw [h1] at h
    simp only [cond_true] at h
    rw [if_pos (show b < g from Nat.le_of_ble_eq_true h1)]
    cases h2 : Nat.beq b b' && (Nat.beq o o' && room.isNone) with
    | false => rw [h2] at h; cases h
    | true =>
      simp only [Bool.and_eq_true] at h2
      have e1 := Nat.eq_of_beq_eq_true h2.1
      have e2 := Nat.eq_of_beq_eq_true h2.2.1
      subst e1; subst e2
      refine ⟨d, x, hB, rfl, fun u k hr => ?_⟩
      subst hr; simp at h2
  | false =>
    rw [h1] at h
    simp only [cond_false] at h
    rw [if_neg (show ¬ b < g from fun hh => by rw [show Nat.blt b g = true from Nat.ble_eq_true_of_le hh] at h1; cases h1)]
    cases h2 : Nat.blt b nx with
    | false => rw [h2] at h; cases h
    | true =>
      rw [h2] at h
      simp only [cond_true] at h
      rw [if_pos (show b < nx from Nat.le_of_ble_eq_true h2)]
      split at h
      · rename_i r hr
        cases h3 : Nat.beq r.b b' && (Nat.beq (o + r.δ) o' && roomOk r room) with
        | false => rw [h3] at h; cases h
        | true =>
          rw [h3] at h; cases h
          simp only [Bool.and_eq_true] at h3
          have e1 := Nat.eq_of_beq_eq_true h3.1
          have e2 := Nat.eq_of_beq_eq_true h3.2.1
          rw [hM.1 _ _ hr]
          simp only [e1, hB]
          refine ⟨_, _, rfl, by omega, fun u k hrm => ?_⟩
          subst hrm
          have h4 := h3.2.2
          simp only [roomOk, Bool.and_eq_true, beq_iff_eq] at h4
          rw [h4.1, Nat.eq_of_beq_eq_true h4.2]
      · rename_i hr
        cases h3 : Nat.ble o o' with
        | false => rw [h3] at h; cases h
        | true =>
          rw [h3] at h; cases h
          have hle := Nat.le_of_ble_eq_true h3
          rw [hM.1 b _ (T.get_put_same ..)]
          simp only [hB]
          refine ⟨_, _, rfl, by omega, fun u k hrm => ?_⟩
          subst hrm; rfl

theorem okKnd_sound {k : Knd} {v : AV} (h : okKnd k v = true) {x : Value} (hx : conc φ v = some x) : HasKnd k x := by
  cases k with
  | any => trivial
  | int k =>
    simp only [okKnd, Bool.and_eq_true] at h
    split at h
    · rename_i k' hk
      have e := of_decide_eq_true h.1
      subst e
      obtain ⟨n, rfl, hn⟩ := kndA_int hk hx
      exact ⟨n, rfl, hn h.2⟩
    · cases h.1
  | bool =>
    simp only [okKnd] at h
    split at h
    · rename_i hk; exact kndA_bool hk hx
    · cases h
  | one => exact flat_one hx h
  | str =>
    simp only [okKnd] at h
    split at h
    · exact ⟨_, conc_str hx⟩
    · obtain ⟨_, s, _, _, rfl⟩ := conc_sstr hx; exact ⟨_, rfl⟩
    · exact conc_sym_knd hx
    · cases h

theorem mVar_sound {k : Knd} {i : Nat} {v : AV} {m m' : MS} (h : mVar k i v m = some m') (hM : m'.le M) {x : Value} (hx : @conc I.toSg φ v = some x) :
    @conc (opq2 I φ M dv).toSg (phi2 g nx φ M) (.sym k (.var i) []) = some x := by
  unfold mVar at h
  cases h1 : okKnd k v with
  | false => rw [h1] at h; cases h
  | true =>
    rw [h1] at h
    simp only [cond_true] at h
    have hk := okKnd_sound h1 hx
    have hv : M.θ.get i = some v := by
      split at h
      · rename_i u hu
        cases h2 : AV.beq u v with
        | false => rw [h2] at h; cases h
        | true =>
          rw [h2] at h; cases h
          have := beq_eq h2
          subst this
          exact hM.2 _ _ hu
      · cases h
        exact hM.2 _ _ (T.get_put_same ..)
    simp only [conc, concL]
    refine congrArg some (@Sg.den_eq (opq2 I φ M dv).toSg _ _ _ _ ?_ hk)
    show (match M.θ.get i with | some v => (match @conc I.toSg φ v with | some x => x | none => dv i) | none => dv i) = x
    rw [hv]
    simp only [hx]

theorem raw_same {J : Sg} {K : Sg} (ha : J.app = K.app) {k : Knd} {f : SOp} (hf : isVar f = false) (l : List Value) : @Sg.raw J k f l = @Sg.raw K k f l := by
  cases f with
  | var i => cases hf
  | app i => simp only [Sg.raw, ha]
  | bin op => rcases l with _ | ⟨a, _ | ⟨b, _ | _⟩⟩ <;> rfl
  | un op => rcases l with _ | ⟨a, _ | ⟨b, _⟩⟩ <;> rfl
  | conv =>
    rcases l with _ | ⟨a, _ | ⟨b, _⟩⟩
    · rfl
    · cases a <;> rfl
    · cases a <;> rfl

theorem den_same {J : Sg} {K : Sg} (ha : J.app = K.app) {k : Knd} {f : SOp} (hf : isVar f = false) (l : List Value) : @Sg.den J k f l = @Sg.den K k f l := by
  unfold Sg.den
  rw [raw_same ha hf l]

mutual
theorem mV_sound : ∀ (p v : AV) (m m' : MS), mV g nx p v m = some m' → m'.le M → ∀ x, @conc I.toSg φ v = some x → @conc (opq2 I φ M dv).toSg (phi2 g nx φ M) p = some x
  | .sym k f args, v, m, m', h, hM, x, hx => by
    simp only [mV] at h
    split at h
    · rename_i i hi
      have : f = .var i ∧ args = [] := by
        unfold varOf at hi
        split at hi
        · cases hi; exact ⟨rfl, rfl⟩
        · cases hi
      obtain ⟨rfl, rfl⟩ := this
      exact mVar_sound h hM hx
    · rename_i hv
      split at h
      · rename_i k' f' args'
        cases h1 : !isVar f && (decide (f = f') && decide (k = k')) with
        | false => rw [h1] at h; cases h
        | true =>
          rw [h1] at h
          simp only [Bool.and_eq_true, decide_eq_true_eq, Bool.not_eq_true'] at h1
          obtain ⟨hnv, rfl, rfl⟩ := h1
          obtain ⟨l, hl, rfl⟩ := conc_sym hx
          have := mL_sound _ _ _ _ h hM l hl
          simp only [conc, this]
          exact congrArg some (den_same (J := (opq2 I φ M dv).toSg) (K := I.toSg) rfl hnv l)
      · cases h
  | .ptr b o, v, m, m', h, hM, x, hx => by
    simp only [mV] at h
    split at h
    · obtain ⟨B, d, y, hB, rfl⟩ := conc_ptr hx
      obtain ⟨d2, x2, h1, h2, _⟩ := mN_sound h hM hB
      simp only [conc, h1, h2]
    · cases h
  | .slice b o len cap op, v, m, m', h, hM, x, hx => by
    simp only [mV] at h
    split at h
    · rename_i b' o' len' cap' op'
      obtain ⟨B, d, y, hB, rfl⟩ := conc_slice hx
      cases h1 : Nat.beq len len' with
      | false => rw [h1] at h; cases h
      | true =>
        rw [h1] at h
        have e := Nat.eq_of_beq_eq_true h1
        subst e
        cases op with
        | false =>
          simp only [cond_true] at h
          cases h2 : Nat.beq cap cap' && !op' with
          | false => rw [h2] at h; cases h
          | true =>
            rw [h2] at h
            simp only [Bool.and_eq_true, Bool.not_eq_true'] at h2
            have e2 := Nat.eq_of_beq_eq_true h2.1
            obtain ⟨d2, x2, h3, h4, _⟩ := mN_sound h hM hB
            simp only [conc, h3, h4, e2, h2.2, cond_false]
        | true =>
          simp only [cond_true] at h
          cases h2 : Nat.ble cap cap' with
          | false => rw [h2] at h; cases h
          | true =>
            rw [h2] at h
            have hle := Nat.le_of_ble_eq_true h2
            obtain ⟨d2, x2, h3, h4, h5⟩ := mN_sound h hM hB
            have h6 := h5 _ _ rfl
            simp only [conc, h3, h4, cond_true]
            congr 2
            rw [h6]
            cases op' <;> simp only [cond_true, cond_false] <;> omega
    · cases h
  | .map r, v, m, m', h, hM, x, hx => by
    simp only [mV] at h
    split at h
    · obtain ⟨B, d, y, hB, rfl⟩ := conc_map hx
      obtain ⟨d2, x2, h1, _, _⟩ := mN_sound h hM hB
      simp only [conc, h1]
    · cases h
  | .func fn a b, v, m, m', h, hM, x, hx => by
    simp only [mV] at h
    split at h
    · rename_i fn' a' b'
      cases h1 : !isYield fn && decide (fn = fn') with
      | false => rw [h1] at h; cases h
      | true =>
        rw [h1] at h
        simp only [cond_true] at h
        simp only [Bool.and_eq_true, Bool.not_eq_true', decide_eq_true_eq] at h1
        obtain ⟨hy, rfl⟩ := h1
        split at h
        · rename_i m1 hm1
          obtain ⟨fn2, x1, x2, h2, h3, h4, rfl⟩ := conc_func hx
          have e : ∀ ψ, concFn ψ fn = some fn := by intro ψ; cases fn <;> first | rfl | cases hy
          rw [e] at h2; cases h2
          simp only [conc, e, mL_sound _ _ _ _ hm1 (MS.le_trans (mL_le _ _ _ _ h) hM) _ h3, mL_sound _ _ _ _ h hM _ h4]
        · cases h
    · cases h
  | .iface t y, v, m, m', h, hM, x, hx => by
    simp only [mV] at h
    split at h
    · rename_i t' x'
      cases h1 : Nat.beq t t' with
      | false => rw [h1] at h; cases h
      | true =>
        rw [h1] at h
        have e := Nat.eq_of_beq_eq_true h1
        subst e
        obtain ⟨z, hz, rfl⟩ := conc_iface hx
        simp only [conc, mV_sound _ _ _ _ h hM _ hz]
    · cases h
  | .agg l, v, m, m', h, hM, x, hx => by
    simp only [mV] at h
    split at h
    · obtain ⟨z, hz, rfl⟩ := conc_agg hx
      simp only [conc, mL_sound _ _ _ _ h hM _ hz]
    · cases h
  | .tuple l, v, m, m', h, hM, x, hx => by
    simp only [mV] at h
    split at h
    · obtain ⟨z, hz, rfl⟩ := conc_tuple hx
      simp only [conc, mL_sound _ _ _ _ h hM _ hz]
    · cases h
  | .sstr l, v, m, m', h, hM, x, hx => by
    simp only [mV] at h
    split at h
    · obtain ⟨z, s, hz, hs, rfl⟩ := conc_sstr hx
      simp only [conc, mL_sound _ _ _ _ h hM _ hz, hs]
    · rename_i s0
      obtain ⟨z, hz, hs⟩ := @strBytes_conc I φ s0
      cases conc_str hx
      simp only [conc, mL_sound _ _ _ _ h hM _ hz, hs]
    · cases h
  | .bool b, v, m, m', h, hM, x, hx => by
    simp only [mV] at h
    split at h
    · rename_i b'
      cases h1 : b == b' with
      | false => rw [h1] at h; cases h
      | true => rw [beq_iff_eq] at h1; subst h1; exact hx
    · cases h
  | .int k n, v, m, m', h, hM, x, hx => by
    simp only [mV] at h
    split at h
    · rename_i k' n'
      cases h1 : decide (k = k') && decide (n = n') with
      | false => rw [h1] at h; cases h
      | true =>
        simp only [Bool.and_eq_true, decide_eq_true_eq] at h1
        obtain ⟨rfl, rfl⟩ := h1
        exact hx
    · cases h
  | .str s, v, m, m', h, hM, x, hx => by
    simp only [mV] at h
    split at h
    · rename_i s'
      cases h1 : s == s' with
      | false => rw [h1] at h; cases h
      | true => rw [beq_iff_eq] at h1; subst h1; exact hx
    · cases h
  | .nilptr, v, m, m', h, hM, x, hx => by
    simp only [mV] at h
    split at h
    · exact hx
    · cases h
  | .nilslice, v, m, m', h, hM, x, hx => by
    simp only [mV] at h
    split at h
    · exact hx
    · cases h
  | .nilmap, v, m, m', h, hM, x, hx => by
    simp only [mV] at h
    split at h
    · exact hx
    · cases h
  | .nilFunc, v, m, m', h, hM, x, hx => by
    simp only [mV] at h
    split at h
    · exact hx
    · cases h
  | .nilIface, v, m, m', h, hM, x, hx => by
    simp only [mV] at h
    split at h
    · exact hx
    · cases h
theorem mL_sound : ∀ (p v : List AV) (m m' : MS), mL g nx p v m = some m' → m'.le M → ∀ x, @concL I.toSg φ v = some x → @concL (opq2 I φ M dv).toSg (phi2 g nx φ M) p = some x
  | [], l, m, m', h, hM, x, hx => by
    simp only [mL] at h
    split at h
    · exact hx
    · cases h
  | p :: ps, l, m, m', h, hM, x, hx => by
    simp only [mL] at h
    split at h
    · split at h
      · rename_i m1 hm1
        obtain ⟨v', l', hv, hl, rfl⟩ := concL_cons hx
        exact @concL_cons_mk (opq2 I φ M dv).toSg (phi2 g nx φ M) _ _ _ _ (mV_sound _ _ _ _ hm1 (MS.le_trans (mL_le _ _ _ _ h) hM) _ hv) (mL_sound _ _ _ _ h hM _ hl)
      · cases h
    · cases h
end


theorem mE_le : ∀ (p v : List (AV × AV × Nat)) (m m' : MS), mE g nx p v m = some m' → m.le m'
  | [], l, m, m', h => by
    simp only [mE] at h
    split at h
    · cases h; exact MS.le_refl _
    · cases h
  | (k, v, n) :: ps, l, m, m', h => by
    simp only [mE] at h
    split at h
    · rename_i k' v' n' vs
      cases h1 : Nat.beq n n' with
      | false => rw [h1] at h; cases h
      | true =>
        rw [h1] at h
        simp only [cond_true] at h
        split at h
        · rename_i m1 hm1
          split at h
          · rename_i m2 hm2
            exact MS.le_trans (MS.le_trans (mV_le _ _ _ _ hm1) (mV_le _ _ _ _ hm2)) (mE_le _ _ _ _ h)
          · cases h
        · cases h
    · cases h

theorem mE_sound : ∀ (p v : List (AV × AV × Nat)) (m m' : MS), mE g nx p v m = some m' → m'.le M → ∀ x, @concE I.toSg φ v = some x → @concE (opq2 I φ M dv).toSg (phi2 g nx φ M) p = some x
  | [], l, m, m', h, hM, x, hx => by
    simp only [mE] at h
    split at h
    · exact hx
    · cases h
  | (k, v, n) :: ps, l, m, m', h, hM, x, hx => by
    simp only [mE] at h
    split at h
    · rename_i k' v' n' vs
      cases h1 : Nat.beq n n' with
      | false => rw [h1] at h; cases h
      | true =>
        rw [h1] at h
        simp only [cond_true] at h
        have e := Nat.eq_of_beq_eq_true h1
        subst e
        split at h
        · rename_i m1 hm1
          split at h
          · rename_i m2 hm2
            have hM2 : m2.le M := MS.le_trans (mE_le _ _ _ _ h) hM
            have hM1 : m1.le M := MS.le_trans (mV_le _ _ _ _ hm2) hM2
            simp only [concE] at hx
            cases hk : @conc I.toSg φ k' with
            | none => rw [hk] at hx; cases hx
            | some k2 =>
              cases hv : @conc I.toSg φ v' with
              | none => rw [hk, hv] at hx; cases hx
              | some v2 =>
                cases hl : @concE I.toSg φ vs with
                | none => rw [hk, hv, hl] at hx; cases hx
                | some l2 =>
                  rw [hk, hv, hl] at hx
                  simp only [concE, mV_sound _ _ _ _ hm1 hM1 _ hk, mV_sound _ _ _ _ hm2 hM2 _ hv, mE_sound _ _ _ _ h hM _ hl]
                  exact hx
          · cases h
        · cases h
    · cases h

theorem mO_le {o o' : AObj} {r : NM} {m m' : MS} (h : mO g nx o o' r m = some m') : m.le m' := by
  unfold mO at h
  split at h
  · rename_i vs el op vs' el' op'
    cases h1 : roomAt op op' r vs.length vs'.length with
    | false => rw [h1] at h; cases h
    | true =>
      rw [h1] at h
      simp only [cond_true] at h
      split at h
      · exact mL_le _ _ _ _ h
      · cases h
  · rename_i es ck es' ck'
    cases h1 : Nat.beq ck ck' && Nat.beq r.δ 0 with
    | false => rw [h1] at h; cases h
    | true => rw [h1] at h; exact mE_le _ _ _ _ h
  · cases h

theorem mO_opq {o o' : AObj} {r : NM} {m m' : MS} (h : mO g nx o o' r m = some m') : isOpq o = false ∧ isOpq o' = false := by
  unfold mO at h
  split at h
  · exact ⟨rfl, rfl⟩
  · exact ⟨rfl, rfl⟩
  · cases h

theorem mO_sound {o o' : AObj} {r : NM} {m m' : MS} (h : mO g nx o o' r m = some m') (hM : m'.le M) {d x : Nat} {c : Obj} (ho : @objRep I.toSg φ d x o' c) :
    @objRep (opq2 I φ M dv).toSg (phi2 g nx φ M) (d + r.δ) ((bif r.ux then x else 0) + r.κ) o c ∧
    (∀ n, reach o ((bif r.ux then x else 0) + r.κ) = some n → ∃ n', reach o' x = some n' ∧ r.δ + n ≤ n') := by
  unfold mO at h
  split at h
  · rename_i vs el op vs' el' op'
    cases h1 : roomAt op op' r vs.length vs'.length with
    | false => rw [h1] at h; cases h
    | true =>
      rw [h1] at h
      simp only [cond_true] at h
      split at h
      · rename_i us hus
        obtain ⟨rfl, hlen⟩ := takeN_eq _ _ _ hus
        rw [dropN_eq] at h hlen
        simp only [List.length_drop] at hlen
        cases c <;> simp only [objRep] at ho ⊢
        rename_i cs el2 fr
        obtain ⟨⟨l, hl, hcs⟩, h2, h3⟩ := ho
        have hll := concL_length hl
        have hroom : ∀ s, op = some s → d + r.δ + vs.length + ((bif r.ux then x else 0) + r.κ) * s ≤ cs.size ∧ ∀ n', reach (.cells vs' el' op') x = some n' → r.δ + (vs.length + ((bif r.ux then x else 0) + r.κ) * s) ≤ n' := by
          intro s hs
          subst hs
          clear hlen
          simp only [roomAt] at h1
          cases op' with
          | some s' =>
            simp only [Bool.and_eq_true] at h1
            have e := Nat.eq_of_beq_eq_true h1.1
            have hle := Nat.le_of_ble_eq_true h1.2
            subst e
            have := h2 s rfl
            have hx : (bif r.ux then x else 0) ≤ x := by cases r.ux <;> simp
            have hmul : (bif r.ux then x else 0) * s ≤ x * s := Nat.mul_le_mul_right s hx
            rw [Nat.add_mul]
            constructor
            · omega
            · intro n' hn'
              simp only [reach, Option.some.injEq] at hn'
              omega
          | none =>
            simp only [Bool.and_eq_true, Bool.not_eq_true'] at h1
            have hle := Nat.le_of_ble_eq_true h1.2.1
            have hlt : 0 < vs'.length := Nat.le_of_ble_eq_true h1.2.2
            have hlast : vs'.length - 1 < l.length := by omega
            have := hcs (vs'.length - 1) l[vs'.length - 1] (List.getElem?_eq_getElem hlast)
            have hb := (Array.getElem?_eq_some_iff.1 this).1
            rw [h1.1]
            simp only [cond_false, Nat.zero_add]
            constructor
            · omega
            · intro n' hn'
              simp only [reach, Option.some.injEq] at hn'
              omega
        refine ⟨⟨⟨(l.drop r.δ).take vs.length, mL_sound _ _ _ _ h hM _ (concL_take _ (concL_drop _ hl)), ?_⟩, fun s hs => (hroom s hs).1, h3⟩, ?_⟩
        · intro i v hv
          rw [List.getElem?_take] at hv
          split at hv
          · rw [List.getElem?_drop] at hv
            have := hcs _ _ hv
            rw [← this]
            congr 1
            omega
          · cases hv
        · intro n hn
          simp only [reach, Option.some.injEq] at hn ⊢
          refine ⟨_, rfl, ?_⟩
          subst hn
          cases op with
          | none =>
            simp only [roomAt] at h1
            have := Nat.le_of_ble_eq_true h1
            simp only
            omega
          | some s => exact (hroom s rfl).2 _ rfl
      · cases h
  · rename_i es ck es' ck'
    cases h1 : Nat.beq ck ck' && Nat.beq r.δ 0 with
    | false => rw [h1] at h; cases h
    | true =>
      rw [h1] at h
      simp only [Bool.and_eq_true] at h1
      have e := Nat.eq_of_beq_eq_true h1.1
      subst e
      cases c <;> simp only [objRep] at ho ⊢
      exact ⟨⟨ho.1, mE_sound _ _ _ _ h hM _ ho.2⟩, fun n hn => by simp [reach] at hn⟩
  · cases h


theorem mHeap_le {h1 : Heap} : ∀ {hl : List (Nat × AObj)} {m m' : MS}, mHeap g nx h1 hl m = some m' → m.le m'
  | [], m, m', h => by simp only [mHeap] at h; cases h; exact MS.le_refl _
  | (b, o) :: l, m, m', h => by
    simp only [mHeap] at h
    cases hb : Nat.ble g b && Nat.blt b nx with
    | false => rw [hb] at h; cases h
    | true =>
    rw [hb] at h
    simp only [cond_true] at h
    split at h
    · cases h
    · split at h
      · split at h
        · rename_i m1 hm1
          exact MS.le_trans (mO_le hm1) (mHeap_le h)
        · cases h
      · cases h

theorem mHeap_sound {h1 : Heap} : ∀ {hl : List (Nat × AObj)} {m m' : MS}, mHeap g nx h1 hl m = some m' → m'.le M → ∀ b o, (b, o) ∈ hl →
    g ≤ b ∧ b < nx ∧ ∃ r o' m1 m2, M.ρ.get b = some r ∧ h1.get r.b = some o' ∧ mO g nx o o' r m1 = some m2 ∧ m2.le M
  | [], m, m', _, _, b, o, hb => by cases hb
  | (c, oc) :: l, m, m', h, hM, b, o, hb => by
    simp only [mHeap] at h
    cases hg : Nat.ble g c && Nat.blt c nx with
    | false => rw [hg] at h; cases h
    | true =>
    rw [hg] at h
    simp only [cond_true] at h
    simp only [Bool.and_eq_true] at hg
    split at h
    · cases h
    · rename_i r hr
      split at h
      · rename_i o' ho'
        split at h
        · rename_i m1 hm1
          have hM1 : m1.le M := MS.le_trans (mHeap_le h) hM
          rcases List.mem_cons.1 hb with e | e
          · cases e
            exact ⟨Nat.le_of_ble_eq_true hg.1, Nat.le_of_ble_eq_true hg.2, r, o', m, m1, (MS.le_trans (mO_le hm1) hM1).1 _ _ hr, ho', hm1, hM1⟩
          · exact mHeap_sound h hM b o e
        · cases h
      · cases h

theorem mTs_le {ts2 ts1 : Tmps} : ∀ {n : Nat} {m m' : MS}, mTs g nx ts2 ts1 n m = some m' → m.le m'
  | 0, m, m', h => by simp only [mTs] at h; cases h; exact MS.le_refl _
  | n + 1, m, m', h => by
    simp only [mTs] at h
    split at h
    · rename_i m1 hm1
      exact MS.le_trans (mTs_le hm1) (mV_le _ _ _ _ h)
    · cases h

theorem mTs_sound {ts2 ts1 : Tmps} : ∀ {n : Nat} {m m' : MS}, mTs g nx ts2 ts1 n m = some m' → m'.le M → ∀ t, t < n → ∀ x, @conc I.toSg φ (ev ts1 (.tmp t)) = some x →
    @conc (opq2 I φ M dv).toSg (phi2 g nx φ M) (ev ts2 (.tmp t)) = some x
  | 0, m, m', h, hM, t, ht, x, hx => by omega
  | n + 1, m, m', h, hM, t, ht, x, hx => by
    simp only [mTs] at h
    split at h
    · rename_i m1 hm1
      rcases Nat.lt_or_ge t n with h1 | h1
      · exact mTs_sound hm1 (MS.le_trans (mV_le _ _ _ _ h) hM) t h1 x hx
      · have : t = n := by omega
        subst this
        exact mV_sound _ _ _ _ h hM x hx
    · cases h

theorem mkHeap_mem : ∀ {hl : List (Nat × AObj)} {b : Nat} {o : AObj}, (mkHeap hl).get b = some o → (b, o) ∈ hl
  | [], b, o, h => by simp [mkHeap] at h
  | (c, oc) :: l, b, o, h => by
    simp only [mkHeap] at h
    rw [T.get_put] at h
    split at h
    · rename_i e; subst e; cases h; exact List.mem_cons_self ..
    · exact List.mem_cons_of_mem _ (mkHeap_mem h)

theorem notIn_sound {b : Nat} : ∀ {l : List (Nat × AObj)}, notIn M b l = true → ∀ c o, (c, o) ∈ l → ∀ r, M.ρ.get c = some r → r.b ≠ b
  | [], _, c, o, hc, r, hr => by cases hc
  | (d, od) :: l, h, c, o, hc, r, hr => by
    simp only [notIn, Bool.and_eq_true] at h
    rcases List.mem_cons.1 hc with e | e
    · cases e
      have h1 := h.1
      rw [hr] at h1
      simp only [Bool.not_eq_true'] at h1
      exact Nat.ne_of_beq_eq_false h1
    · exact notIn_sound h.2 c o e r hr

theorem mInj_sound : ∀ {l : List (Nat × AObj)}, mInj M l = true → ∀ c o c' o', (c, o) ∈ l → (c', o') ∈ l → c ≠ c' → ∀ r r', M.ρ.get c = some r → M.ρ.get c' = some r' → r.b ≠ r'.b
  | [], _, c, o, c', o', hc, _, _, r, r', _, _ => by cases hc
  | (d, od) :: l, h, c, o, c', o', hc, hc', hne, r, r', hr, hr' => by
    simp only [mInj, Bool.and_eq_true] at h
    rcases List.mem_cons.1 hc with e | e <;> rcases List.mem_cons.1 hc' with e' | e'
    · cases e; cases e'; exact absurd rfl hne
    · cases e
      have h1 := h.1
      rw [hr] at h1
      exact fun h2 => notIn_sound h1 c' o' e' r' hr' h2.symm
    · cases e'
      have h1 := h.1
      rw [hr'] at h1
      exact notIn_sound h1 c o e r hr
    · exact mInj_sound h.2 c o c' o' e e' hne r r' hr hr'

/-- what may have been written, and what may be from now on -/
structure Frm (φ : Inj) (h : Heap) (w : World) (φ' : Inj) (h' : Heap) (w' : World) : Prop where
  os : w'.os = w.os
  out : w'.output = w.output
  size : w.heap.size ≤ w'.heap.size
  frame : ∀ i, i < w.heap.size → (∀ b o, h.get b = some o → ¬ φ.owns o b i) → w'.heap[i]? = w.heap[i]?
  dom : ∀ b o B, h'.get b = some o → φ'.owns o b B → w.heap.size ≤ B ∨ ∃ b0 o0, h.get b0 = some o0 ∧ φ.owns o0 b0 B

theorem Frm.refl (φ : Inj) (h : Heap) (w : World) : Frm φ h w φ h w := ⟨rfl, rfl, Nat.le_refl _, fun _ _ _ => rfl, fun b o _ h1 h2 => .inr ⟨b, o, h1, h2⟩⟩

theorem Chg.frm {φ φ' : Inj} {h h' : Heap} {nx nx' : Nat} {w w' : World} (c : Chg φ h nx w φ' h' nx' w') : Frm φ h w φ' h' w' := ⟨c.os, c.out, c.size, c.frame, c.dom⟩

theorem Frm.trans {φ φ' φ'' : Inj} {h h' h'' : Heap} {w w' w'' : World} (a : Frm φ h w φ' h' w') (b : Frm φ' h' w' φ'' h'' w'') : Frm φ h w φ'' h'' w'' where
  os := b.os.trans a.os
  out := b.out.trans a.out
  size := Nat.le_trans a.size b.size
  frame := by
    intro i hi hn
    rw [b.frame i (Nat.lt_of_lt_of_le hi a.size) ?_, a.frame i hi hn]
    intro m o hm hB
    rcases a.dom m o i hm hB with hge | ⟨b0, o0, hb0, hB0⟩
    · omega
    · exact hn b0 o0 hb0 hB0
  dom := by
    intro m o B hm hB
    rcases b.dom m o B hm hB with hge | ⟨b0, o0, hb0, hB0⟩
    · exact .inl (Nat.le_trans a.size hge)
    · exact a.dom b0 o0 B hb0 hB0

/-- one state, in other words -/
theorem match_sound {C : Ctx} {nt : Nat} {hl : List (Nat × AObj)} {ts2 : Tmps} {s1 : AS} {w : World} {a : Act} (hm : mState C.P.globals.size nx nt hl ts2 s1 = some M) (hg : C.P.globals.size ≤ nx)
    (ht2 : ∀ t, nt ≤ t → ts2.get t = none) (hst : @St I C φ s1 w a) :
    @St (opq2 I φ M dv) C (phi2 C.P.globals.size nx φ M) { nt := nt, ts := ts2, ds := [], h := mkHeap hl, nx := nx } w a ∧ Frm φ s1.h w (phi2 C.P.globals.size nx φ M) (mkHeap hl) w := by
  unfold mState at hm
  cases h1 : Nat.beq s1.nt nt && s1.ds.isEmpty with
  | false => rw [h1] at hm; cases hm
  | true =>
  rw [h1] at hm
  simp only [Bool.and_eq_true, List.isEmpty_iff] at h1
  simp only [cond_true] at hm
  split at hm
  rotate_left
  · cases hm
  rename_i m1 hm1
  split at hm
  rotate_left
  · cases hm
  rename_i M' hm2
  cases hi : mInj M' hl with
  | false => rw [hi] at hm; cases hm
  | true =>
  rw [hi] at hm; cases hm
  have hnt := Nat.eq_of_beq_eq_true h1.1
  have hm1' : m1.le M := mHeap_le hm2
  have key : ∀ b o, (mkHeap hl).get b = some o → ∃ r o' m1 m2 B d x c, M.ρ.get b = some r ∧ s1.h.get r.b = some o' ∧ mO C.P.globals.size nx o o' r m1 = some m2 ∧ m2.le M ∧ φ r.b = some (B, d, x) ∧ w.heap[B]? = some c ∧ @objRep I.toSg φ d x o' c ∧
      phi2 C.P.globals.size nx φ M b = some (B, d + r.δ, (bif r.ux then x else 0) + r.κ) ∧ b < nx := by
    intro b o hb
    obtain ⟨hge, hlt, r, o', m1, m2, hr, ho', hmo, hle⟩ := mHeap_sound hm2 (MS.le_refl _) b o (mkHeap_mem hb)
    obtain ⟨B, d, x, c, hB, hc, hob⟩ := hst.rep.obj r.b o' ho'
    refine ⟨r, o', m1, m2, B, d, x, c, hr, ho', hmo, hle, hB, hc, hob, ?_, hlt⟩
    unfold phi2
    rw [if_neg (by omega), if_pos hlt, hr]
    simp only [hB]
  have hown : ∀ b o i, (mkHeap hl).get b = some o → (phi2 C.P.globals.size nx φ M).owns o b i → ∃ r o', M.ρ.get b = some r ∧ s1.h.get r.b = some o' ∧ φ.owns o' r.b i := by
    intro b o i hb ho
    obtain ⟨r, o', m1, m2, B, d, x, c, hr, ho', hmo, _, hB, _, _, hphi, _⟩ := key b o hb
    obtain ⟨B', d', x', hB', rfl | ⟨hq, _⟩⟩ := ho
    · rw [hphi] at hB'; cases hB'
      exact ⟨r, o', hr, ho', Inj.owns_self hB⟩
    · rw [(mO_opq hmo).1] at hq; cases hq
  have hds : a.defers = [] := by
    have := hst.ds
    rw [h1.2] at this
    cases hl : a.defers with
    | nil => rfl
    | cons d l => rw [hl] at this; exact this.elim
  refine ⟨@St.mk (opq2 I φ M dv) _ _ _ _ _ (@Rep.mk (opq2 I φ M dv) _ _ _ _ _ ?_ ?_ ?_ ?_ ?_ ?_) ?_ ?_ ?_, ⟨rfl, rfl, Nat.le_refl _, fun _ _ _ => rfl, ?_⟩⟩
  · intro b o hb
    obtain ⟨r, o', m1, m2, B, d, x, c, hr, ho', hmo, hle, hB, hc, hob, hphi, _⟩ := key b o hb
    exact ⟨B, _, _, c, hphi, hc, (mO_sound (dv := dv) hmo hle hob).1⟩
  · intro b b' o o' B d x d' x' hne hb hb' hB hB'
    obtain ⟨r, p, m1, m2, B1, d1, x1, c, hr, hp, hmo, hle, hB1, hc, hob, hphi, _⟩ := key b o hb
    obtain ⟨r', p', m1', m2', B2, d2, x2, c', hr', hp', hmo', hle', hB2, hc', hob', hphi', _⟩ := key b' o' hb'
    rw [hphi] at hB; cases hB
    rw [hphi'] at hB'; cases hB'
    have hrr := mInj_sound hi b o b' o' (mkHeap_mem hb) (mkHeap_mem hb') hne r r' hr hr'
    obtain ⟨n, n', q1, q2, q3⟩ := hst.rep.inj r.b r'.b p p' B d1 x1 d2 x2 hrr hp hp' hB1 hB2
    have e1 := (mO_sound (dv := dv) hmo hle hob).2
    have e2 := (mO_sound (dv := dv) hmo' hle' hob').2
    unfold apart
    have f1 : ∃ k, reach o ((bif r.ux then x1 else 0) + r.κ) = some k := by
      unfold mO at hmo
      split at hmo
      · exact ⟨_, rfl⟩
      · simp only [reach] at q1; cases q1
      · cases hmo
    have f2 : ∃ k, reach o' ((bif r'.ux then x2 else 0) + r'.κ) = some k := by
      unfold mO at hmo'
      split at hmo'
      · exact ⟨_, rfl⟩
      · simp only [reach] at q2; cases q2
      · cases hmo'
    obtain ⟨k, hk⟩ := f1
    obtain ⟨k', hk'⟩ := f2
    obtain ⟨n1, hn1, hle1⟩ := e1 k hk
    obtain ⟨n2, hn2, hle2⟩ := e2 k' hk'
    rw [q1] at hn1; cases hn1
    rw [q2] at hn2; cases hn2
    refine ⟨k, k', hk, hk', fun i hii => q3 i ?_⟩
    omega
  · intro b hb
    unfold phi2
    rw [if_neg (by show ¬ b < _; have : nx ≤ b := hb; omega), if_neg (by have : nx ≤ b := hb; omega)]
  · intro gl hgl
    unfold phi2
    rw [if_pos hgl]
    exact hst.rep.glob gl hgl
  · intro b tag data B d x hb hB
    obtain ⟨r, o', m1, m2, B1, d1, x1, c, hr, ho', hmo, _⟩ := key b _ hb
    cases (mO_opq hmo).1
  · intro b b' o o' i hne hq hb hb' _ _
    obtain ⟨r, o1, m1, m2, B1, d1, x1, c, hr, ho', hmo, _⟩ := key b _ hb
    rw [(mO_opq hmo).1] at hq; cases hq
  · intro t
    rcases Nat.lt_or_ge t nt with ht | ht
    · exact mTs_sound hm1 hm1' t ht _ (hst.ts t)
    · have e : ev ts2 (.tmp t) = undefA := by simp only [ev, ht2 t ht]
      show @conc (opq2 I φ M dv).toSg _ (ev ts2 (.tmp t)) = _
      rw [e]
      have : a.tmps.getD t undef = undef := by
        rw [Array.getD_eq_getD_getElem?, Array.getElem?_eq_none (by rw [hst.nt, hnt]; exact ht)]; rfl
      rw [this]
      rfl
  · show @DsRel (opq2 I φ M dv) _ [] a.defers
    rw [hds]
    trivial
  · rw [hst.nt, hnt]
  · intro b o B hb hB
    obtain ⟨r, o', _, ho', hown'⟩ := hown b o B hb hB
    exact .inr ⟨r.b, o', ho', hown'⟩

theorem opq2_var {i : Nat} {v : AV} {x : Value} (h : M.θ.get i = some v) (hx : @conc I.toSg φ v = some x) : (opq2 I φ M dv).var i = x := by
  show (match M.θ.get i with | some v => (match @conc I.toSg φ v with | some x => x | none => dv i) | none => dv i) = x
  rw [h]
  simp only [hx]

theorem opq2_old {i : Nat} (h : M.θ.get i = none) : (opq2 I φ M dv).var i = dv i := by
  show (match M.θ.get i with | some v => (match @conc I.toSg φ v with | some x => x | none => dv i) | none => dv i) = dv i
  rw [h]

end
end Go.Ax

/- The abstract executor: pieces of code are right. -/
namespace Go.Ax
variable [Opq]

section
variable {C : Ctx} {env : Env} {φ : Inj} {w : World} {a : Act}

theorem execNd_sound (hC : C.Ok) (hE : EnvOk C env) {n fuel : Nat} {Q : Exit → Act → World → Prop} : ∀ (k : Nat) (c : Code) {s s' : AS} {φ : Inj} {w : World} {a : Act} {x : AExit},
    execNd C env fuel k c s = some (x, s') → St C φ s w a →
    (∀ φ' a' w', Post C φ s w s' φ' a' w' → match x with | .normal => (suff k c).wpIn (FW none) n C.P Q a' w' | x => Q (xr x) a' w') → c.wpIn (FW none) n C.P Q a w
  | 0, c, s, s', φ, w, a, x, h, hs, hQ => by
    simp only [execNd] at h; cases h
    exact hQ φ a w (Post.refl hs)
  | k + 1, c, s, s', φ, w, a, x, h, hs, hQ => by
    cases c with
    | seq c1 c2 =>
      simp only [execNd] at h
      refine wpIn_seq ?_
      cases h1 : exec C env false fuel (comp C.P c1) s with
      | none => rw [h1] at h; cases h
      | some r =>
        obtain ⟨x1, s1⟩ := r
        rw [h1] at h
        cases x1 with
        | normal =>
          simp only at h
          refine exec_sound (ro := none) hC hE (fun _ => rfl) c1 h1 hs fun φ1 a1 w1 p1 => ?_
          exact execNd_sound hC hE k c2 h p1.st fun φ2 a2 w2 p2 => hQ φ2 a2 w2 (p1.trans p2)
        | exit id =>
          cases h
          exact exec_sound (ro := none) hC hE (fun _ => rfl) c1 h1 hs fun φ1 a1 w1 p1 => hQ φ1 a1 w1 p1
        | ret =>
          cases h
          exact exec_sound (ro := none) hC hE (fun _ => rfl) c1 h1 hs fun φ1 a1 w1 p1 => hQ φ1 a1 w1 p1
    | _ => simp [execNd] at h

/-- one operation of a region -/
theorem ops_step (hC : C.Ok) (hE : EnvOk C env) {n : Nat} {ops : Array Oper} {Q : Exit → Act → World → Prop} {i : Nat} {rest : List Nat} {o : Oper} {ao : AOp} {s s1 : AS}
    (ho : ops[i]? = some o) (hg : o.guard = none) (hao : compOp C.P o = ao) (hd : dstOk s.nt o.dst = true)
    (hstep : step1 C env false { dst := o.dst, op := ao, guard := none, anc := 0 } s.nx s = some s1) (hs : St C φ s w a)
    (hK : ∀ φ' a' w', Post C φ s w s1 φ' a' w' → wpOpsIn (FW none) n C.P ops Q rest a' w') : wpOpsIn (FW none) n C.P ops Q (i :: rest) a w := by
  subst hao
  simp only [wpOpsIn, ho]
  have hw : Region.wanted o (yielded ops a.tmps) = true := by unfold Region.wanted; rw [hg]
  rw [hw]
  simp only [if_true]
  refine step_sound (ao := { dst := o.dst, op := compOp C.P o, guard := none, anc := 0 }) hC hE (fun _ => rfl) rfl rfl hs (hs.rep.fresh s.nx (Nat.le_refl _)) hd hstep ?_
  intro φ1 a1 w1 hs1 _ hchg _ _ hnt _
  exact hK φ1 a1 w1 ⟨hs1, hchg (Nat.le_refl _), hnt⟩

/-- the rest of a region, and what is behind it -/
theorem runTail_sound (hC : C.Ok) (hE : EnvOk C env) {n fuel k id : Nat} {ops : Array Oper} {rest : Code} {Q : Exit → Act → World → Prop} {s s' : AS} {x : AExit}
    (h : runTail C env fuel k (.seq (.region id ops false) rest) s = some (x, s')) (hs : St C φ s w a) (hQ : ∀ φ' a' w', Post C φ s w s' φ' a' w' → Q (xr x) a' w') :
    wpOpsIn (FW none) n C.P ops (Exit.then (rest.wpIn (FW none) n C.P Q) Q) (List.range' k (ops.size - k)) a w := by
  simp only [runTail] at h
  split at h
  · rename_i s1 h1
    have hlen : (ops.toList.drop k).length = ops.size - k := by simp
    rw [← hlen]
    refine runOps_sound (n := n) hC hE (ro := none) (fun _ => rfl) (ops.toList.drop k) k [] rfl s s1 φ w a h1 hs fun φ1 a1 w1 p1 => ?_
    exact exec_sound (ro := none) hC hE (fun _ => rfl) rest h p1.st fun φ2 a2 w2 p2 => hQ φ2 a2 w2 (p1.trans p2)
  · cases h

/-- a function's body, and what it tells -/
theorem body_calls (hC : C.Ok) {f : Nat} {fn : Func} {c : Code} (hf : C.P.funcs[f]? = some fn) (hb : fn.body = some c) {args : Array Value} {R : Ending → World → Prop}
    (hwp : c.wpIn (FW none) 0 C.P (fun e a w => (match e with | .normal => True | .ret => True | _ => False) ∧ a.defers = [] ∧ ∃ v, (results fn a.tmps).run C.P w = .ok v w ∧ R (.returned v) w)
      { tmps := args ++ Array.replicate (fn.ntmps - args.size) undef, defers := [] } w) : Calls C.P f args w R := by
  refine (callsIn_wide (n := 0)).1 (callsIn_of_wp_marks hf hb trivial ?_)
  refine wpIn_mono hwp fun e a1 w1 h => ?_
  obtain ⟨he, hd, v, hr, hR⟩ := h
  have hl : LeavesInM Fence.wide 0 C.P fn a1.tmps R a1.defers .returning w1 := by
    rw [hd]
    exact ⟨v, hr, hR⟩
  cases e with
  | normal => exact hl
  | ret => exact hl
  | _ => exact he.elim

end
end Go.Ax

/- The abstract executor: what is asked of a program, looked at. -/
namespace Go.Ax
variable [Opq]

def enterOk (b : Nat) : Nat → List Func → Bool
  | _, [] => true
  | i, fn :: l => (bif b.testBit i then !(fn.name == "runtime.NumGoroutine") && fn.body.isSome else true) && enterOk b (i + 1) l

theorem enterOk_get {b : Nat} : ∀ {l : List Func} {i j : Nat} {fn : Func}, enterOk b i l = true → l[j]? = some fn → b.testBit (i + j) = true → (fn.name == "runtime.NumGoroutine") = false ∧ fn.body.isSome = true
  | [], i, j, fn, _, hj, _ => by simp at hj
  | g :: l, i, j, fn, h, hj, hb => by
    simp only [enterOk, Bool.and_eq_true] at h
    cases j with
    | zero =>
      simp only [List.getElem?_cons_zero, Option.some.injEq] at hj
      subst hj
      have h1 := h.1
      rw [Nat.add_zero] at hb
      rw [hb] at h1
      simp only [cond_true, Bool.and_eq_true, Bool.not_eq_true'] at h1
      exact h1
    | succ j =>
      simp only [List.getElem?_cons_succ] at hj
      exact enterOk_get h.2 hj (by rw [← hb]; congr 1; omega)

theorem ok_of {P : Program} {b : Nat} {fs : List (AV × AV)} (h1 : enterOk b 0 P.funcs.toList = true) (h2 : Nat.blt b (2 ^ P.funcs.size) = true) (h3 : P.follows .mixedOrders = true)
    (hf : ∀ p ∈ fs, ∀ φ v, conc φ p.1 = some v → conc φ p.2 = some v) : Ctx.Ok { P := P, bodies := b, ext := fun _ => none, facts := fs } where
  enter := by
    intro f hb args w
    have hlt : b < 2 ^ P.funcs.size := Nat.le_of_ble_eq_true h2
    have hf : f < P.funcs.size := by
      rcases Nat.lt_or_ge f P.funcs.size with h | h
      · exact h
      · rw [Nat.testBit_lt_two_pow (Nat.lt_of_lt_of_le hlt (Nat.pow_le_pow_right (by omega) h))] at hb
        cases hb
    have hget : P.funcs[f]? = some P.funcs[f] := Array.getElem?_eq_getElem hf
    obtain ⟨k1, k2⟩ := enterOk_get (j := f) (fn := P.funcs[f]) h1 (by rw [Array.getElem?_toList]; exact hget) (by simpa using hb)
    have k3 : P.funcs[f].body ≠ none := by
      intro hbo; rw [hbo] at k2; cases k2
    have k4 : P.funcs[f].name ≠ "runtime.NumGoroutine" := by simpa using k1
    simp [callFunc, hget, k3, k4]
  ext := by
    intro f g h
    cases h
  mixed := h3
  facts := hf


/-! ### what values that are not given are -/
section
variable {φ : Inj} {k : IntKind} {x y : AV} {a b : Int}

theorem conc_var {k : Knd} {i : Nat} {v : Value} (h : Sg.var i = v) (hk : HasKnd k v) : conc φ (.sym k (.var i) []) = some v := by
  simp only [conc, concL]
  exact congrArg some (Sg.den_eq h hk)

theorem binV_int {op : BinOp} : binV op (.int k a) (.int k b) = match binOp op 0 (.int k a) (.int k b) with | .pure v => v | _ => undef := by
  cases op <;> rfl

theorem conc_add (hx : conc φ x = some (.int k a)) (hy : conc φ y = some (.int k b)) : conc φ (.sym (.int k) (.bin .add) [x, y]) = some (.int k (k.wrap (a + b))) :=
  den2 hx hy (by rw [binV_int]; simp only [binOp, ne_eq, not_true_eq_false, if_false, Op.intArith]; rfl) ⟨_, rfl, wrap_wrap _ _⟩
theorem conc_sub (hx : conc φ x = some (.int k a)) (hy : conc φ y = some (.int k b)) : conc φ (.sym (.int k) (.bin .sub) [x, y]) = some (.int k (k.wrap (a - b))) :=
  den2 hx hy (by rw [binV_int]; simp only [binOp, ne_eq, not_true_eq_false, if_false, Op.intArith]; rfl) ⟨_, rfl, wrap_wrap _ _⟩
theorem conc_mul (hx : conc φ x = some (.int k a)) (hy : conc φ y = some (.int k b)) : conc φ (.sym (.int k) (.bin .mul) [x, y]) = some (.int k (k.wrap (a * b))) :=
  den2 hx hy (by rw [binV_int]; simp only [binOp, ne_eq, not_true_eq_false, if_false, Op.intArith]; rfl) ⟨_, rfl, wrap_wrap _ _⟩
theorem conc_rem (hx : conc φ x = some (.int k a)) (hy : conc φ y = some (.int k b)) (ha : k.wrap a = a) (hb : b ≠ 0) : conc φ (.sym (.int k) (.bin .rem) [x, y]) = some (.int k (a.tmod b)) :=
  den2 hx hy (by rw [binV_int]; simp only [binOp, ne_eq, not_true_eq_false, if_false, Op.intDiv, if_neg hb]; rfl) ⟨_, rfl, tmod_range ha⟩
theorem conc_lss (hx : conc φ x = some (.int k a)) (hy : conc φ y = some (.int k b)) : conc φ (.sym .bool (.bin .lss) [x, y]) = some (.bool (decide (a < b))) :=
  den2 hx hy (by rw [binV_int]; simp only [binOp, ne_eq, not_true_eq_false, if_false, Op.intCmp]; rfl) ⟨_, rfl⟩
theorem conc_leq (hx : conc φ x = some (.int k a)) (hy : conc φ y = some (.int k b)) : conc φ (.sym .bool (.bin .leq) [x, y]) = some (.bool (decide (a ≤ b))) :=
  den2 hx hy (by rw [binV_int]; simp only [binOp, ne_eq, not_true_eq_false, if_false, Op.intCmp]; rfl) ⟨_, rfl⟩
theorem conc_gtr (hx : conc φ x = some (.int k a)) (hy : conc φ y = some (.int k b)) : conc φ (.sym .bool (.bin .gtr) [x, y]) = some (.bool (decide (a > b))) :=
  den2 hx hy (by rw [binV_int]; simp only [binOp, ne_eq, not_true_eq_false, if_false, Op.intCmp]; rfl) ⟨_, rfl⟩
theorem conc_geq (hx : conc φ x = some (.int k a)) (hy : conc φ y = some (.int k b)) : conc φ (.sym .bool (.bin .geq) [x, y]) = some (.bool (decide (a ≥ b))) :=
  den2 hx hy (by rw [binV_int]; simp only [binOp, ne_eq, not_true_eq_false, if_false, Op.intCmp]; rfl) ⟨_, rfl⟩
theorem conc_eql (hx : conc φ x = some (.int k a)) (hy : conc φ y = some (.int k b)) : conc φ (.sym .bool (.bin .eql) [x, y]) = some (.bool (a == b)) :=
  den2 hx hy (by rw [binV_int]; simp only [binOp, ne_eq, not_true_eq_false, if_false, Op.intCmp]; rfl) ⟨_, rfl⟩
theorem conc_neq (hx : conc φ x = some (.int k a)) (hy : conc φ y = some (.int k b)) : conc φ (.sym .bool (.bin .neq) [x, y]) = some (.bool (a != b)) :=
  den2 hx hy (by rw [binV_int]; simp only [binOp, ne_eq, not_true_eq_false, if_false, Op.intCmp]; rfl) ⟨_, rfl⟩
theorem conc_conv {k' : IntKind} (hx : conc φ x = some (.int k a)) : conc φ (.sym (.int k') .conv [x]) = some (.int k' (k'.wrap a)) := by
  simp only [conc, concL, hx]
  exact congrArg some (Sg.den_eq rfl ⟨_, rfl, wrap_wrap _ _⟩)

/-- a fact, of what both sides are -/
theorem fact_mk {x y : AV} {u : Value} (hx : ∀ φ, conc φ x = some u) (hy : ∀ φ, conc φ y = some u) (φ : Inj) (v : Value) (h : conc φ x = some v) : conc φ y = some v := by
  rw [hx φ] at h; cases h; exact hy φ

end

/-! ### one operation by hand -/
section
variable {C : Ctx} {a : Act} {w : World}

theorem op_value {n : Nat} {ops : Array Oper} {Q : Exit → Act → World → Prop} {i : Nat} {rest : List Nat} {o : Oper} {v : Value} (ho : ops[i]? = some o) (hg : o.guard = none) (hd : ∀ c, o.op ≠ .defer c)
    (hrun : (execOp a.eval o).run C.P w = .ok (.value v) w) (hK : wpOpsIn (FW none) n C.P ops Q rest (a.put o.dst v) w) : wpOpsIn (FW none) n C.P ops Q (i :: rest) a w := by
  simp only [wpOpsIn, ho]
  have hw : Region.wanted o (yielded ops a.tmps) = true := by unfold Region.wanted; rw [hg]
  rw [hw]
  simp only [if_true]
  refine ⟨fun f _ => FW_fn none f, ?_⟩
  show Oper.uponIn (FW none) n C.P o a _ Q ((o.semAt none a.eval).run C.P w)
  rw [semAt_of _ (.inr hd), hrun]
  exact hK

theorem run_load {P : Program} {o : Oper} {t : TypeId} {x : Operand} (ho : o.op = .load t x) {n : Nat} (hg : aggA P t = some true) (hn : sizeA P t = some n) {B off : Nat} (hx : a.eval x = .pointer (some ⟨B, off, none⟩))
    {cs : Array Value} {el : TypeId} {fr : Nat × Nat} (hB : w.heap[B]? = some (.cells cs el fr)) {l : List Value} (hl : l.length = n) (hcs : ∀ i v, l[i]? = some v → cs[off + i]? = some v) :
    (execOp a.eval o).run P w = .ok (.value (.agg l.toArray)) w := by
  have := r_loadVar (P := P) (w := w) (v' := .agg l.toArray) hg hn hB (fun _ => ⟨l, rfl, hl, hcs⟩) (fun e => by cases e)
  simp [execOp, ho, Instr.loadAt, Instr.sureAddr, hx, this]

theorem run_indexAddr {P : Program} {o : Oper} {t e : TypeId} {x i : Operand} (ho : o.op = .indexAddr t x i) {n : Nat} (hd : P.underlying t = some (.slice e)) (hn : sizeA P e = some n) {B off len cap : Nat} {k : IntKind} {j : Int}
    (hx : a.eval x = .slice (some ⟨B, off, none⟩) len cap) (hi : a.eval i = .int k j) (hlt : 0 ≤ j ∧ j < len) :
    (execOp a.eval o).run P w = .ok (.value (.pointer (some ⟨B, off + j.toNat * n, none⟩))) w := by
  simp only [execOp, ho, hx, hi, Instr.indexAt, asIntOf, Sem.run_bind, r_underlying hd, Result.andThen_ok, Sem.run_pure]
  rw [if_pos hlt]
  simp only [Sem.run_bind, r_sizeOf hn, Result.andThen_ok, Sem.run_pure, addr_add]

end

section
variable {C : Ctx} {φ : Inj} {a : Act} {w : World}

/-- what a temporary holds -/
theorem St.at {s : AS} (hs : St C φ s w a) (t : Nat) {v : AV} {x : Value} (hv : ev s.ts (.tmp t) = v) (hx : conc φ v = some x) : a.eval (.tmp t) = x := by
  have h1 := hs.ts t
  rw [hv, hx] at h1
  exact (Option.some.inj h1).symm

/-- a temporary is written -/
theorem St.put {s : AS} (hs : St C φ s w a) {d : Nat} {v : AV} {v' : Value} (hv : conc φ v = some v') (hd : dstOk s.nt (some d) = true) : St C φ { s with ts := s.ts.put d (some v) } w (a.put (some d) v') :=
  ⟨hs.rep, hs.ts.putD (dst := some d) (by rw [hs.nt]; exact hd) hv, by rw [put_defers]; exact hs.ds, by rw [put_size]; exact hs.nt⟩

/-- a temporary's value, said in other words -/
theorem St.say {s : AS} (hs : St C φ s w a) {d : Nat} {v : AV} (hv : conc φ v = some (a.tmps.getD d undef)) : St C φ { s with ts := s.ts.put d (some v) } w a := by
  refine ⟨hs.rep, fun t => ?_, hs.ds, hs.nt⟩
  rw [ev_put]
  split
  · rename_i e; subst e; exact hv
  · exact hs.ts t

end

/-- the least that is: no block, the program's own variables' names -/
def phi0 (g : Nat) : Inj := fun b => if b < g then some (b, 0, 0) else none

theorem rep0 {P : Program} (w : World) : Rep P (phi0 P.globals.size) .leaf P.globals.size w where
  obj := fun b o hb => by simp at hb
  inj := fun b b' o o' B d x d' x' _ hb => by simp at hb
  fresh := fun b hb => by unfold phi0; rw [if_neg (by omega)]
  glob := fun g hg => by unfold phi0; rw [if_pos hg]
  opq := fun b tag data B d x hb => by simp at hb
  sep := fun b b' o o' i _ _ hb => by simp at hb

/-- values from outside alone -/
@[reducible] def opqOf (f : Nat → Value) : Opq := { var := f, app := fun _ _ => undef, inv := fun _ _ _ _ _ => False, loc := fun _ _ _ _ _ _ h _ => h }

omit [Opq] in
theorem tsAny_none : ∀ (n t : Nat), n ≤ t → (tsAny n).get t = none
  | 0, t, _ => by simp [tsAny]
  | n + 1, t, h => by
    simp only [tsAny]
    rw [T.get_put_ne _ _ (by omega)]
    exact tsAny_none n t (by omega)

omit [Opq] in
theorem putAll_ne : ∀ (l : List (Nat × AV)) (ts : Tmps) (t : Nat), (∀ p ∈ l, p.1 ≠ t) → (putAll l ts).get t = ts.get t
  | [], ts, t, _ => rfl
  | (k, v) :: l, ts, t, h => by
    simp only [putAll]
    rw [putAll_ne l _ t fun p hp => h p (List.mem_cons_of_mem _ hp)]
    rw [T.get_put_ne]
    exact fun e => h _ (List.mem_cons_self ..) e.symm

def keysLt (n : Nat) : List (Nat × AV) → Bool
  | [] => true
  | (k, _) :: l => Nat.blt k n && keysLt n l

omit [Opq] in
theorem keysLt_sound {n : Nat} : ∀ {l : List (Nat × AV)}, keysLt n l = true → ∀ p ∈ l, p.1 < n
  | [], _, p, hp => by cases hp
  | (k, v) :: l, h, p, hp => by
    simp only [keysLt, Bool.and_eq_true] at h
    rcases List.mem_cons.1 hp with e | e
    · subst e; exact Nat.le_of_ble_eq_true h.1
    · exact keysLt_sound h.2 p e

omit [Opq] in
theorem tsOf_none {n : Nat} {l : List (Nat × AV)} (h : keysLt n l = true) (t : Nat) (ht : n ≤ t) : (tsOf n l).get t = none := by
  unfold tsOf
  rw [putAll_ne _ _ _ fun p hp e => by have := keysLt_sound h p hp; omega]
  exact tsAny_none n t ht

section
variable [Opq] {C : Ctx} {φ : Inj} {s : AS} {w : World} {a : Act}

/-- a name for a slice's place, without a block -/
theorem St.name (hs : St C φ s w a) (t : Nat × Nat × Nat) : St C (φ.set s.nx t) { s with nx := s.nx + 1 } w a ∧ Frm φ s.h w (φ.set s.nx t) s.h w := by
  have hn := hs.rep.fresh s.nx (Nat.le_refl _)
  have hle := Inj.le_set t hn
  refine ⟨⟨(hs.rep.more (Nat.le_succ s.nx)).set hn (Nat.lt_succ_self _) t, hs.ts.mono hle, hs.ds.mono hle, hs.nt⟩, rfl, rfl, Nat.le_refl _, fun _ _ _ => rfl, fun b o B hb hB => .inr ⟨b, o, hb, ?_⟩⟩
  by_cases e : b = s.nx
  · subst e; rw [hs.rep.get_nm hn] at hb; cases hb
  · rwa [Inj.owns_set_ne e] at hB

end
end Go.Ax

/- The abstract executor: other values for what is not spoken of. -/
namespace Go.Ax

mutual
/-- no value from outside in it that p holds of -/
def nvV (p : Nat → Bool) : AV → Bool
  | .sym _ f args => (match f with | .var i => !p i | _ => true) && nvL p args
  | .func _ a b => nvL p a && nvL p b
  | .iface _ v => nvV p v
  | .agg l => nvL p l
  | .tuple l => nvL p l
  | .sstr l => nvL p l
  | _ => true
def nvL (p : Nat → Bool) : List AV → Bool
  | [] => true
  | v :: l => nvV p v && nvL p l
end

def nvE (p : Nat → Bool) : List (AV × AV × Nat) → Bool
  | [] => true
  | (k, v, _) :: l => nvV p k && (nvV p v && nvE p l)

def nvO (p : Nat → Bool) : AObj → Bool
  | .cells vs _ _ => nvL p vs
  | .map es _ => nvE p es
  | _ => false

def nvH (p : Nat → Bool) : List (Nat × AObj) → Bool
  | [] => true
  | (_, o) :: l => nvO p o && nvH p l

/-- the same but for what p holds of -/
@[reducible] noncomputable def reI (I : Opq) (p : Nat → Bool) (f : Nat → Value) : Opq := { I with var := fun i => bif p i then f i else I.var i }

section
variable {I : Opq} {p : Nat → Bool} {f : Nat → Value} {φ : Inj}

mutual
theorem conc_agree : ∀ {v : AV}, nvV p v = true → @conc (reI I p f).toSg φ v = @conc I.toSg φ v
  | .sym k g args, h => by
    simp only [nvV, Bool.and_eq_true] at h
    have e := concL_agree (l := args) h.2
    simp only [conc, e]
    cases hl : @concL I.toSg φ args with
    | none => rfl
    | some l =>
      simp only
      congr 1
      cases g with
      | var i =>
        have h1 := h.1
        simp only [Bool.not_eq_true'] at h1
        have e2 : @Sg.raw (reI I p f).toSg k (.var i) l = @Sg.raw I.toSg k (.var i) l := by
          show (bif p i then f i else I.var i) = I.var i
          rw [h1]; rfl
        unfold Sg.den
        rw [e2]
      | app i => exact den_same (J := (reI I p f).toSg) (K := I.toSg) rfl rfl l
      | bin op => exact den_same (J := (reI I p f).toSg) (K := I.toSg) rfl rfl l
      | un op => exact den_same (J := (reI I p f).toSg) (K := I.toSg) rfl rfl l
      | conv => exact den_same (J := (reI I p f).toSg) (K := I.toSg) rfl rfl l
  | .func g a b, h => by
    simp only [nvV, Bool.and_eq_true] at h
    simp only [conc, concL_agree (l := a) h.1, concL_agree (l := b) h.2]
  | .iface t v, h => by
    simp only [nvV] at h
    simp only [conc, conc_agree (v := v) h]
  | .agg l, h => by
    simp only [nvV] at h
    simp only [conc, concL_agree (l := l) h]
  | .tuple l, h => by
    simp only [nvV] at h
    simp only [conc, concL_agree (l := l) h]
  | .sstr l, h => by
    simp only [nvV] at h
    simp only [conc, concL_agree (l := l) h]
  | .bool _, _ => rfl
  | .int _ _, _ => rfl
  | .str _, _ => rfl
  | .nilptr, _ => rfl
  | .ptr _ _, _ => rfl
  | .nilslice, _ => rfl
  | .slice _ _ _ _ _, _ => rfl
  | .nilmap, _ => rfl
  | .map _, _ => rfl
  | .nilFunc, _ => rfl
  | .nilIface, _ => rfl
theorem concL_agree : ∀ {l : List AV}, nvL p l = true → @concL (reI I p f).toSg φ l = @concL I.toSg φ l
  | [], _ => rfl
  | v :: l, h => by
    simp only [nvL, Bool.and_eq_true] at h
    simp only [concL, conc_agree (v := v) h.1, concL_agree (l := l) h.2]
end

theorem concE_agree : ∀ {l : List (AV × AV × Nat)}, nvE p l = true → @concE (reI I p f).toSg φ l = @concE I.toSg φ l
  | [], _ => rfl
  | (k, v, n) :: l, h => by
    simp only [nvE, Bool.and_eq_true] at h
    simp only [concE, conc_agree h.1, conc_agree h.2.1, concE_agree h.2.2]

theorem objRep_agree {d x : Nat} {o : AObj} {c : Obj} (hn : nvO p o = true) (h : @objRep I.toSg φ d x o c) : @objRep (reI I p f).toSg φ d x o c := by
  cases o <;> simp only [nvO, Bool.false_eq_true] at hn <;> cases c <;> simp only [objRep] at h ⊢
  · rw [concL_agree hn]; exact h
  · rw [concE_agree hn]; exact h

theorem nvH_mem : ∀ {l : List (Nat × AObj)}, nvH p l = true → ∀ b o, (b, o) ∈ l → nvO p o = true
  | [], _, b, o, hb => by cases hb
  | (c, oc) :: l, h, b, o, hb => by
    simp only [nvH, Bool.and_eq_true] at h
    rcases List.mem_cons.1 hb with e | e
    · cases e; exact h.1
    · exact nvH_mem h.2 b o e

theorem nvO_opq {o : AObj} (h : nvO p o = true) : isOpq o = false := by
  cases o <;> first | rfl | cases h

theorem rep_agree {P : Program} {hl : List (Nat × AObj)} {nx : Nat} {w : World} (hn : nvH p hl = true) (r : @Rep I P φ (mkHeap hl) nx w) : @Rep (reI I p f) P φ (mkHeap hl) nx w := by
  refine @Rep.mk (reI I p f) _ _ _ _ _ ?_ r.inj r.fresh r.glob ?_ r.sep
  · intro b o hb
    obtain ⟨B, d, x, c, h1, h2, h3⟩ := r.obj b o hb
    exact ⟨B, d, x, c, h1, h2, objRep_agree (nvH_mem hn b o (mkHeap_mem hb)) h3⟩
  · intro b tag data B d x hb _
    have := nvO_opq (nvH_mem hn b _ (mkHeap_mem hb))
    cases this

end

/-- temporaries that hold anything, but for those that are listed -/
theorem tsAny_get : ∀ (n t : Nat), t < n → (tsAny n).get t = some (.sym .any (.var t) [])
  | 0, t, h => by omega
  | n + 1, t, h => by
    simp only [tsAny]
    rw [T.get_put]
    split
    · rename_i e; subst e; rfl
    · exact tsAny_get n t (by omega)

section
variable [Opq] {φ : Inj}

theorem putAll_rel {tmps : Array Value} : ∀ (l : List (Nat × AV)) (ts : Tmps), (∀ t, conc φ (ev ts (.tmp t)) = some (tmps.getD t undef)) → (∀ q ∈ l, conc φ q.2 = some (tmps.getD q.1 undef)) → TsRel φ (putAll l ts) tmps
  | [], ts, h, _ => h
  | (k, v) :: l, ts, h, hl => by
    simp only [putAll]
    refine putAll_rel l _ (fun t => ?_) fun q hq => hl q (List.mem_cons_of_mem _ hq)
    rw [ev_put]
    split
    · rename_i e; subst e; exact hl (t, v) (List.mem_cons_self ..)
    · exact h t

theorem tsOf_rel {tmps : Array Value} {n : Nat} {l : List (Nat × AV)} (hs : tmps.size = n) (hv : ∀ j, j < n → Sg.var j = tmps.getD j undef) (hl : ∀ q ∈ l, conc φ q.2 = some (tmps.getD q.1 undef)) : TsRel φ (tsOf n l) tmps := by
  unfold tsOf
  refine putAll_rel l _ (fun t => ?_) hl
  rcases Nat.lt_or_ge t n with h | h
  · have : ev (tsAny n) (.tmp t) = .sym .any (.var t) [] := by simp only [ev, tsAny_get n t h]
    rw [this]
    exact conc_var (hv t h) trivial
  · have : ev (tsAny n) (.tmp t) = undefA := by simp only [ev, tsAny_none n t h]
    rw [this]
    have e : tmps.getD t undef = undef := by rw [Array.getD_eq_getD_getElem?, Array.getElem?_eq_none (by omega)]; rfl
    rw [e]; rfl

end

theorem putAll_nv {p : Nat → Bool} : ∀ (l : List (Nat × AV)) (ts : Tmps), nvL p (l.map (·.2)) = true → (∀ t, nvV p (ev ts (.tmp t)) = true) → ∀ t, nvV p (ev (putAll l ts) (.tmp t)) = true
  | [], ts, _, h, t => h t
  | (k, v) :: l, ts, hl, h, t => by
    simp only [List.map_cons, nvL, Bool.and_eq_true] at hl
    simp only [putAll]
    refine putAll_nv l _ hl.2 (fun t => ?_) t
    simp only [ev, T.get_put]
    by_cases e : t = k
    · rw [if_pos e]; exact hl.1
    · rw [if_neg e]; exact h t

theorem tsOf_nv {p : Nat → Bool} {n : Nat} {l : List (Nat × AV)} (hp : ∀ j, j < n → p j = false) (hl : nvL p (l.map (·.2)) = true) : ∀ t, nvV p (ev (tsOf n l) (.tmp t)) = true := by
  unfold tsOf
  refine putAll_nv l _ hl fun t => ?_
  rcases Nat.lt_or_ge t n with h | h
  · have : ev (tsAny n) (.tmp t) = .sym .any (.var t) [] := by simp only [ev, tsAny_get n t h]
    rw [this]
    simp [nvV, nvL, hp t h]
  · have : ev (tsAny n) (.tmp t) = undefA := by simp only [ev, tsAny_none n t h]
    rw [this]
    rfl

/-- a state, with other values for what is not spoken of in it -/
theorem st_agree {I : Opq} {p : Nat → Bool} {f : Nat → Value} {C : Ctx} {φ : Inj} {hl : List (Nat × AObj)} {nt nx : Nat} {ts : Tmps} {w : World} {a : Act} (hn : nvH p hl = true) (ht : ∀ t, nvV p (ev ts (.tmp t)) = true)
    (h : @St I C φ { nt := nt, ts := ts, ds := [], h := mkHeap hl, nx := nx } w a) : @St (reI I p f) C φ { nt := nt, ts := ts, ds := [], h := mkHeap hl, nx := nx } w a := by
  refine @St.mk (reI I p f) _ _ _ _ _ (rep_agree hn h.rep) (fun t => ?_) ?_ h.nt
  · have := h.ts t
    rw [← this]
    exact conc_agree (ht t)
  · have h1 : @DsRel I φ [] a.defers := h.ds
    show @DsRel (reI I p f) φ [] a.defers
    cases hd : a.defers with
    | nil => trivial
    | cons d l => rw [hd] at h1; exact h1.elim

end Go.Ax

