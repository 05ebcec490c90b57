/- A part of the proof of TopWaits: see the last text of the claim. -/
import Derived.Test.YtflfeegpkckneaaGreatDoorAx9
set_option linter.unusedSectionVars false
set_option linter.unusedSimpArgs false
set_option linter.unusedVariables false
/- The abstract executor: regions that draw their order are sound. -/
namespace Go.Ax
variable [Opq]

section
variable {C : Ctx} {env : Env} {rd gl : Bool} {base m : Nat} {O : Nat → AOper} {D : Nat → Did} {S : Nat → AS × Pend}
variable {φ0 : Inj} {w0 : World} {M q i : Nat} {φ : Inj} {a : Act} {w : World}

theorem step1_cg {o : AOper} {nm : Nat} {s s' : AS} {ts' : Tmps} (hop : op1 C o.op nm ts' s.h = op1 C o.op nm s.ts s.h) (h : step1 C env rd o nm s = some s') :
    ∃ v, s'.ts = putD s.ts o.dst v ∧ step1 C env rd o nm { s with ts := ts' } = some { s' with ts := putD ts' o.dst v } := by
  unfold step1 at h ⊢
  simp only [hop]
  split at h
  · cases h; exact ⟨_, rfl, rfl⟩
  · cases h; exact ⟨_, rfl, rfl⟩
  · cases h; exact ⟨_, rfl, rfl⟩
  · cases h; exact ⟨_, rfl, rfl⟩
  · split at h
    · rename_i henv
      cases h
      refine ⟨_, rfl, ?_⟩
      simp only [henv]
    · cases h
  · cases rd with
    | true => cases h
    | false => cases h; exact ⟨_, rfl, rfl⟩
  · cases h

/-- the canonical heap of a loud operation -/
theorem Tr.canon_loud (T : Tr C env rd gl base m O D S) (hs : Set m O D M q) (hr : Rdy m O M i) (hl : isL (D i) = true) {b : Nat} {o : AObj} (h : (absorb (O i).anc (S i).2 (S i).1.h).get b = some o) :
    (Hx base m O D S M q).get b = some o ∧ ∀ j ob, j < m → (O i).anc.testBit j = false → fwd (D j) = some ob → b ≠ base + j := by
  have hlq := (T.loud_at hs hr hl).1
  have hq : q ≤ i := by have := (lastq_spec D i).1; omega
  have hh : (S i).1.h = (S q).1.h := by rw [← hlq]; exact (T.same i (Nat.le_of_lt hr.lt)).1
  rw [hh] at h
  refine ⟨T.canon hs (pd := (S i).2) (fun e he => ?_) hr.anc h, ?_⟩
  · obtain ⟨h1, h2, h3, h4⟩ := (T.pend i (Nat.le_of_lt hr.lt) e).1 he
    refine ⟨by have := hr.lt; omega, h2, h3, ?_⟩
    cases hq' : q with
    | zero => simp [Ax.ancAt]
    | succ l => exact h4 l (by omega) (hs.last.is l hq').1
  · rintro j ob hj ha hf rfl
    rcases absorb_inv h with ⟨j', h1, h2⟩ | h1
    · have := ((T.pend i (Nat.le_of_lt hr.lt) _).1 h1).2.1
      simp only at this
      have : j' = j := by omega
      subst this
      rw [ha] at h2; cases h2
    · rw [T.hAt hs.qOk hj hf] at h1
      · cases h1
      · cases hb : (Ax.ancAt O q).testBit j with
        | false => rfl
        | true => rw [T.anc_mono hs hr hl hb] at ha; cases ha

/-- a loud operation -/
theorem DInv.loud (T : Tr C env rd gl base m O D S) (I : DInv C base m O D S φ0 w0 M q φ a w) (hr : Rdy m O M i) (hl : isL (D i) = true) {φ' : Inj} {a' : Act} {w' : World} {v : AV}
    (hv : (S (i + 1)).1.ts = putD (S i).1.ts (O i).dst v)
    (hst : St C φ' { (S (i + 1)).1 with ts := putD (bt O S M m) (O i).dst v } w' a') (hext : ∀ b, b ≠ base + i → b < (S i).1.nx → φ' b = φ b)
    (hw : w'.os = w.os ∧ w'.output = w.output ∧ w.heap.size ≤ w'.heap.size ∧ (∀ k, k < w.heap.size → (∀ b o, (absorb (O i).anc (S i).2 (S i).1.h).get b = some o → ¬ φ.owns o b k) → w'.heap[k]? = w.heap[k]?) ∧
        (∀ b o B, (S (i + 1)).1.h.get b = some o → φ'.owns o b B → w.heap.size ≤ B ∨ ∃ b0 o0, (absorb (O i).anc (S i).2 (S i).1.h).get b0 = some o0 ∧ φ.owns o0 b0 B))
    (hnt : (S (i + 1)).1.nt = (S i).1.nt) (hnx : (S i).1.nx ≤ (S (i + 1)).1.nx) : DInv C base m O D S φ0 w0 (M ||| 2 ^ i) (i + 1) φ' a' w' := by
  obtain ⟨hos, hout, hsize, hframe, hdomf⟩ := hw
  have hn := I.out i hr.lt hr.not
  have hlq := (T.loud_at I.set hr hl).1
  have hnxq : (S i).1.nx = (S q).1.nx := by rw [← hlq]; exact (T.same i (Nat.le_of_lt hr.lt)).2.1
  have hle : φ.le φ' := by
    intro b x hb
    rw [hext b]
    · exact hb
    · rintro rfl; rw [hn] at hb; cases hb
    · rcases Nat.lt_or_ge b (S i).1.nx with h | h
      · exact h
      · rw [hnxq] at h; rw [I.rep.fresh b h] at hb; cases hb
  have hset := T.set_loud I.set hr hl
  have hfi : fwd (D i) = none := by cases hD : D i <;> rw [hD] at hl <;> first | rfl | cases hl
  have hanc : ∀ j, (Ax.ancAt O (i + 1)).testBit j = false → (Ax.ancAt O q).testBit j = false := by
    intro j h
    cases hb : (Ax.ancAt O q).testBit j with
    | false => rfl
    | true =>
      have := T.anc_mono I.set hr hl hb
      simp only [Ax.ancAt] at h
      rw [h] at this; cases this
  have hcan := fun b o h => T.canon_loud I.set hr hl (b := b) (o := o) h
  -- the blocks that wait
  have hwait : ∀ j ob, j < m → (M ||| 2 ^ i).testBit j = true → (Ax.ancAt O (i + 1)).testBit j = false → fwd (D j) = some ob →
      M.testBit j = true ∧ (Hx base m O D S M q).get (base + j) = some ob ∧ φ' (base + j) = φ (base + j) := by
    intro j ob hj hM ha hf
    have hji : j ≠ i := by rintro rfl; rw [hfi] at hf; cases hf
    rw [setBit_ne (Ne.symm hji)] at hM
    refine ⟨hM, Tr.Hx_new hj hM (hanc j ha) hf, hext _ (by omega) ?_⟩
    rw [hnxq]; have := I.nx; omega
  have hblk : ∀ b o B, (Hx base m O D S M q).get b = some o → φ.owns o b B → B < w.heap.size := fun b o B hb hB => I.rep.owns_lt hb hB
  have hexcl : ∀ j ob, j < m → (M ||| 2 ^ i).testBit j = true → (Ax.ancAt O (i + 1)).testBit j = false → fwd (D j) = some ob → ∀ b o B, b ≠ base + j → (Hx base m O D S (M ||| 2 ^ i) (i + 1)).get b = some o → φ'.owns o b B → φ'.blk (base + j) ≠ some B := by
    intro j ob hj hM ha hf b o B hb hg hB
    obtain ⟨h1, h2, h3⟩ := hwait j ob hj hM ha hf
    rw [blk_ne h3]
    rcases Tr.Hx_inv hg with ⟨j2, rfl, k1, k2, k3, k4⟩ | k1
    · obtain ⟨l1, l2, l3⟩ := hwait j2 o k1 k2 k3 k4
      rw [Inj.owns_congr l3] at hB
      exact I.excl j ob hj h1 (hanc j ha) hf _ o B hb l2 hB
    · intro e
      rcases hdomf b o B k1 hB with h | ⟨b0, o0, h, hB0⟩
      · have := hblk _ _ _ h2 ((Inj.owns_blk (T.noq j ob hj hf)).2 e); omega
      · obtain ⟨l1, l2⟩ := hcan b0 o0 h
        exact I.excl j ob hj h1 (hanc j ha) hf b0 o0 B (l2 j ob hj ha hf) l1 hB0 e
  refine ⟨hset, ?_, by rw [hnxq] at hnx; have := I.nx; omega, hexcl, ?_, hst.ds, ?_, ?_, ?_⟩
  · refine ⟨?_, ?_, hst.rep.fresh, hst.rep.glob, ?_, ?_⟩
    · intro b o hb
      rcases Tr.Hx_inv hb with ⟨j, rfl, k1, k2, k3, k4⟩ | k1
      · obtain ⟨l1, l2, l3⟩ := hwait j o k1 k2 k3 k4
        obtain ⟨B, d, x, c, h1, h2, h3⟩ := I.rep.obj _ o l2
        refine ⟨B, d, x, c, hle _ _ h1, ?_, objRep_mono hle h3⟩
        rw [hframe B (I.rep.lt l2 h1)]
        · exact h2
        · intro b0 o0 h0 hB0
          obtain ⟨p1, p2⟩ := hcan b0 o0 h0
          exact I.excl j o k1 l1 (hanc j k3) k4 b0 o0 B (p2 j o k1 k3 k4) p1 hB0 (Inj.blk_of h1)
      · exact hst.rep.obj b o k1
    · intro b b' o o' B d x d' x' hne hb hb' h1 h2
      rcases Tr.Hx_inv hb with ⟨j, rfl, k1, k2, k3, k4⟩ | k1
      · exact absurd (Inj.blk_of h1) (hexcl j o k1 k2 k3 k4 b' o' B (Ne.symm hne) hb' (Inj.owns_self h2))
      · rcases Tr.Hx_inv hb' with ⟨j, rfl, l1, l2, l3, l4⟩ | l1
        · exact absurd (Inj.blk_of h2) (hexcl j o' l1 l2 l3 l4 b o B hne hb (Inj.owns_self h1))
        · exact hst.rep.inj b b' o o' B d x d' x' hne k1 l1 h1 h2
    · intro b tag data B d x hb hB
      rcases Tr.Hx_inv hb with ⟨j, rfl, k1, k2, k3, k4⟩ | k1
      · have := T.noq j _ k1 k4; cases this
      · exact hst.rep.opq b tag data B d x k1 hB
    · intro b b' o o' k hne hq hb hb' h1 h2
      rcases Tr.Hx_inv hb with ⟨j, rfl, k1, k2, k3, k4⟩ | k1
      · have := T.noq j _ k1 k4; rw [this] at hq; cases hq
      · rcases Tr.Hx_inv hb' with ⟨j, rfl, l1, l2, l3, l4⟩ | l1
        · exact hexcl j o' l1 l2 l3 l4 b o k hne hb h1 ((Inj.owns_blk (T.noq j o' l1 l4)).1 h2)
        · exact hst.rep.sep b b' o o' k hne hq k1 l1 h1 h2
  · refine hst.ts.cg fun t => ?_
    rw [T.bt_set I.set hr m (Nat.le_refl _), ev_putD]
    by_cases h : (O i).dst = some t
    · rw [if_pos h, if_pos ⟨hr.lt, h⟩, Vk_eq hv h]
    · rw [if_neg h, if_neg (fun e => h e.2)]
  · refine ⟨?_, ?_, hos.trans I.chg.os, hout.trans I.chg.out, Nat.le_trans I.chg.size hsize, ?_, ?_⟩
    · intro b hb
      rw [hext b (by omega) (by rw [hnxq]; have := I.nx; omega)]; exact I.chg.ext b hb
    · rw [hnxq] at hnx; exact Nat.le_trans I.chg.nx hnx
    · intro k hk hno
      rw [hframe k (Nat.lt_of_lt_of_le hk I.chg.size)]
      · exact I.chg.frame k hk hno
      · intro b0 o0 h0 hB0
        rcases I.chg.dom b0 o0 k (hcan b0 o0 h0).1 hB0 with h | ⟨b1, o1, h1, h2⟩
        · omega
        · exact hno b1 o1 h1 h2
    · intro b o B hb hB
      rcases Tr.Hx_inv hb with ⟨j, rfl, k1, k2, k3, k4⟩ | k1
      · obtain ⟨l1, l2, l3⟩ := hwait j o k1 k2 k3 k4
        rw [Inj.owns_congr l3] at hB
        exact I.chg.dom _ o B l2 hB
      · rcases hdomf b o B k1 hB with h | ⟨b0, o0, h, hB0⟩
        · exact .inl (Nat.le_trans I.chg.size h)
        · exact I.chg.dom b0 o0 B (hcan b0 o0 h).1 hB0
  · intro j hj hM
    have hji : j ≠ i := by
      rintro rfl
      rw [setBit] at hM; simp at hM
    rw [setBit_ne (Ne.symm hji)] at hM
    rw [hext (base + j) (by omega) (by rw [hnxq]; have := I.nx; omega)]
    exact I.out j hj hM
  · rw [hst.nt]
    show (S (i + 1)).1.nt = (S 0).1.nt
    exact T.nt (i + 1) hr.lt

theorem val_wp {ro : Option Nat} {n : Nat} {o : Oper} {nx : Next} {v' : Value} {w' : World} {K : Act → World → Prop} {Q : Exit → Act → World → Prop} (hnd : ∀ c, o.op ≠ .defer c)
    (hrun : (execOp a.eval o).run C.P w = .ok nx w') (hval : IsVal nx v') (hk : K (a.put o.dst v') w') : o.wpIn (FW ro) n C.P a w K Q := by
  refine ⟨fun f _ => FW_fn ro f, ?_⟩
  show Oper.uponIn (FW ro) n C.P o a K Q ((o.semAt ro a.eval).run C.P w)
  rw [semAt_of _ (.inr hnd), hrun]
  rcases hval.next with rfl | ⟨rfl, rfl⟩ <;> exact hk

/-- one operation that is ready -/
theorem DInv.step (hC : C.Ok) (hE : EnvOk C env) {ro : Option Nat} (hrd : rd = false → ro = none) {n : Nat} (T : Tr C env rd gl base m O D S) (I : DInv C base m O D S φ0 w0 M q φ a w) (hr : Rdy m O M i)
    {ops : Array Oper} {o : Oper} (ho : ops[i]? = some o) (hdst : (O i).dst = o.dst) (hop : (O i).op = compOp C.P o) (hguard : (O i).guard = guardOf ops o) {K : Act → World → Prop} {Q : Exit → Act → World → Prop}
    (hK : ∀ q' φ' a' w', DInv C base m O D S φ0 w0 (M ||| 2 ^ i) q' φ' a' w' → K a' w') : wpOpIn (FW ro) n C.P ops Q i K a w := by
  have hat := T.at hr.lt
  have hn := I.out i hr.lt hr.not
  have hlt : base + i < (S q).1.nx := by have := I.nx; have := hr.lt; omega
  have hdok : dstOk a.tmps.size (O i).dst = true := by rw [I.nt, ← T.nt i (Nat.le_of_lt hr.lt)]; exact hat.dst
  have hcg : ∀ h, op1 C (O i).op (base + i) (bt O S M m) h = op1 C (O i).op (base + i) (S i).1.ts h := fun h => op1_cg fun t ht => T.bt_uses I.set hr (by simp [usesA, ht])
  have hwant : Region.wanted o (yielded ops a.tmps) = wantedA (S i).1.ts (O i).guard := by
    have hgd : guardOk (bt O S M m) (O i).guard = true := by
      have h0 := hat.gd
      unfold guardOk at h0 ⊢
      cases hg : (O i).guard with
      | none => rfl
      | some p =>
        obtain ⟨j, want⟩ := p
        cases j with
        | none => rfl
        | some g =>
          have h1 := T.bt_uses I.set hr (show g ∈ usesA (O i) by simp [usesA, usesG, hg])
          simp only [ev] at h1
          rw [hg] at h0
          simp only at h0 ⊢
          cases hx : (bt O S M m).get g with
          | none => rfl
          | some u =>
            cases hy : (S i).1.ts.get g with
            | none =>
              rw [hx, hy] at h1
              simp only at h1
              subst h1; rfl
            | some v =>
              rw [hx, hy] at h1
              simp only at h1
              subst h1
              rw [hy] at h0
              exact h0
    rw [wanted_eq I.ts _ _ (by rw [← hguard]; exact hgd), hguard.symm]
    cases hg : (O i).guard with
    | none => rfl
    | some p =>
      obtain ⟨j, want⟩ := p
      cases j with
      | none => rfl
      | some g =>
        have h1 := T.bt_uses I.set hr (show g ∈ usesA (O i) by simp [usesA, usesG, hg])
        simp only [ev] at h1
        simp only [wantedA]
        cases hx : (bt O S M m).get g with
        | none =>
          cases hy : (S i).1.ts.get g with
          | none => rfl
          | some v =>
            rw [hx, hy] at h1
            simp only at h1
            subst h1; rfl
        | some u =>
          cases hy : (S i).1.ts.get g with
          | none =>
            rw [hx, hy] at h1
            simp only at h1
            subst h1; rfl
          | some v =>
            rw [hx, hy] at h1
            simp only at h1
            subst h1; rfl
  unfold wpOpIn
  rw [ho]
  simp only
  rw [hwant]
  have hi : ∀ h, (∀ b o, h.get b = some o → (Hx base m O D S M q).get b = some o) → In C φ h (S q).1.nx w (bt O S M m) a := fun h hsub => ⟨I.rep.less hsub, I.ts⟩
  have hnd : ∀ r h, op1 C (O i).op (base + i) (S i).1.ts h = some r → (∀ fn c a, r ≠ .d fn c a) → ∀ c, o.op ≠ .defer c := by
    intro r h h1 h2
    rw [hop] at h1
    exact not_defer h1 h2
  have hread : ∀ gh v, (∃ r, op1 C (O i).op (base + i) (S i).1.ts (absorb (O i).anc (S i).2 (S i).1.h) = some r ∧ (match gh, r with | false, .q v' => v' = v | true, .g v' _ _ => v' = v | _, _ => False)) → (q = lastq D i ∨ sameAt C (recOf base O D S i) gh v (Ax.ancAt O q) (S q).1.h = true) → ∃ h r, (∀ b o, h.get b = some o → (Hx base m O D S M q).get b = some o) ∧ op1 C (O i).op (base + i) (S i).1.ts h = some r ∧
      (match gh, r with | false, .q v' => v' = v | true, .g v' _ _ => v' = v | _, _ => False) := by
    intro gh v hcan hsame
    rcases hsame with hq | hsame
    · obtain ⟨r, h1, h2⟩ := hcan
      refine ⟨absorb (O i).anc (S i).2 (S i).1.h, r, ?_, h1, h2⟩
      intro b o hb
      have hh : (S i).1.h = (S q).1.h := by rw [hq]; exact (T.same i (Nat.le_of_lt hr.lt)).1
      rw [hh] at hb
      refine T.canon I.set (pd := (S i).2) (fun e he => ?_) hr.anc hb
      obtain ⟨k1, k2, k3, k4⟩ := (T.pend i (Nat.le_of_lt hr.lt) e).1 he
      refine ⟨by have := hr.lt; omega, k2, k3, ?_⟩
      have hqi : q ≤ i := by rw [hq]; exact (lastq_spec D i).1
      cases hq' : q with
      | zero => simp [Ax.ancAt]
      | succ l => exact k4 l (by omega) (I.set.last.is l hq').1
    refine ⟨absorb (O i).anc (keepP (Ax.ancAt O q) (S i).2) (S q).1.h, ?_⟩
    unfold sameAt at hsame
    have e : op1 C (recOf base O D S i).o.op (recOf base O D S i).nm (recOf base O D S i).ts (absorb (recOf base O D S i).o.anc (keepP (Ax.ancAt O q) (recOf base O D S i).pd) (S q).1.h) = op1 C (O i).op (base + i) (S i).1.ts (absorb (O i).anc (keepP (Ax.ancAt O q) (S i).2) (S q).1.h) := rfl
    rw [e] at hsame
    split at hsame
    · rename_i v' hv'
      refine ⟨_, fun b o => T.canon I.set (fun e he => ?_) hr.anc, hv', ?_⟩
      · rw [mem_keepP] at he
        obtain ⟨h1, h2, h3, h4⟩ := (T.pend i (Nat.le_of_lt hr.lt) e).1 he.1
        exact ⟨by have := hr.lt; omega, h2, h3, he.2⟩
      · simp only [Bool.and_eq_true, Bool.not_eq_true'] at hsame
        rw [hsame.1]; exact beq_eq hsame.2
    · rename_i v' ob ed hv'
      refine ⟨_, fun b o => T.canon I.set (fun e he => ?_) hr.anc, hv', ?_⟩
      · rw [mem_keepP] at he
        obtain ⟨h1, h2, h3, h4⟩ := (T.pend i (Nat.le_of_lt hr.lt) e).1 he.1
        exact ⟨by have := hr.lt; omega, h2, h3, he.2⟩
      · simp only [Bool.and_eq_true] at hsame
        rw [hsame.1]; exact beq_eq hsame.2
    · cases hsame
  have hwh := hat.what
  cases hD : D i with
  | s =>
    rw [hD] at hwh
    obtain ⟨hw, hts⟩ := hwh
    rw [hw]
    simp only [Bool.false_eq_true, if_false]
    refine ⟨fun f _ => FW_fn ro f, ?_⟩
    have hI := I.quiet T hr (by rw [hD]; rfl) (by rw [hD]; rfl) (fun _ _ => rfl) hts (conc_undef φ)
    rw [hdst] at hI
    exact hK q φ _ w hI
  | q v =>
    rw [hD] at hwh
    obtain ⟨hw, hlo, hop1, hts⟩ := hwh
    rw [hw]
    simp only [if_true]
    have hx : ∃ h, (∀ b o, h.get b = some o → (Hx base m O D S M q).get b = some o) ∧ op1 C (O i).op (base + i) (S i).1.ts h = some (.q v) := by
      cases hrh : readsHeap (O i).op with
      | false => exact ⟨Hx base m O D S M q, fun _ _ h => h, op1_quiet hrh hlo hop1⟩
      | true =>
        have := T.reads_at I.set hr m 0 0 (by omega) (fun l e => by omega) (by omega) (fun l h => by omega) (fun l e => by omega) (by rw [← List.range_eq_range']; exact T.reads i v hr.lt hD hrh)
        obtain ⟨h, r, h1, h2, h3⟩ := hread false v ⟨_, hop1, rfl⟩ this
        cases r <;> simp only at h3
        subst h3
        exact ⟨h, h1, h2⟩
    obtain ⟨h, hsub, hopx⟩ := hx
    have hopx' := hopx
    rw [← hcg, hop] at hopx'
    obtain ⟨nxv, v', hrun, hval, hv⟩ := op1_sound hC (hi h hsub) hn hlt hopx'
    refine val_wp (hnd _ _ hopx (by simp)) hrun hval ?_
    have hI := I.quiet T hr (by rw [hD]; rfl) (by rw [hD]; rfl) (fun _ _ => rfl) hts hv
    rw [hdst] at hI
    exact hK q φ _ w hI
  | g v =>
    rw [hD] at hwh
    obtain ⟨hw, ⟨ob0, ed0, hop0⟩, hts⟩ := hwh
    rw [hw]
    simp only [if_true]
    have := T.reads_at I.set hr m 0 0 (by omega) (fun l e => by omega) (by omega) (fun l h => by omega) (fun l e => by omega) (by rw [← List.range_eq_range']; exact T.ghost i v hr.lt hD)
    obtain ⟨h, r, hsub, hopx, h3⟩ := hread true v ⟨_, hop0, rfl⟩ this
    cases r <;> simp only at h3
    subst h3
    have hopx' := hopx
    rw [← hcg, hop] at hopx'
    obtain ⟨_, nxv, v', x, hrun, hval, hv⟩ := op1_sound hC (hi h hsub) hn hlt hopx'
    refine val_wp (hnd _ _ hopx (by simp)) hrun hval ?_
    have hI := I.quiet T hr (by rw [hD]; rfl) (by rw [hD]; rfl) (φ' := fun b => if b = base + i then some x else φ b) (fun b hb => by simp [hb]) hts hv
    rw [hdst] at hI
    exact hK q _ _ w hI
  | f v ob =>
    rw [hD] at hwh
    obtain ⟨hw, hpf, hop1, hts⟩ := hwh
    rw [hw]
    simp only [if_true]
    have hopx : op1 C (O i).op (base + i) (S i).1.ts .leaf = some (.f v ob none) := by rw [← hop1]; exact op1_pure hpf
    have hopx' := hopx
    rw [← hcg, hop] at hopx'
    obtain ⟨nxv, v', w', φ', hrun, hval, hv, hrep, heff⟩ := op1_sound hC (hi .leaf (fun b o h => by simp at h)) hn hlt hopx'
    refine val_wp (hnd _ _ hopx (by simp)) hrun hval ?_
    have hI := I.fresh T hr hD hrep heff hts hv
    rw [hdst] at hI
    exact hK q φ' _ w' hI
  | l h nx ds =>
    rw [hD] at hwh
    obtain ⟨hw, hst1⟩ := hwh
    have hl : isL (D i) = true := by rw [hD]; rfl
    rw [hw]
    simp only [if_true]
    obtain ⟨v, hv, hst2⟩ := step1_cg (s := { (S i).1 with h := absorb (O i).anc (S i).2 (S i).1.h }) (ts' := bt O S M m) (hcg _) hst1
    have hlq := (T.loud_at I.set hr hl).1
    obtain ⟨_, hnxq, hdsq⟩ := T.same i (Nat.le_of_lt hr.lt)
    rw [hlq] at hnxq hdsq
    have hs0 : St C φ { (S i).1 with ts := bt O S M m, h := absorb (O i).anc (S i).2 (S i).1.h } w a := by
      refine ⟨?_, I.ts, ?_, ?_⟩
      · show Rep C.P φ (absorb (O i).anc (S i).2 (S i).1.h) (S i).1.nx w
        rw [hnxq]
        exact I.rep.less fun b o hb => (T.canon_loud I.set hr hl hb).1
      · show DsRel φ (S i).1.ds a.defers
        rw [hdsq]; exact I.ds
      · show a.tmps.size = (S i).1.nt
        rw [T.nt i (Nat.le_of_lt hr.lt)]; exact I.nt
    refine step_sound (ao := O i) hC hE hrd hop hdst hs0 hn hat.dst hst2 ?_
    intro φ' a' w' hs1 hext _ _ hwf hnt hnx
    exact hK (i + 1) φ' a' w' (I.loud T hr hl hv hs1 hext hwf hnt hnx)

end
end Go.Ax

/- The abstract executor: regions that draw their order: the whole of it. -/
namespace Go.Ax
variable [Opq]

theorem nth_get : ∀ {l : List Nat} {i x : Nat}, l[i]? = some x → nth l i = x
  | [], i, x, h => by simp at h
  | a :: l, 0, x, h => by simpa [nth] using h
  | a :: l, i + 1, x, h => by simpa [nth] using nth_get (l := l) (by simpa using h)

/-- the listed ones as a number -/
structure Lst (ops : Array Oper) (listed : Array Bool) (M : Nat) : Prop where
  size : listed.size = ops.size
  bit : ∀ j, j < ops.size → listed.getD j true = M.testBit j

section
variable {C : Ctx} {env : Env} {rd gl : Bool} {base : Nat} {O : Nat → AOper} {D : Nat → Did} {S : Nat → AS × Pend} {ops : Array Oper}

/-- how the compiled operations lie to the region's own -/
structure Cmp (C : Ctx) (ops : Array Oper) (O : Nat → AOper) : Prop where
  text : ∀ k o, ops[k]? = some o → (O k).dst = o.dst ∧ (O k).op = compOp C.P o ∧ (O k).guard = guardOf ops o
  anc : ∀ k o, ops[k]? = some o → ∀ j, (O k).anc.testBit j = true ↔ ∃ e ∈ o.after.toList, Region.binds .any e = true ∧ (j = e.on ∨ (e.on < k ∧ (O e.on).anc.testBit j = true))

theorem Cmp.of {l : List AOper} (h : compOps C.P ops ops.toList [] = l) (hO : ∀ k ao, l[k]? = some ao → O k = ao) : Cmp C ops O := by
  obtain ⟨_, hsp⟩ := compOps_spec (P := C.P) (ops := ops) ops.toList []
  refine ⟨?_, ?_⟩
  · intro k o hk
    obtain ⟨ao, acc', h1, h2, h3, h4, _⟩ := hsp k o (by simpa using hk)
    rw [h] at h1
    rw [hO k ao h1]
    exact ⟨h2, h3, h4⟩
  · intro k o hk j
    obtain ⟨ao, acc', h1, h2, h3, h4, h5, h6, h7, h8⟩ := hsp k o (by simpa using hk)
    have h1' := h1
    rw [h] at h1'
    rw [hO k ao h1', h5, ancOf_bit]
    have hacc : ∀ i, (nth acc' i).testBit j = true ↔ i < k ∧ (O i).anc.testBit j = true := by
      intro i
      rcases Nat.lt_or_ge i k with hi | hi
      · have hlen : i < ops.toList.length := by
          have := (Array.getElem?_eq_some_iff.1 hk).1
          simp only [Array.length_toList]; omega
        obtain ⟨bo, _, hb, _⟩ := hsp i _ (List.getElem?_eq_getElem hlen)
        have h9 := h8 i bo hi hb
        rw [h] at hb
        simp only [List.length_nil, Nat.zero_add] at h9
        rw [h9, hO i bo hb]
        simp [hi]
      · rw [nth_ge acc' i (by rw [h6]; simp; exact hi)]
        simp
        intro h; omega
    constructor
    · rintro ⟨e, h1, h2, h3 | h3⟩
      · exact ⟨e, h1, h2, .inl h3⟩
      · exact ⟨e, h1, h2, .inr ((hacc _).1 h3)⟩
    · rintro ⟨e, h1, h2, h3 | h3⟩
      · exact ⟨e, h1, h2, .inl h3⟩
      · exact ⟨e, h1, h2, .inr ((hacc _).2 h3)⟩

theorem Cmp.trans (hc : Cmp C ops O) (hlt : ∀ k, k < ops.size → (O k).anc < 2 ^ k) : ∀ n k j i, k ≤ n → k < ops.size → (O k).anc.testBit j = true → (O j).anc.testBit i = true → (O k).anc.testBit i = true
  | n, k, j, i, hn, hk, h1, h2 => by
    have ho : ops[k]? = some ops[k] := Array.getElem?_eq_getElem hk
    obtain ⟨e, he, hb, h3⟩ := (hc.anc k _ ho j).1 h1
    rw [hc.anc k _ ho i]
    have hjk : j < k := by
      rcases Nat.lt_or_ge j k with h | h
      · exact h
      · rw [Nat.testBit_lt_two_pow (Nat.lt_of_lt_of_le (hlt k hk) (Nat.pow_le_pow_right (by omega) h))] at h1; cases h1
    rcases h3 with rfl | ⟨h3, h4⟩
    · exact ⟨e, he, hb, .inr ⟨hjk, h2⟩⟩
    · cases n with
      | zero => omega
      | succ n => exact ⟨e, he, hb, .inr ⟨h3, Cmp.trans hc hlt n e.on j i (by omega) (by omega) h4 h2⟩⟩

theorem Lst.rdy (hc : Cmp C ops O) (hlt : ∀ k, k < ops.size → (O k).anc < 2 ^ k) {listed : Array Bool} {M q i : Nat} (hL : Lst ops listed M) (hs : Set ops.size O D M q) (hr : i ∈ Region.ready .any ops listed) : Rdy ops.size O M i := by
  rw [mem_ready] at hr
  obtain ⟨h1, o, ho, h2⟩ := hr
  have hi := (Array.getElem?_eq_some_iff.1 ho).1
  refine ⟨hi, ?_, ?_⟩
  · rw [← hL.bit i hi]; simpa using h1
  · intro j hj
    have hji : ∀ j', (O i).anc.testBit j' = true → j' < i := by
      intro j' h
      rcases Nat.lt_or_ge j' i with h' | h'
      · exact h'
      · rw [Nat.testBit_lt_two_pow (Nat.lt_of_lt_of_le (hlt i hi) (Nat.pow_le_pow_right (by omega) h'))] at h; cases h
    obtain ⟨e, he, hb, h3⟩ := (hc.anc i o ho j).1 hj
    have hon : (O i).anc.testBit e.on = true := (hc.anc i o ho e.on).2 ⟨e, he, hb, .inl rfl⟩
    have h4 := h2 e (by simpa using he) hb
    have hlte : e.on < ops.size := by have := hji _ hon; omega
    have h5 : M.testBit e.on = true := by
      rw [← hL.bit e.on hlte]
      have hsz : e.on < listed.size := by rw [hL.size]; exact hlte
      simp only [Array.getD_eq_getD_getElem?, Array.getElem?_eq_getElem hsz, Option.getD_some] at h4 ⊢
      exact h4
    rcases h3 with rfl | ⟨h3, h6⟩
    · exact h5
    · exact hs.dc e.on j h5 h6

theorem Lst.all (hc : Cmp C ops O) (hlt : ∀ k, k < ops.size → (O k).anc < 2 ^ k) {listed : Array Bool} {M : Nat} (hL : Lst ops listed M) (hr : Region.ready .any ops listed = []) : ∀ n k, k ≤ n → k < ops.size → M.testBit k = true
  | n, k, hn, hk => by
    cases hb : M.testBit k with
    | true => rfl
    | false =>
      have ho : ops[k]? = some ops[k] := Array.getElem?_eq_getElem hk
      have : k ∈ Region.ready .any ops listed := by
        rw [mem_ready]
        refine ⟨?_, ops[k], ho, ?_⟩
        · rw [hL.bit k hk, hb]
        · intro e he hbi
          have hon : (O k).anc.testBit e.on = true := (hc.anc k _ ho e.on).2 ⟨e, by simpa using he, hbi, .inl rfl⟩
          have hek : e.on < k := by
            rcases Nat.lt_or_ge e.on k with h' | h'
            · exact h'
            · rw [Nat.testBit_lt_two_pow (Nat.lt_of_lt_of_le (hlt k hk) (Nat.pow_le_pow_right (by omega) h'))] at hon; cases hon
          cases n with
          | zero => omega
          | succ n =>
            have h1 := Lst.all hc hlt hL hr n e.on (by omega) (by omega)
            rw [← hL.bit e.on (by omega)] at h1
            have hsz : e.on < listed.size := by rw [hL.size]; omega
            simp only [Array.getD_eq_getD_getElem?, Array.getElem?_eq_getElem hsz, Option.getD_some] at h1 ⊢
            exact h1
      rw [hr] at this; cases this

theorem Lst.add {listed : Array Bool} {M i : Nat} (hL : Lst ops listed M) (hi : i < ops.size) : Lst ops (listed.setIfInBounds i true) (M ||| 2 ^ i) where
  size := by rw [Array.size_setIfInBounds]; exact hL.size
  bit := by
    intro j hj
    by_cases hji : i = j
    · subst hji
      rw [setBit]
      have : i < listed.size := by rw [hL.size]; exact hi
      simp [Array.getD_eq_getD_getElem?, this]
    · rw [setBit_ne hji, ← hL.bit j hj]
      simp [Array.getD_eq_getD_getElem?, Array.getElem?_setIfInBounds, hji]

/-- how many are not listed -/
def unl (M : Nat) : Nat → Nat
  | 0 => 0
  | k + 1 => unl M k + (bif M.testBit k then 0 else 1)

theorem unl_le (M : Nat) : ∀ k, unl M k ≤ k
  | 0 => Nat.le_refl _
  | k + 1 => by
    have := unl_le M k
    simp only [unl]
    cases M.testBit k <;> simp <;> omega

theorem unl_set {M i : Nat} (hi : M.testBit i = false) : ∀ k, unl (M ||| 2 ^ i) k + (if i < k then 1 else 0) = unl M k
  | 0 => by simp [unl]
  | k + 1 => by
    have ih := unl_set hi k
    simp only [unl]
    by_cases hik : i = k
    · subst hik
      rw [setBit, hi]
      simp at ih ⊢
      exact ih
    · rw [setBit_ne hik]
      by_cases h : i < k
      · rw [if_pos h] at ih; rw [if_pos (by omega)]; omega
      · rw [if_neg h] at ih; rw [if_neg (by omega)]; omega

theorem unl_pos {M i : Nat} (hi : M.testBit i = false) {k : Nat} (h : i < k) : 0 < unl M k := by
  have := unl_set hi k
  rw [if_pos h] at this
  omega

/-- whichever order is drawn -/
theorem any_sound (hC : C.Ok) (hE : EnvOk C env) {ro : Option Nat} (hrd : rd = false → ro = none) {n : Nat} (T : Tr C env rd gl base ops.size O D S) (hc : Cmp C ops O) (hlt : ∀ k, k < ops.size → (O k).anc < 2 ^ k)
    {φ0 : Inj} {w0 : World} {Q : Exit → Act → World → Prop}
    (hQ : ∀ M q φ a w, DInv C base ops.size O D S φ0 w0 M q φ a w → (∀ k, k < ops.size → M.testBit k = true) → Q .normal a w) :
    ∀ (fuel : Nat) (listed : Array Bool) (M q : Nat) (φ : Inj) (a : Act) (w : World), Lst ops listed M → DInv C base ops.size O D S φ0 w0 M q φ a w →
      unl M ops.size ≤ fuel → wpAnyIn (FW ro) n C.P .any ops Q fuel listed a w
  | 0, listed, M, q, φ, a, w, hL, I, hf => by
    have hnil : Region.ready .any ops listed = [] := by
      cases hr : Region.ready .any ops listed with
      | nil => rfl
      | cons i l =>
        have hrd := hL.rdy hc hlt I.set (i := i) (by rw [hr]; simp)
        have := unl_pos hrd.not hrd.lt
        omega
    exact ⟨hnil, hQ M q φ a w I fun k hk => hL.all hc hlt hnil k k (Nat.le_refl _) hk⟩
  | fuel + 1, listed, M, q, φ, a, w, hL, I, hf => by
    refine ⟨fun hnil => hQ M q φ a w I fun k hk => hL.all hc hlt hnil k k (Nat.le_refl _) hk, ?_⟩
    intro i hi
    have hrdy := hL.rdy hc hlt I.set hi
    have hio := hrdy.lt
    have ho : ops[i]? = some ops[i] := Array.getElem?_eq_getElem hio
    obtain ⟨t1, t2, t3⟩ := hc.text i _ ho
    refine I.step hC hE hrd T hrdy ho t1 t2 t3 ?_
    intro q' φ' a' w' I'
    refine any_sound hC hE hrd T hc hlt hQ fuel _ _ q' φ' a' w' (hL.add hrdy.lt) I' ?_
    have := unl_set hrdy.not ops.size
    rw [if_pos hio] at this
    omega

end

/-! ### the trace of a run -/
theorem chkAll {α : Type} {p : α → List α → Bool} {f : List α → Bool} (hf : ∀ a l, f (a :: l) = true → p a l = true ∧ f l = true) : ∀ {l : List α}, f l = true → ∀ i x, l[i]? = some x → p x (l.drop (i + 1)) = true
  | [], _, i, x, h => by simp at h
  | a :: l, h, 0, x, hx => by simp at hx; subst hx; simpa using (hf a l h).1
  | a :: l, h, i + 1, x, hx => by simpa using chkAll hf (hf a l h).2 i x (by simpa using hx)

theorem chkMeet1_spec {y : Rec} : ∀ {l : List Rec}, chkMeet1 y l = true → ∀ x ∈ l, meet x.o y.o = true → x.o.anc.testBit y.i = true
  | [], _, x, h, _ => by cases h
  | a :: l, h, x, hx, hm => by
    simp only [chkMeet1, Bool.and_eq_true] at h
    rcases List.mem_cons.1 hx with rfl | hx
    · have := h.1; rw [hm] at this; exact this
    · exact chkMeet1_spec h.2 x hx hm

theorem chkChain1_spec {y : Rec} : ∀ {l : List Rec}, chkChain1 y l = true → ∀ x ∈ l, isL x.d = true → x.o.anc.testBit y.i = true
  | [], _, x, h, _ => by cases h
  | a :: l, h, x, hx, hm => by
    simp only [chkChain1, Bool.and_eq_true] at h
    rcases List.mem_cons.1 hx with rfl | hx
    · have := h.1; rw [hm] at this; exact this
    · exact chkChain1_spec h.2 x hx hm

theorem chkName1_spec {h : Heap} {anc : Nat} : ∀ {l : List Rec}, chkName1 h anc l = true → ∀ x ∈ l, ∀ ob, fwd x.d = some ob → anc.testBit x.i = true ∨ h.get x.nm = none
  | [], _, x, hx, _, _ => by cases hx
  | a :: l, hl, x, hx, ob, hf => by
    simp only [chkName1, Bool.and_eq_true] at hl
    rcases List.mem_cons.1 hx with rfl | hx
    · obtain ⟨v, hv⟩ := fwd_some.1 hf
      have := hl.1
      rw [hv] at this
      simp only [Bool.or_eq_true] at this
      rcases this with h1 | h1
      · exact .inl h1
      · right
        cases hg : h.get x.nm with
        | none => rfl
        | some o => rw [hg] at h1; cases h1
    · exact chkName1_spec hl.2 x hx ob hf

section
variable {C : Ctx} {env : Env} {rd gl : Bool} {φ : Inj} {w : World} {a : Act} {ops : Array Oper}

theorem dregion_sound1 (hC : C.Ok) (hE : EnvOk C env) {ro : Option Nat} (hrd : rd = false → ro = none) {n id : Nat} {Q : Exit → Act → World → Prop} {s s' : AS}
    (hrun : runD1 C env rd gl (compOps C.P ops ops.toList []) s = some s') (hs : St C φ s w a) (hQ : ∀ φ' a' w', Post C φ s w s' φ' a' w' → Q .normal a' w') :
    (Code.region id ops true).wpIn (FW ro) n C.P Q a w := by
  refine wpIn_region_any hC.mixed ?_
  unfold runD1 at hrun
  split at hrun
  · cases hrun
  rename_i rs sF pdF hdr
  cases hchk : (chkMeet rs && (chkChain rs && (chkNames rs rs && chkReadsAll C s.h rs rs))) with
  | false => rw [hchk] at hrun; cases hrun
  | true =>
  rw [hchk] at hrun
  simp only [cond_true, Option.some.injEq] at hrun
  simp only [Bool.and_eq_true] at hchk
  obtain ⟨hmeet, hchain, hnames, hreads⟩ := hchk
  have hlenC : (compOps C.P ops ops.toList []).length = ops.size := by rw [(compOps_spec _ _).1]; simp
  obtain ⟨S, hS0, hlen, hSF, hrec⟩ := seq_of_drun _ _ _ _ _ _ _ hdr
  rw [hlenC] at hlen
  have hget : ∀ k, k < ops.size → ∃ r, rs[k]? = some r := fun k hk => ⟨rs[k], List.getElem?_eq_getElem _⟩
  let O : Nat → AOper := fun k => (rs[k]?.getD default).o
  let D : Nat → Did := fun k => (rs[k]?.getD default).d
  have hOf : ∀ k r, rs[k]? = some r → r = recOf s.nx O D S k := by
    intro k r hk
    obtain ⟨h1, h2, h3, h4, h5, h6, h7⟩ := hrec k r hk
    have e1 : O k = r.o := by show (rs[k]?.getD default).o = r.o; rw [hk]; rfl
    have e2 : D k = r.d := by show (rs[k]?.getD default).d = r.d; rw [hk]; rfl
    unfold recOf
    rw [e1, e2]
    cases r
    simp only [Rec.mk.injEq]
    simp only at h2 h3 h4 h5 h6
    refine ⟨by omega, h3, trivial, h4, h6, h5, trivial⟩
  have hrs : rs = (List.range ops.size).map (recOf s.nx O D S) := by
    apply List.ext_getElem?
    intro k
    rcases Nat.lt_or_ge k ops.size with hk | hk
    · obtain ⟨r, hr⟩ := hget k hk
      rw [hr, hOf k r hr]
      simp [hk]
    · rw [List.getElem?_eq_none (by omega), List.getElem?_eq_none (by simp; exact hk)]
  have hmem : ∀ k, k < ops.size → rs[k]? = some (recOf s.nx O D S k) := by
    intro k hk
    obtain ⟨r, hr⟩ := hget k hk
    rw [hr, hOf k r hr]
  have hcmp : Cmp C ops O := by
    refine Cmp.of rfl ?_
    intro k ao hk
    have hk' : k < ops.size := by rw [← hlenC]; exact (List.getElem?_eq_some_iff.1 hk).1
    have := (hrec k _ (hmem k hk')).1
    rw [hk] at this
    exact (Option.some.inj this).symm
  have hstep : ∀ k, k < ops.size → dstep C env rd gl k (s.nx + k) (O k) (S k).1 (S k).2 = some (D k, S (k + 1)) := by
    intro k hk
    have := (hrec k _ (hmem k hk)).2.2.2.2.2.2
    rw [Nat.zero_add] at this
    exact this
  have hlt : ∀ k, k < ops.size → (O k).anc < 2 ^ k := fun k hk => (dstep_spec (hstep k hk)).anc
  have hdrop : ∀ i j, i < j → j < ops.size → recOf s.nx O D S j ∈ rs.drop (i + 1) := by
    intro i j hij hj
    have := hmem j hj
    refine List.mem_iff_getElem?.2 ⟨j - (i + 1), ?_⟩
    rw [List.getElem?_drop, show i + 1 + (j - (i + 1)) = j from by omega]
    exact this
  have hall : ∀ j, j < ops.size → recOf s.nx O D S j ∈ rs := fun j hj => List.mem_of_getElem? (hmem j hj)
  have T : Tr C env rd gl s.nx ops.size O D S := by
    refine ⟨by rw [hS0], hstep, ?_, ?_, ?_, ?_, ?_, ?_, ?_⟩
    · intro k j i hk h1 h2
      exact hcmp.trans hlt k k j i (Nat.le_refl _) hk h1 h2
    · intro i j hij hj h1 h2
      have := chkAll (f := chkChain) (p := fun r l => bif isL r.d then chkChain1 r l else true) (fun a l h => by simpa [chkChain] using h) hchain i _ (hmem i (by omega))
      have e : (recOf s.nx O D S i).d = D i := rfl
      rw [e, h1] at this
      exact chkChain1_spec this (recOf s.nx O D S j) (hdrop i j hij hj) h2
    · intro i j hij hj h1
      have := chkAll (f := chkMeet) (p := fun y l => chkMeet1 y l) (fun a l h => by simpa [chkMeet] using h) hmeet i _ (hmem i (by omega))
      exact chkMeet1_spec this (recOf s.nx O D S j) (hdrop i j hij hj) h1
    · intro l j h nx ds ob hl hj h1 h2
      have := chkAll (f := chkNames rs) (p := fun r _ => match r.d with | .l h _ _ => chkName1 h r.o.anc rs | _ => true) (fun a l h => by rw [chkNames, Bool.and_eq_true] at h; exact h) hnames l _ (hmem l hl)
      have e : (recOf s.nx O D S l).d = D l := rfl
      simp only [e, h1] at this
      exact chkName1_spec this (recOf s.nx O D S j) (hall j hj) ob h2
    · intro b hb
      rw [hS0]
      exact hs.rep.get_nm (hs.rep.fresh b hb)
    · intro k v hk h1 h2
      have := chkAll (f := chkReadsAll C s.h rs) (p := fun r _ => match r.d with | .q v => (bif readsHeap r.o.op then chkReads C r false v 0 0 s.h rs else true) | .g v => chkReads C r true v 0 0 s.h rs | _ => true) (fun a l h => by rw [chkReadsAll, Bool.and_eq_true] at h; exact h) hreads k _ (hmem k hk)
      have e : (recOf s.nx O D S k).d = D k := rfl
      have e2 : (recOf s.nx O D S k).o = O k := rfl
      simp only [e, h1, e2, h2, cond_true] at this
      rw [← hrs, hS0]
      exact this
    · intro k v hk h1
      have := chkAll (f := chkReadsAll C s.h rs) (p := fun r _ => match r.d with | .q v => (bif readsHeap r.o.op then chkReads C r false v 0 0 s.h rs else true) | .g v => chkReads C r true v 0 0 s.h rs | _ => true) (fun a l h => by rw [chkReadsAll, Bool.and_eq_true] at h; exact h) hreads k _ (hmem k hk)
      have e : (recOf s.nx O D S k).d = D k := rfl
      simp only [e, h1] at this
      rw [← hrs, hS0]
      exact this
  have hHx : ∀ b o, (Hx s.nx ops.size O D S 0 0).get b = some o → s.h.get b = some o := by
    intro b o hb
    rcases Tr.Hx_inv hb with ⟨j, _, _, h, _⟩ | h
    · simp at h
    · rw [hS0] at h; exact h
  have I0 : DInv C s.nx ops.size O D S φ w 0 0 φ a { w with drawn := w.drawn + 1 } := by
    refine ⟨⟨fun j h => by simp at h, fun j i h => by simp at h, ⟨fun l h => by omega, fun l _ _ h => by simp at h, Nat.zero_le _⟩⟩, ?_, ?_, ?_, ?_, ?_, ?_, ?_, ?_⟩
    · rw [hS0]
      exact ((hs.rep.drawn _).less hHx).more (by simp)
    · rw [hS0]; simp [hlenC]
    · intro j ob _ h; simp at h
    · have : ∀ k, bt O S 0 k = (S 0).1.ts := by
        intro k
        induction k with
        | zero => rfl
        | succ k ih => simp [bt, ih]
      rw [this, hS0]; exact hs.ts
    · rw [hS0]; exact hs.ds
    · rw [hS0]
      refine ⟨fun _ _ => rfl, by simp, rfl, rfl, Nat.le_refl _, fun _ _ _ => rfl, fun b o B h1 h2 => .inr ⟨b, o, hHx b o h1, h2⟩⟩
    · intro j hj _
      exact hs.rep.fresh _ (by omega)
    · rw [hS0]; exact hs.nt
  have hL0 : Lst ops (Array.replicate ops.size false) 0 := ⟨by simp, fun j hj => by simp [Array.getD_eq_getD_getElem?, hj]⟩
  refine any_sound hC hE hrd T hcmp hlt ?_ ops.size _ 0 0 φ a _ hL0 I0 (unl_le _ _)
  intro M q φ' a' w' I hM
  have hq : lastq D ops.size = q := by
    obtain ⟨h1, h2, h3⟩ := lastq_spec D ops.size
    have k1 : q ≤ lastq D ops.size := by
      cases hq' : q with
      | zero => omega
      | succ l =>
        obtain ⟨a1, a2⟩ := I.set.last.is l hq'
        have := h3 l (I.set.lt l a2) a1; omega
    have k2 : lastq D ops.size ≤ q := by
      cases hq' : lastq D ops.size with
      | zero => omega
      | succ l =>
        have hl := h2 l hq'
        have := I.set.last.lt l (by omega) hl (hM l (by omega)); omega
    omega
  obtain ⟨e1, e2, e3⟩ := T.same ops.size (Nat.le_refl _)
  rw [hq] at e1 e2 e3
  have hSm : S ops.size = (sF, pdF) := by rw [← hlen]; exact hSF
  have hsub : ∀ b o, s'.h.get b = some o → (Hx s.nx ops.size O D S M q).get b = some o := by
    intro b o hb
    rw [← hrun] at hb
    have : sF.h = (S q).1.h := by rw [← e1, hSm]
    simp only [this] at hb
    refine T.canon I.set (pd := pdF) (fun e he => ?_) (fun j hj => ?_) hb
    · have hpd : pdF = (S ops.size).2 := by rw [hSm]
      rw [hpd] at he
      obtain ⟨h1, h2, h3, h4⟩ := (T.pend ops.size (Nat.le_refl _) e).1 he
      refine ⟨h1, h2, h3, ?_⟩
      cases hq' : q with
      | zero => simp [ancAt]
      | succ l =>
        obtain ⟨a1, a2⟩ := I.set.last.is l hq'
        exact h4 l (I.set.lt l a2) a1
    · rw [hlenC] at hj
      simp only [Nat.testBit_two_pow_sub_one, decide_eq_true_eq] at hj
      exact hM j hj
  have hnx : s'.nx = (S q).1.nx := by rw [← e2, hSm, ← hrun]
  have hts : ∀ t, ev s'.ts (.tmp t) = ev (bt O S M ops.size) (.tmp t) := by
    intro t
    rw [T.bt_lo ops.size (Nat.le_refl _) (fun j hj _ => hM j hj), hSm, ← hrun]
  refine hQ φ' a' w' ⟨⟨?_, ?_, ?_, ?_⟩, ?_, ?_⟩
  · rw [hnx]; exact I.rep.less hsub
  · exact I.ts.cg hts
  · have : s'.ds = (S q).1.ds := by rw [← e3, hSm, ← hrun]
    rw [this]; exact I.ds
  · rw [I.nt, ← T.nt ops.size (Nat.le_refl _), hSm, ← hrun]
  · have hc := I.chg
    rw [hS0] at hc
    refine { hc with nx := ?_, dom := fun b o B hb hB => hc.dom b o B (hsub b o hb) hB }
    rw [hnx]; exact hc.nx
  · rw [← hrun]
    show sF.nt = s.nt
    have := T.nt ops.size (Nat.le_refl _)
    rw [hSm, hS0] at this
    exact this

theorem dregion_sound (hC : C.Ok) (hE : EnvOk C env) {ro : Option Nat} (hrd : rd = false → ro = none) {n id : Nat} {Q : Exit → Act → World → Prop} {s s' : AS}
    (hrun : runD C env rd (compOps C.P ops ops.toList []) s = some s') (hs : St C φ s w a) (hQ : ∀ φ' a' w', Post C φ s w s' φ' a' w' → Q .normal a' w') :
    (Code.region id ops true).wpIn (FW ro) n C.P Q a w := by
  unfold runD at hrun
  split at hrun
  · rename_i h1
    cases hrun
    exact dregion_sound1 hC hE hrd h1 hs hQ
  · exact dregion_sound1 hC hE hrd hrun hs hQ

end
end Go.Ax

