/- A part of the proof of TopWaits: see the last text of the claim. -/
import Derived.Test.YtflfeegpkckneaaGreatDoorTw2
import Derived.Test.YtflfeegpkckneaaGreatDoorTw3
import Derived.Test.YtflfeegpkckneaaGreatDoorAx13
import Derived.Test.YtflfeegpkckneaaGreatDoorAw5
import Derived.Deep.Slices
import Derived.Lib.SmallJoins
set_option linter.unusedSectionVars false
set_option linter.unusedSimpArgs false
set_option linter.unusedVariables false
/- TopWaits: the loop. -/
namespace Go.Ax.TW
open Go.Proofs

theorem e1 : enterOk bodies 0 Tryz.prog.funcs.toList = true := by kernel_rfl
theorem e2 : Nat.blt bodies (2 ^ Tryz.prog.funcs.size) = true := by kernel_rfl
theorem e3 : Tryz.prog.follows .mixedOrders = true := by kernel_rfl
theorem e4 : Tryz.prog.globals.size = 15 := by kernel_rfl

theorem ctx_ok [Opq] {fs : List (AV × AV)} (hf : ∀ p ∈ fs, ∀ φ v, conc φ p.1 = some v → conc φ p.2 = some v) : (ctx fs).Ok := ok_of e1 e2 e3 hf

/-- each run -/
theorem run_all (stack : Bool) (n : Nat) (full nil : Bool) (h1 : nil = true → n = 0) (h2 : n = 0 → full = false) (h3 : n ≤ 5) (h5 : n = 5 → full = true) : run2 stack nil n full = true := by
  cases nil with
  | true =>
    have := h1 rfl; subst this
    have := h2 rfl; subst this
    cases stack
    · exact runQNf
    · exact runSNf
  | false =>
    match n, h2, h3, h5 with
    | 0, h2, _, _ =>
      have := h2 rfl; subst this
      cases stack
      · exact runQ0f
      · exact runS0f
    | 1, _, _, _ =>
      cases stack
      · cases full
        · exact runQ1f
        · exact runQ1t
      · cases full
        · exact runS1f
        · exact runS1t
    | 2, _, _, _ =>
      cases stack
      · cases full
        · exact runQ2f
        · exact runQ2t
      · cases full
        · exact runS2f
        · exact runS2t
    | 3, _, _, _ =>
      cases stack
      · cases full
        · exact runQ3f
        · exact runQ3t
      · cases full
        · exact runS3f
        · exact runS3t
    | 4, _, _, _ =>
      cases stack
      · cases full
        · exact runQ4f
        · exact runQ4t
      · cases full
        · exact runS4f
        · exact runS4t
    | 5, _, _, h5 =>
      have := h5 rfl; subst this
      cases stack
      · exact runQ5t
      · exact runS5t
    | n + 6, _, h, _ => omega

theorem pre_all (stack : Bool) (t : Nat) (h : t < 5) : pre1 stack t = true := by
  match t, h with
  | 0, _ =>
    cases stack
    · exact preQ0
    · exact preS0
  | 1, _ =>
    cases stack
    · exact preQ1
    · exact preS1
  | 2, _ =>
    cases stack
    · exact preQ2
    · exact preS2
  | 3, _ =>
    cases stack
    · exact preQ3
    · exact preS3
  | 4, _ =>
    cases stack
    · exact preQ4
    · exact preS4

theorem run1_of (stack : Bool) {n : Nat} {full nil : Bool} (h : run2 stack nil n full = true) (push : Bool) {flag : Nat} (hf : flag < 3) : run1 stack nil n push (bif push then flag else 0) full = true := by
  simp only [run2, Bool.and_eq_true] at h
  cases push with
  | false => exact h.1
  | true =>
    match flag, hf with
    | 0, _ => exact h.2.1
    | 1, _ => exact h.2.2.1
    | 2, _ => exact h.2.2.2

theorem run1_spec {stack nil : Bool} {n : Nat} {push : Bool} {flag : Nat} {full : Bool} (h : run1 stack nil n push flag full = true) :
    ∃ s1 s2 M, runTail (ctx (twFacts push flag n full)) (env (twFacts push flag n full)) 1000 2 bd (twIn stack (no nil n)) = some (.normal, s1) ∧
      exec (ctx (twFacts push flag n full)) (env (twFacts push flag n full)) false 1000 (comp Tryz.prog incr) s1 = some (.normal, s2) ∧
      mState 15 35 121 (twHeap (twKind stack) (twNext push flag n full nil)) (tsOf 121 (twTs stack (twNext push flag n full nil))) s2 = some M ∧ thetaOk M = true := by
  unfold run1 at h
  split at h
  · rename_i s2 hs2
    split at h
    · rename_i M hM
      unfold runS at hs2
      split at hs2
      · rename_i s1 h1
        split at hs2
        · rename_i s2' h2
          cases hs2
          exact ⟨s1, s2, M, h1, h2, hM, h⟩
        · cases hs2
      · cases hs2
    · cases h
  · cases h

theorem isV_spec {M : MS} {i : Nat} {v : AV} (h : isV M i v = true) : M.θ.get i = some v := by
  unfold isV at h
  split at h
  · rename_i u hu; rw [hu, beq_eq h]
  · cases h

/-! the loop's code -/
noncomputable def bdOps : Array Oper := match fst1 bd with | .region _ ops _ => ops | _ => #[]
noncomputable def bdId : Nat := match fst1 bd with | .region id _ _ => id | _ => 0
theorem loopB_eq : loopB = .seq (fst1 loopB) (.seq (fst1 (snd1 loopB)) (.seq blk incr)) := by kernel_rfl
theorem blk_eq : blk = .block 1 bd := by kernel_rfl
noncomputable def bdRest : Code := snd1 bd
theorem bd_eq : bd = .seq (.region bdId bdOps false) bdRest := by kernel_rfl
theorem ops_size : bdOps.size = 4 := by kernel_rfl
instance : Inhabited Oper := ⟨{ dst := none, op := .move (.tmp 0), type := 0, pos := default, after := #[], guard := none }⟩
noncomputable def o0 : Oper := (bdOps[0]?).getD default
noncomputable def o1 : Oper := (bdOps[1]?).getD default
theorem o0_at : bdOps[0]? = some o0 := by kernel_rfl
theorem o1_at : bdOps[1]? = some o1 := by kernel_rfl
theorem o0_g : o0.guard = none := by kernel_rfl
theorem o1_g : o1.guard = none := by kernel_rfl
theorem o0_d : o0.dst = some 45 := by kernel_rfl
theorem o1_d : o1.dst = some 46 := by kernel_rfl
theorem o0_op : o0.op = .indexAddr 22 (.tmp 41) (.tmp 43) := by kernel_rfl
theorem o1_op : o1.op = .load 32 (.tmp 45) := by kernel_rfl
theorem t22 : Tryz.prog.underlying 22 = some (.slice 32) := by kernel_rfl
theorem s32 : sizeA Tryz.prog 32 = some 4 := by kernel_rfl
theorem a32 : aggA Tryz.prog 32 = some true := by kernel_rfl

def F44 (b : Bool) : List (AV × AV) := [(bn .bool .lss (vi .i64 1043) (vi .i64 1042), .bool b)]
def setT (s : AS) (t : Tmps) : AS := { nt := s.nt, ts := t, ds := s.ds, h := s.h, nx := s.nx }
theorem twIn_eq (stack : Bool) (no : Option Nat) : twIn stack no = setT (twState stack no) ((((twState stack no).ts.put 44 (some (.bool true))).put 45 (some (va .any 2010))).put 46 (some (.agg [vi .u8 2000, vi .u8 2001, vi .u8 2002, vi .u8 2003]))) := by kernel_rfl
theorem head_t (stack : Bool) (no : Option Nat) : execNd (ctx (F44 true)) (env (F44 true)) 1000 2 loopB (twState stack no) = some (.normal, setT (twState stack no) ((twState stack no).ts.put 44 (some (.bool true)))) := by kernel_rfl
theorem head_f (stack : Bool) (no : Option Nat) : execNd (ctx (F44 false)) (env (F44 false)) 1000 2 loopB (twState stack no) = some (.exit 0, setT (twState stack no) ((twState stack no).ts.put 44 (some (.bool false)))) := by kernel_rfl

end Go.Ax.TW

/- TopWaits: a round of the loop. -/
namespace Go.Ax.TW
open Go.Proofs

/-- the acts, as they lie in the world -/
structure Acts (w0 : World) (B o m : Nat) (f : Nat → Nat → Int) : Prop where
  blk : 0 < m → ∃ cs el fr, w0.heap[B]? = some (.cells cs el fr) ∧ ∀ i j, i < m → j < 4 → cs[o + i * 4 + j]? = some (.int .u8 (f i j))
  rng : ∀ i j, i < m → j < 4 → 0 ≤ f i j ∧ f i j < 256

/-- at the loop's head, ahead of act i -/
def Inv (stack : Bool) (T m : Nat) (lv : Value) (w0 : World) (i : Nat) (a : Act) (w : World) : Prop :=
  ∃ no : Option Nat, (∀ n, no = some n → n ≤ T) ∧ ∃ (I : Opq) (φ : Inj), I.var 1009 = .int .i64 T ∧ I.var 1041 = lv ∧ I.var 1042 = .int .i64 m ∧ I.var 1043 = .int .i64 i ∧
    @St I (ctx []) φ (twState stack no) w a ∧ Frm (phi0 15) .leaf w0 φ (twState stack no).h w

theorem stc [Opq] {fs fs' : List (AV × AV)} {φ : Inj} {s : AS} {w : World} {a : Act} (h : St (TW.ctx fs) φ s w a) : St (TW.ctx fs') φ s w a := ⟨h.rep, h.ts, h.ds, h.nt⟩

theorem sums_ok [Opq] (fs : List (AV × AV)) : SumsOk (ctx fs) sumsA := by
  intro f g hg args h nx v h' nx' hrun φ w args' hr ha
  unfold sumsA at hg
  cases hb : Nat.beq f 38 with
  | false => rw [hb] at hg; cases hg
  | true =>
    rw [hb] at hg
    cases hg
    have hf := Nat.eq_of_beq_eq_true hb
    subst hf
    cases args with
    | cons => cases hrun
    | nil =>
      cases hrun
      cases ha
      have hr' : Rep Tryz.prog φ h nx w := hr
      have k := AW.awake_done hr'
      exact k.mono fun e w' ⟨φ', v', x1, x2, x3, x4⟩ => ⟨φ', v', x1, x2, x3, x4⟩

theorem env_ok [Opq] {fs : List (AV × AV)} (h : (ctx fs).Ok) : EnvOk (ctx fs) (env fs) := call_sound h (sums_ok fs) 1000 100

section
variable [Opq] {fs : List (AV × AV)} {φ : Inj} {w : World} {a : Act} {s s' : AS} {n : Nat} {Q : Exit → Act → World → Prop}

theorem w_execNd (hC : (ctx fs).Ok) {k : Nat} {c : Code} (h : execNd (ctx fs) (env fs) 1000 k c s = some (.normal, s')) (hs : St (ctx []) φ s w a)
    (hQ : ∀ φ' a' w', St (ctx []) φ' s' w' a' → Frm φ s.h w φ' s'.h w' → (suff k c).wpIn (FW none) n Tryz.prog Q a' w') : c.wpIn (FW none) n Tryz.prog Q a w :=
  execNd_sound (C := ctx fs) hC (env_ok hC) k c h (stc hs) fun φ1 a1 w1 p1 => hQ φ1 a1 w1 (stc p1.st) p1.chg.frm

theorem w_execNd_exit (hC : (ctx fs).Ok) {k id : Nat} {c : Code} (h : execNd (ctx fs) (env fs) 1000 k c s = some (.exit id, s')) (hs : St (ctx []) φ s w a)
    (hQ : ∀ φ' a' w', St (ctx []) φ' s' w' a' → Frm φ s.h w φ' s'.h w' → Q (.exit id) a' w') : c.wpIn (FW none) n Tryz.prog Q a w :=
  execNd_sound (C := ctx fs) hC (env_ok hC) k c h (stc hs) fun φ1 a1 w1 p1 => hQ φ1 a1 w1 (stc p1.st) p1.chg.frm

theorem w_exec (hC : (ctx fs).Ok) {c : Code} {x : AExit} (h : exec (ctx fs) (env fs) false 1000 (comp Tryz.prog c) s = some (x, s')) (hs : St (ctx []) φ s w a)
    (hQ : ∀ φ' a' w', St (ctx []) φ' s' w' a' → Frm φ s.h w φ' s'.h w' → Q (xr x) a' w') : c.wpIn (FW none) n Tryz.prog Q a w :=
  exec_sound (C := ctx fs) (ro := none) hC (env_ok hC) (fun _ => rfl) c h (stc hs) fun φ1 a1 w1 p1 => hQ φ1 a1 w1 (stc p1.st) p1.chg.frm

theorem w_exec' (hC : (ctx fs).Ok) {c : Code} {x : AExit} (h : exec (ctx fs) (env fs) false 1000 (comp Tryz.prog c) s = some (x, s')) (hs : St (ctx []) φ s w a)
    (hQ : ∀ φ' a' w', St (ctx []) φ' s' w' a' → Chg φ s.h s.nx w φ' s'.h s'.nx w' → Q (xr x) a' w') : c.wpIn (FW none) n Tryz.prog Q a w :=
  exec_sound (C := ctx fs) (ro := none) hC (env_ok hC) (fun _ => rfl) c h (stc hs) fun φ1 a1 w1 p1 => hQ φ1 a1 w1 (stc p1.st) p1.chg

theorem w_tail (hC : (ctx fs).Ok) {k id : Nat} {ops : Array Oper} {rest : Code} (h : runTail (ctx fs) (env fs) 1000 k (.seq (.region id ops false) rest) s = some (.normal, s')) (hs : St (ctx []) φ s w a)
    (hQ : ∀ φ' a' w', St (ctx []) φ' s' w' a' → Frm φ s.h w φ' s'.h w' → Q .normal a' w') :
    wpOpsIn (FW none) n Tryz.prog ops (Exit.then (rest.wpIn (FW none) n Tryz.prog Q) Q) (List.range' k (ops.size - k)) a w :=
  runTail_sound (C := ctx fs) hC (env_ok hC) h (stc hs) fun φ1 a1 w1 p1 => hQ φ1 a1 w1 (stc p1.st) p1.chg.frm

theorem w_put {S : AS} {ts : Tmps} (hs : St (ctx []) φ (setT S ts) w a) {d : Nat} {v : AV} {v' : Value} (hv : conc φ v = some v') (hd : dstOk S.nt (some d) = true) : St (ctx []) φ (setT S (ts.put d (some v))) w (a.put (some d) v') :=
  St.put hs hv hd

theorem w_at {S : AS} {ts : Tmps} (hs : St (ctx []) φ (setT S ts) w a) (t : Nat) {v : AV} {x : Value} (hv : ev ts (.tmp t) = v) (hx : conc φ v = some x) : a.eval (.tmp t) = x := St.at hs t hv hx

theorem w_value {ops : Array Oper} {i : Nat} {rest : List Nat} {o : Oper} {v : Value} (ho : ops[i]? = some o) (hg : o.guard = none) (hd : ∀ c, o.op ≠ .defer c)
    (hrun : (execOp a.eval o).run Tryz.prog w = .ok (.value v) w) (hK : wpOpsIn (FW none) n Tryz.prog ops Q rest (a.put o.dst v) w) : wpOpsIn (FW none) n Tryz.prog ops Q (i :: rest) a w :=
  op_value (C := ctx []) ho hg hd hrun hK
end

theorem i64_canon (n : Nat) (h : n < 2 ^ 63) : IntKind.i64.wrap (n : Int) = n := by
  rw [wrap_range]; simp only [IntKind.min, IntKind.max, IntKind.signed, IntKind.bits, if_true]; omega

theorem u8_canon (n : Int) (h : 0 ≤ n ∧ n < 256) : IntKind.u8.wrap n = n := by
  rw [wrap_range]; simp only [IntKind.min, IntKind.max, IntKind.signed, IntKind.bits, Bool.false_eq_true, if_false]; omega

theorem conc_i64 [Opq] {φ : Inj} {i n : Nat} (h : Sg.var i = .int .i64 n) (hn : n < 2 ^ 63) : conc φ (vi .i64 i) = some (.int .i64 n) :=
  conc_var h ⟨n, rfl, i64_canon n hn⟩

theorem conc_u8 [Opq] {φ : Inj} {i : Nat} {n : Int} (h : Sg.var i = .int .u8 n) (hn : 0 ≤ n ∧ n < 256) : conc φ (vi .u8 i) = some (.int .u8 n) :=
  conc_var h ⟨n, rfl, u8_canon n hn⟩

/-- the old blocks are as they were -/
theorem frm_old {φ : Inj} {h : Heap} {w0 w : World} (r : Frm (phi0 15) .leaf w0 φ h w) {B : Nat} {c : Obj} (hB : w0.heap[B]? = some c) : w.heap[B]? = some c := by
  rw [r.frame B (Array.getElem?_eq_some_iff.1 hB).1 (fun b o hb => by simp at hb)]
  exact hB

theorem ts41 {stack : Bool} {no : Option Nat} : ev ((twState stack no).ts.put 44 (some (.bool true))) (.tmp 41) = va .any 1041 := by kernel_rfl
theorem ts43 {stack : Bool} {no : Option Nat} : ev ((twState stack no).ts.put 44 (some (.bool true))) (.tmp 43) = vi .i64 1043 := by kernel_rfl
theorem ht2 (stack : Bool) (no : Option Nat) (t : Nat) (h : 121 ≤ t) : (tsOf 121 (twTs stack no)).get t = none := tsOf_none (by kernel_rfl) t h

theorem st_tw [Opq] {φ : Inj} {w : World} {a : Act} (stack : Bool) (no : Option Nat) (h : St (ctx []) φ { nt := 121, ts := tsOf 121 (twTs stack no), ds := [], h := mkHeap (twHeap (twKind stack) no), nx := 35 } w a) : St (ctx []) φ (twState stack no) w a := h

def big (i : Nat) : Bool := decide (2000 ≤ i)
theorem big_lt {i : Nat} (h : i < 2000) : big i = false := decide_eq_false (by omega)

theorem nv_heap (p : Nat → Bool) (k : Int) (no : Option Nat) (hp : p 1004 = false ∧ p 1009 = false ∧ ∀ j, j < 5 → p (1010 + j) = false) (hn : ∀ n, no = some n → n ≤ 5) : nvH p (twHeap k no) = true := by
  have hb : ∀ n j, j + n ≤ 5 → nvL p (twBytes j n) = true := by
    intro n
    induction n with
    | zero => intro j _; rfl
    | succ n ih =>
      intro j h
      simp [twBytes, twByte, vi, va, nvL, nvV, hp.2.2 j (by omega), ih (j + 1) (by omega)]
  have hst : ∀ n j, j + n ≤ 5 → nvL p (twStrs j n) = true := by
    intro n
    induction n with
    | zero => intro j _; rfl
    | succ n ih =>
      intro j h
      simp [twStrs, twByte, vi, va, nvL, nvV, hp.2.2 j (by omega), ih (j + 1) (by omega)]
  cases no with
  | none => simp [twHeap, nvH, nvO, nvL, nvV, nvE, vi, va, i64, hp.1, hp.2.1]
  | some n => simp [twHeap, nvH, nvO, nvL, nvV, nvE, vi, va, i64, hp.1, hp.2.1, hb n 0 (by have := hn n rfl; omega), hst n 0 (by have := hn n rfl; omega)]

theorem nv_ts (stack : Bool) (no : Option Nat) : nvL big ((twTs stack no).map (·.2)) = true := by
  cases no <;> rfl

theorem st_un {I : Opq} {φ : Inj} {w : World} {a : Act} {stack : Bool} {no : Option Nat} (h : @St I (ctx []) φ (twState stack no) w a) : @St I (ctx []) φ { nt := 121, ts := tsOf 121 (twTs stack no), ds := [], h := mkHeap (twHeap (twKind stack) no), nx := 35 } w a := h

theorem st_fresh {I : Opq} {f : Nat → Value} {φ : Inj} {w : World} {a : Act} {stack : Bool} {no : Option Nat} (h : @St I (ctx []) φ (twState stack no) w a) (hn : ∀ n, no = some n → n ≤ 5) : @St (reI I big f) (ctx []) φ (twState stack no) w a :=
  @st_tw (reI I big f) _ _ _ stack no (st_agree (nv_heap _ _ no ⟨rfl, rfl, fun j hj => big_lt (by omega)⟩ hn) (tsOf_nv (fun j hj => big_lt (by omega)) (nv_ts stack no)) (st_un h))

theorem tw_h (stack : Bool) (no : Option Nat) : (twState stack no).h = mkHeap (twHeap (twKind stack) no) := by kernel_rfl
theorem frm_tw {φ φ' : Inj} {h : Heap} {w w' : World} (stack : Bool) (no : Option Nat) (r : Frm φ h w φ' (mkHeap (twHeap (twKind stack) no)) w') : Frm φ h w φ' (twState stack no).h w' := by rw [tw_h]; exact r

theorem noVs_spec {M : MS} : ∀ {l : List Nat}, noVs M l = true → ∀ j ∈ l, M.θ.get j = none
  | [], _, j, hj => by cases hj
  | i :: l, h, j, hj => by
    simp only [noVs, Bool.and_eq_true] at h
    rcases List.mem_cons.1 hj with e | e
    · subst e
      have h1 := h.1
      split at h1
      · cases h1
      · assumption
    · exact noVs_spec h.2 j e

theorem suff2 : suff 2 loopB = .seq blk incr := by kernel_rfl
theorem range4 : List.range bdOps.size = 0 :: 1 :: List.range' 2 (bdOps.size - 2) := by rw [ops_size]; rfl

set_option maxRecDepth 100000 in
theorem round {stack : Bool} {T B o m cap : Nat} {w0 : World} {f : Nat → Nat → Int} (hA : Acts w0 B o m f) (hT : T ≤ 5) (hT1 : 1 ≤ T) (hm : m ≤ 40) {i : Nat} {a : Act} {w : World} (hi : i < m)
    (hinv : Inv stack T m (.slice (some ⟨B, o, none⟩) m cap) w0 i a w) :
    loopB.wpIn (FW none) 0 Tryz.prog (fun e a' w' => e = .normal ∧ Inv stack T m (.slice (some ⟨B, o, none⟩) m cap) w0 (i + 1) a' w') a w := by
  obtain ⟨nq, hnq, I0, φ, i9, i41, i42, i43, hs0, hfr⟩ := hinv
  let ff : Nat → Value := fun j => if j = 2010 then .pointer (some ⟨B, o + i * 4, none⟩) else if j < 2004 then .int .u8 (f i (j - 2000)) else undef
  obtain ⟨I, hI⟩ : ∃ I : Opq, I = reI I0 big ff := ⟨_, rfl⟩
  have hs : @St I (ctx []) φ (twState stack nq) w a := by rw [hI]; exact st_fresh hs0 (fun n h => by have := hnq n h; omega)
  have hff : ∀ j ∈ fresh, I.var j = ff j := by
    rw [hI]
    intro j hj
    simp only [fresh, List.mem_cons, List.not_mem_nil, or_false] at hj
    rcases hj with rfl | rfl | rfl | rfl | rfl <;> rfl
  have h9 : I.var 1009 = .int .i64 T := by rw [hI]; exact i9
  have h41 : I.var 1041 = .slice (some ⟨B, o, none⟩) m cap := by rw [hI]; exact i41
  have h42 : I.var 1042 = .int .i64 m := by rw [hI]; exact i42
  have h43 : I.var 1043 = .int .i64 i := by rw [hI]; exact i43
  clear hI
  have hC1 : (ctx (F44 true)).Ok := ctx_ok fun p hp φ v h => by
    simp only [F44, List.mem_singleton] at hp
    subst hp
    refine fact_mk (u := .bool true) (fun φ => ?_) (fun φ => rfl) φ v h
    have := conc_lss (φ := φ) (conc_i64 h43 (by omega)) (conc_i64 h42 (by omega))
    rw [show decide ((i : Int) < m) = true from decide_eq_true (by omega)] at this
    exact this
  refine w_execNd hC1 (head_t stack nq) hs fun φ1 a1 w1 p1 g1 => ?_
  rewrite [suff2]
  have hfr1 := hfr.trans g1
  refine wpIn_seq ?_
  rewrite [blk_eq]
  refine wpIn_block ?_
  rewrite [bd_eq]
  refine wpIn_seq ?_
  refine wpIn_region ?_
  rewrite [range4]
  have ev41 : a1.eval (.tmp 41) = .slice (some ⟨B, o, none⟩) m cap := w_at p1 41 ts41 (conc_var h41 trivial)
  have ev43 : a1.eval (.tmp 43) = .int .i64 i := w_at p1 43 ts43 (conc_i64 h43 (by omega))
  obtain ⟨cs, el, fr, hcs, hget⟩ := hA.blk (by omega)
  refine w_value o0_at o0_g (by rw [o0_op]; intro c h; cases h) (run_indexAddr o0_op t22 s32 ev41 ev43 ⟨by omega, by omega⟩) ?_
  have hs2 := w_put p1 (d := 45) (v := va .any 2010) (v' := .pointer (some ⟨B, o + (i : Int).toNat * 4, none⟩)) (conc_var (by rw [hff 2010 (by simp [fresh])]; rfl) trivial) rfl
  rewrite [o0_d]
  have ev45 := w_at hs2 45 (v := va .any 2010) (by rw [ev_put, if_pos rfl]) (x := .pointer (some ⟨B, o + i * 4, none⟩)) (conc_var (by rw [hff 2010 (by simp [fresh])]; rfl) trivial)
  refine w_value o1_at o1_g (by rw [o1_op]; intro c h; cases h) (run_load o1_op a32 s32 ev45 (frm_old hfr1 hcs) (l := [.int .u8 (f i 0), .int .u8 (f i 1), .int .u8 (f i 2), .int .u8 (f i 3)]) rfl ?_) ?_
  · intro j v hj
    match j, hj with
    | 0, hj => cases hj; exact hget i 0 hi (by omega)
    | 1, hj => cases hj; exact hget i 1 hi (by omega)
    | 2, hj => cases hj; exact hget i 2 hi (by omega)
    | 3, hj => cases hj; exact hget i 3 hi (by omega)
    | j + 4, hj => simp at hj
  have hk : ∀ j, j < 4 → ∀ φ, conc φ (vi .u8 (2000 + j)) = some (.int .u8 (f i j)) := fun j hj φ => by
    refine conc_u8 ?_ (hA.rng i j hi hj)
    rw [hff (2000 + j) (by simp only [fresh, List.mem_cons]; omega)]
    show (if 2000 + j = 2010 then _ else if 2000 + j < 2004 then Value.int .u8 (f i (2000 + j - 2000)) else undef) = _
    rw [if_neg (by omega), if_pos (by omega)]
    congr 2
    omega
  have hs3 := w_put hs2 (d := 46) (v := .agg [vi .u8 2000, vi .u8 2001, vi .u8 2002, vi .u8 2003]) (v' := .agg [Value.int .u8 (f i 0), .int .u8 (f i 1), .int .u8 (f i 2), .int .u8 (f i 3)].toArray) (by
    simp only [conc]
    rw [concL_cons_mk (hk 0 (by omega) φ1) (concL_cons_mk (hk 1 (by omega) φ1) (concL_cons_mk (hk 2 (by omega) φ1) (concL_cons_mk (hk 3 (by omega) φ1) rfl)))]) rfl
  rewrite [o1_d]
  -- which act, which state
  have hin : ∃ nil n, nq = no nil n ∧ (nil = true → n = 0) ∧ n ≤ T := by
    cases nq with
    | none => exact ⟨true, 0, rfl, fun _ => rfl, by omega⟩
    | some n => exact ⟨false, n, rfl, (fun h => by cases h), hnq n rfl⟩
  obtain ⟨nil, n, rfl, hnil, hnT⟩ := hin
  have r0 := hA.rng i 0 hi (by omega)
  have r3 := hA.rng i 3 hi (by omega)
  obtain ⟨push, hpush⟩ : ∃ push : Bool, push = decide ((f i 0).tmod 5 < 3) := ⟨_, rfl⟩
  obtain ⟨flag, hflag⟩ : ∃ flag : Nat, (flag : Int) = (f i 3).tmod 3 := ⟨((f i 3).tmod 3).toNat, by rw [Int.toNat_of_nonneg (Int.tmod_nonneg _ r3.1)]⟩
  have hfl3 : flag < 3 := by
    have := Int.tmod_lt_of_pos (f i 3) (show (0 : Int) < 3 by omega)
    omega
  obtain ⟨full, hfull⟩ : ∃ full : Bool, full = ((n : Int) == (T : Int)) := ⟨_, rfl⟩
  have hfe : full = true ↔ n = T := by rw [hfull, beq_iff_eq]; omega
  have hrun := run1_of stack (run_all stack n full nil hnil (fun h => by cases hf : full with | false => rfl | true => have := hfe.1 hf; omega) (by omega) (fun h => hfe.2 (by omega))) push hfl3
  obtain ⟨s1, s2, M, h1, h2, hM, hθ⟩ := run1_spec hrun
  have hC2 : (ctx (twFacts push (bif push then flag else 0) n full)).Ok := ctx_ok fun p hp φ v h => by
    have hmod0 : ∀ φ, conc φ (twMod 2000 5) = some (.int .u8 ((f i 0).tmod 5)) := fun φ => conc_rem (hk 0 (by omega) φ) rfl (u8_canon _ r0) (by omega)
    have hmod3 : ∀ φ, conc φ (twMod 2003 3) = some (.int .u8 ((f i 3).tmod 3)) := fun φ => conc_rem (hk 3 (by omega) φ) rfl (u8_canon _ r3) (by omega)
    simp only [twFacts, List.mem_cons] at hp
    rcases hp with rfl | rfl | hp
    · refine fact_mk (u := .bool push) (fun φ => ?_) (fun φ => rfl) φ v h
      rw [hpush]
      exact conc_lss (hmod0 φ) rfl
    · refine fact_mk (u := .bool full) (fun φ => ?_) (fun φ => rfl) φ v h
      rw [hfull]
      exact conc_eql rfl (conc_i64 h9 (by omega))
    · cases push with
      | false => simp at hp
      | true =>
        simp only [cond_true, List.mem_singleton] at hp
        subst hp
        refine fact_mk (u := .int .u8 ((f i 3).tmod 3)) (fun φ => hmod3 φ) (fun φ => ?_) φ v h
        rw [← hflag]; rfl
  have hs4 := hs3
  clear hs3
  rewrite [bd_eq, twIn_eq] at h1
  refine w_tail hC2 h1 hs4 fun φ4 a4 w4 p4 g4 => ?_
  show incr.wpIn (FW none) 0 Tryz.prog _ a4 w4
  refine w_exec hC2 h2 p4 fun φ5 a5 w5 p5 g5 => ?_
  refine ⟨rfl, twNext push (bif push then flag else 0) n full nil, ?_, ?_⟩
  · intro n' hn'
    unfold twNext at hn'
    cases push with
    | false =>
      simp only [cond_false] at hn'
      cases nil with
      | true => simp at hn'
      | false => simp at hn'; omega
    | true =>
      simp only [cond_true] at hn'
      cases hb : Nat.beq flag 1 with
      | true =>
        rw [hb] at hn'
        simp only [cond_true] at hn'
        cases nil with
        | true => simp at hn'
        | false => simp at hn'; omega
      | false =>
        rw [hb] at hn'
        simp only [cond_false] at hn'
        cases hf : full with
        | true => rw [hf] at hn'; simp at hn'; omega
        | false =>
          rw [hf] at hn'; simp at hn'
          have : n ≠ T := fun e => by rw [hfe.2 e] at hf; cases hf
          omega
  · have hM' : mState (ctx []).P.globals.size 35 121 (twHeap (twKind stack) (twNext push (bif push then flag else 0) n full nil)) (tsOf 121 (twTs stack (twNext push (bif push then flag else 0) n full nil))) s2 = some M := by
      show mState Tryz.prog.globals.size _ _ _ _ _ = _
      rw [e4]; exact hM
    obtain ⟨m1, m2⟩ := match_sound (I := I) (φ := φ5) (dv := fun _ => undef) (C := ctx []) hM' (by show Tryz.prog.globals.size ≤ 35; rw [e4]; omega) (ht2 stack _) p5
    simp only [thetaOk, Bool.and_eq_true] at hθ
    obtain ⟨q1, q2, q3, q4, q5⟩ := hθ
    have m1' := @st_tw (opq2 I φ5 M (fun _ => undef)) _ _ _ stack _ m1
    have m2' := frm_tw stack _ m2
    refine ⟨opq2 I φ5 M fun _ => undef, _, opq2_var (isV_spec q1) (conc_i64 h9 (by omega)), opq2_var (isV_spec q2) (conc_var h41 trivial), opq2_var (isV_spec q3) (conc_i64 h42 (by omega)), ?_, m1', ?_⟩
    · rw [opq2_var (isV_spec q4) (conc_add (conc_i64 h43 (by omega)) rfl)]
      rw [show ((i : Int) + 1) = ((i + 1 : Nat) : Int) by omega, i64_canon _ (by omega)]
    · exact ((hfr1.trans g4).trans g5).trans m2'

end Go.Ax.TW

/- TopWaits: ahead of the loop. -/
namespace Go.Ax.TW
open Go.Proofs
noncomputable def headR : Code := fst1 (fst1 (suff 7 body))
noncomputable def restR : Code := snd1 (suff 7 body)
theorem suff7 : suff 7 body = .seq (.seq headR (.block 0 (.loop loopB))) restR := by kernel_rfl
def headL : List AOper :=
  [{ dst := some 37, op := .mov (.tmp 0), guard := none, anc := 0 },
   { dst := some 38, op := .mov (.tmp 0), guard := none, anc := 0 },
   { dst := some 39, op := .lenL (.tmp 38), guard := none, anc := 2 },
   { dst := some 40, op := .minmax false (.tmp 39) [.const (.int .i64 40)], guard := none, anc := 6 },
   { dst := some 41, op := .sliceL 4 (.tmp 37) none (some (.tmp 40)) none, guard := none, anc := 15 },
   { dst := some 42, op := .lenL (.tmp 41), guard := none, anc := 31 },
   { dst := some 43, op := .mov (.const (.int .i64 0)), guard := none, anc := 0 }]
theorem headR_eq : comp Tryz.prog headR = .region headL := by kernel_rfl

def headTs (ts : Tmps) (b len cap : Nat) : Tmps :=
  ((((((ts.put 37 (some (.slice b 0 len cap false))).put 38 (some (.slice b 0 len cap false))).put 39 (some (.int .i64 len))).put 40 (some (.int .i64 (min len 40 : Nat)))).put 41 (some (.slice b 0 (min len 40) cap false))).put 42 (some (.int .i64 (min len 40 : Nat)))).put 43 (some (.int .i64 0))

theorem head_run [Opq] {C : Ctx} {env : Env} {S : AS} {ts : Tmps} (hnt : S.nt = 121) {b len cap : Nat} (h0 : ts.get 0 = some (.slice b 0 len cap false)) (hc : len ≤ cap) :
    runOps C env false headL (setT S ts) = some (setT S (headTs ts b len cap)) := by
  have hm : (if (40 : Int) < (len : Int) then (40 : Int) else (len : Int)) = ((min len 40 : Nat) : Int) := by
    split <;> omega
  have hn : (setT S ts).nt = 121 := hnt
  have h0' : ev ts (.tmp 0) = .slice b 0 len cap false := by simp only [ev, h0]
  have e37 : ev (ts.put 37 (some (.slice b 0 len cap false))) (.tmp 0) = .slice b 0 len cap false := by rw [ev_put, if_neg (by omega)]; exact h0'
  have hb : bounds3 len cap none (some (.int .i64 ((min len 40 : Nat) : Int))) none = some (0, min len 40, cap) := by
    simp only [bounds3, boundO, bound]
    rw [if_pos (by omega)]
    simp
  have evc : ∀ (ts : Tmps) (v : AV), ev ts (.const v) = v := fun _ _ => rfl
  have bl : Nat.blt 37 121 = true ∧ Nat.blt 38 121 = true ∧ Nat.blt 39 121 = true ∧ Nat.blt 40 121 = true ∧ Nat.blt 41 121 = true ∧ Nat.blt 42 121 = true ∧ Nat.blt 43 121 = true := ⟨rfl, rfl, rfl, rfl, rfl, rfl, rfl⟩
  have hsl : ∀ X : Option Res, (if cap = 0 then X else if min len 40 ≤ cap then X else none) = X := by
    intro X
    split
    · rfl
    · rw [if_pos (by omega)]
  simp [headL, headTs, runOps, setT, hnt, step1, op1, op0, norm, isSym, ev_put, h0', putD, dstOk, guardOk, wantedA, evc, evL, evO, minmaxA, hm, opOf, hb, qO, bl, hsl]

/-- behind the loop -/
def Fin (stack : Bool) (w0 : World) (a : Act) (w : World) : Prop :=
  ∃ (no : Option Nat) (ts : Tmps) (I : Opq) (φ : Inj), @St I (ctx []) φ (setT (twState stack no) ts) w a ∧ Frm (phi0 15) .leaf w0 φ (setT (twState stack no) ts).h w

set_option maxRecDepth 100000 in
theorem exit_round {stack : Bool} {T m : Nat} {lv : Value} {w0 : World} (hm : m ≤ 40) {a : Act} {w : World} (hinv : Inv stack T m lv w0 m a w) :
    loopB.wpIn (FW none) 0 Tryz.prog (fun e a' w' => e = .exit 0 ∧ Fin stack w0 a' w') a w := by
  obtain ⟨nq, hnq, I, φ, h9, h41, h42, h43, hs, hfr⟩ := hinv
  have hC1 : (ctx (F44 false)).Ok := ctx_ok fun p hp φ v h => by
    simp only [F44, List.mem_singleton] at hp
    subst hp
    refine fact_mk (u := .bool false) (fun φ => ?_) (fun φ => rfl) φ v h
    have := conc_lss (φ := φ) (conc_i64 h43 (by omega)) (conc_i64 h42 (by omega))
    rw [show decide ((m : Int) < m) = false from decide_eq_false (by omega)] at this
    exact this
  refine w_execNd_exit hC1 (head_f stack nq) hs fun φ1 a1 w1 p1 g1 => ?_
  exact ⟨rfl, nq, _, I, φ1, p1, hfr.trans g1⟩

theorem rounds {stack : Bool} {T B o m cap : Nat} {w0 : World} {f : Nat → Nat → Int} (hA : Acts w0 B o m f) (hT : T ≤ 5) (hT1 : 1 ≤ T) (hm : m ≤ 40) : ∀ (k i : Nat) (a : Act) (w : World), i + k = m →
    Inv stack T m (.slice (some ⟨B, o, none⟩) m cap) w0 i a w → Code.roundsIn (FW none) 0 Tryz.prog loopB (fun e a w => e = .exit 0 ∧ Fin stack w0 a w) (k + 1) a w
  | 0, i, a, w, hk, hinv => by
    rw [roundsIn_succ]
    have : i = m := by omega
    subst this
    refine wpIn_mono (exit_round hm hinv) fun e a1 w1 h => ?_
    obtain ⟨rfl, h⟩ := h
    exact ⟨rfl, h⟩
  | k + 1, i, a, w, hk, hinv => by
    rw [roundsIn_succ]
    refine wpIn_mono (round hA hT hT1 hm (by omega) hinv) fun e a1 w1 h => ?_
    obtain ⟨rfl, h⟩ := h
    exact rounds hA hT hT1 hm k (i + 1) a1 w1 (by omega) h

theorem rounds0 {stack : Bool} {T : Nat} {lv : Value} {w0 : World} {a : Act} {w : World} (hinv : Inv stack T 0 lv w0 0 a w) : Code.roundsIn (FW none) 0 Tryz.prog loopB (fun e a w => e = .exit 0 ∧ Fin stack w0 a w) 1 a w := by
  rw [roundsIn_succ]
  refine wpIn_mono (exit_round (by omega) hinv) fun e a1 w1 h => ?_
  obtain ⟨rfl, h⟩ := h
  exact ⟨rfl, h⟩

/-! the rest -/
def endTs (ts : Tmps) : Tmps := ts.put 8 (some (.bool true))
theorem rest_run (stack : Bool) (no : Option Nat) (ts : Tmps) : exec (ctx []) (env []) false 1000 (comp Tryz.prog restR) (setT (twState stack no) ts) = some (.ret, setT (twState stack no) (endTs ts)) := by kernel_rfl
theorem no_facts [Opq] : (ctx []).Ok := ctx_ok fun p hp => by cases hp
theorem res8 : optMap (compRes Tryz.prog) Tryz.f4.results.toList = some [.tmp 8] := by kernel_rfl
theorem f4_body : Tryz.f4.body = some body := by kernel_rfl

/-- what is told in the end -/
def Told (w0 : World) (e : Ending) (w : World) : Prop := e = .returned (.bool true) ∧ w.os = w0.os ∧ w.output = w0.output ∧ w0.heap.size ≤ w.heap.size ∧ ∀ i : Nat, i < w0.heap.size → w.heap[i]? = w0.heap[i]?

def QF (w0 : World) (e : Exit) (a : Act) (w : World) : Prop :=
  (match e with | .normal => True | .ret => True | _ => False) ∧ a.defers = [] ∧ ∃ v, (results Tryz.f4 a.tmps).run Tryz.prog w = .ok v w ∧ Told w0 (.returned v) w

theorem rest_wp {stack : Bool} {w0 : World} {a : Act} {w : World} (h : Fin stack w0 a w) : restR.wpIn (FW none) 0 Tryz.prog (QF w0) a w := by
  obtain ⟨no, ts, I, φ, hs, hfr⟩ := h
  refine w_exec no_facts (rest_run stack no ts) hs fun φ1 a1 w1 p1 g1 => ?_
  have hfin := hfr.trans g1
  have h8 : resL (endTs ts) (setT (twState stack no) (endTs ts)).h [.tmp 8] = some (.bool true) := by
    simp only [resL, optMap, resA]
    rw [show ev (endTs ts) (.tmp 8) = .bool true by unfold endTs; rw [ev_put, if_pos rfl]]
  obtain ⟨v', hv', hrr⟩ := results_sound p1.rep p1.ts res8 h8
  cases conc_bool hv'
  have hd : a1.defers = [] := by
    have h1 : DsRel φ1 [] a1.defers := p1.ds
    cases hl : a1.defers with
    | nil => rfl
    | cons d l => rw [hl] at h1; exact h1.elim
  exact ⟨trivial, hd, _, hrr, rfl, hfin.os, hfin.out, hfin.size, fun i hi => hfin.frame i hi (fun b o hb => by simp at hb)⟩

end Go.Ax.TW

/- TopWaits: the whole. -/
namespace Go.Ax.TW
open Go.Proofs

def preState (stack : Bool) : AS := { nt := 121, ts := tsOf 121 (preTs stack), ds := [], h := mkHeap (twHeap (twKind stack) none), nx := 35 }
def preState' (stack : Bool) : AS := { nt := 121, ts := tsOf 121 (preTs stack), ds := [], h := mkHeap (twHeap (twKind stack) none), nx := 36 }
def hTs (stack : Bool) (len cap : Nat) : Tmps := headTs ((tsOf 121 (preTs stack)).put 0 (some (.slice 35 0 len cap false))) 35 len cap
def hTsN (stack : Bool) : Tmps := (tsOf 121 (preTs stack)).put 0 (some .nilslice) |>.put 37 (some .nilslice) |>.put 38 (some .nilslice) |>.put 39 (some (i64 0)) |>.put 40 (some (i64 0)) |>.put 41 (some .nilslice) |>.put 42 (some (i64 0)) |>.put 43 (some (i64 0))

/-- the state behind the head, for any temporaries that agree -/
def mid (stack : Bool) (ts : Tmps) : Option MS := mState 15 35 121 (twHeap (twKind stack) none) (tsOf 121 [(11, .ptr 15 0)]) (setT (preState' stack) ts)
def midOk (stack : Bool) (ts : Tmps) : Bool := match mid stack ts with | some M => isV M 1009 (vi .i64 1009) | none => false
theorem mid_s (stack : Bool) (len cap : Nat) : midOk stack (hTs stack len cap) = true := by
  cases stack
  · kernel_rfl
  · kernel_rfl
theorem mid_n (stack : Bool) : midOk stack (hTsN stack) = true := by
  cases stack
  · kernel_rfl
  · kernel_rfl

def pj (i : Nat) : Bool := decide (i < 121) || (decide (1000 ≤ i ∧ i ≤ 1003) || decide (1041 ≤ i))
def fj (tmps : Array Value) (lv : Value) (m : Nat) (i : Nat) : Value :=
  if i < 121 then tmps.getD i undef else if i < 1041 then tmps.getD (i - 1000) undef else if i = 1041 then lv else if i = 1042 then .int .i64 m else .int .i64 0

theorem ts11 : ev (tsOf 121 [(11, AV.ptr 15 0)]) (.tmp 11) = .ptr 15 0 := by kernel_rfl

set_option maxRecDepth 100000 in
/-- at the loop's head for the first time -/
theorem start {stack : Bool} {T m : Nat} {lv : Value} {w0 w : World} {a : Act} {I : Opq} {φ : Inj} {ts : Tmps} (hm : m ≤ 40) (hmid : midOk stack ts = true) (h9 : I.var 1009 = .int .i64 T) (hT : T ≤ 5)
    (hs : @St I (ctx []) φ (setT (preState' stack) ts) w a) (hfr : Frm (phi0 15) .leaf w0 φ (setT (preState' stack) ts).h w)
    (t1 : ev ts (.tmp 1) = vi .u8 1001) (t2 : ev ts (.tmp 2) = .bool stack) (t3 : ev ts (.tmp 3) = vi .i64 1003) (t9 : ev ts (.tmp 9) = vi .i64 1009) (t12 : ev ts (.tmp 12) = .nilslice)
    (t42 : ev ts (.tmp 42) = i64 m) (t43 : ev ts (.tmp 43) = i64 0) (t41 : a.eval (.tmp 41) = lv) : Inv stack T m lv w0 0 a w := by
  obtain ⟨M, hM, hV⟩ : ∃ M, mid stack ts = some M ∧ isV M 1009 (vi .i64 1009) = true := by
    unfold midOk at hmid
    split at hmid
    · rename_i M h; exact ⟨M, h, hmid⟩
    · cases hmid
  have c1 := conc_sym_knd (by have := hs.ts 1; rw [show ev (setT (preState' stack) ts).ts (.tmp 1) = vi .u8 1001 from t1] at this; exact this)
  have c3 := conc_sym_knd (by have := hs.ts 3; rw [show ev (setT (preState' stack) ts).ts (.tmp 3) = vi .i64 1003 from t3] at this; exact this)
  have v2 := @w_at I _ _ _ _ _ hs 2 _ _ t2 rfl
  have v9 := @w_at I _ _ _ _ _ hs 9 _ _ t9 (conc_i64 h9 (by omega))
  have v12 := @w_at I _ _ _ _ _ hs 12 _ _ t12 rfl
  have v42 := @w_at I _ _ _ _ _ hs 42 _ _ t42 rfl
  have v43 := @w_at I _ _ _ _ _ hs 43 _ _ t43 rfl
  have hM' : mState (ctx []).P.globals.size 35 121 (twHeap (twKind stack) none) (tsOf 121 [(11, .ptr 15 0)]) (setT (preState' stack) ts) = some M := by
    show mState Tryz.prog.globals.size _ _ _ _ _ = _
    rw [e4]; exact hM
  obtain ⟨m1, m2⟩ := match_sound (I := I) (φ := φ) (dv := fun _ => undef) (C := ctx []) hM' (by show Tryz.prog.globals.size ≤ 35; rw [e4]; omega) (tsOf_none (by rfl)) hs
  have hv9 := opq2_var (dv := fun _ => undef) (isV_spec hV) (conc_i64 (φ := φ) h9 (by omega))
  obtain ⟨I2, hI2⟩ : ∃ I2 : Opq, I2 = opq2 I φ M (fun _ => undef) := ⟨_, rfl⟩
  rw [← hI2] at m1 hv9
  obtain ⟨φ2, hφ2⟩ : ∃ φ2, φ2 = phi2 (ctx []).P.globals.size 35 φ M := ⟨_, rfl⟩
  rw [← hφ2] at m1 m2
  have hrep := rep_agree (I := I2) (p := pj) (f := fj a.tmps lv m) (nv_heap pj (twKind stack) none ⟨rfl, rfl, fun j hj => by simp [pj]; omega⟩ (fun n h => by cases h)) m1.rep
  have hsize : a.tmps.size = 121 := m1.nt
  have h11 : @conc I2.toSg φ2 (.ptr 15 0) = some (a.tmps.getD 11 undef) := by
    have := m1.ts 11
    rw [ts11] at this
    exact this
  refine ⟨none, (fun n h => by cases h), reI I2 pj (fj a.tmps lv m), φ2, hv9, rfl, rfl, rfl, ?_, ?_⟩
  · refine @st_tw (reI I2 pj (fj a.tmps lv m)) _ _ _ stack none (@St.mk (reI I2 pj (fj a.tmps lv m)) _ _ _ _ _ hrep ?_ ?_ hsize)
    · refine @tsOf_rel (reI I2 pj (fj a.tmps lv m)) _ _ _ _ hsize (fun j hj => ?_) ?_
      · show (bif pj j then fj a.tmps lv m j else I2.var j) = _
        rw [show pj j = true by simp [pj, hj]]
        simp only [cond_true, fj, if_pos hj]
      · intro q hq
        simp only [twTs, List.mem_cons, List.not_mem_nil, or_false] at hq
        rcases hq with rfl | rfl | rfl | rfl | rfl | rfl | rfl | rfl | rfl | rfl
        · exact @conc_var (reI I2 pj (fj a.tmps lv m)) φ2 .any 1000 _ rfl trivial
        · exact @conc_var (reI I2 pj (fj a.tmps lv m)) φ2 (.int .u8) 1001 _ rfl c1
        · exact (congrArg some v2).symm
        · exact @conc_var (reI I2 pj (fj a.tmps lv m)) φ2 (.int .i64) 1003 _ rfl c3
        · rw [show a.tmps.getD 9 undef = .int .i64 T from v9]
          exact @conc_i64 (reI I2 pj (fj a.tmps lv m)) _ _ _ hv9 (by omega)
        · rw [← h11]; exact conc_agree rfl
        · exact (congrArg some v12).symm
        · exact (@conc_var (reI I2 pj (fj a.tmps lv m)) φ2 .any 1041 lv rfl trivial).trans (congrArg some t41).symm
        · rw [show a.tmps.getD 42 undef = .int .i64 m from v42]
          exact @conc_i64 (reI I2 pj (fj a.tmps lv m)) _ _ _ rfl (by omega)
        · rw [show a.tmps.getD 43 undef = .int .i64 0 from v43]
          exact @conc_i64 (reI I2 pj (fj a.tmps lv m)) _ _ 0 rfl (by omega)
    · show @DsRel (reI I2 pj (fj a.tmps lv m)) φ2 [] a.defers
      have h1 : @DsRel I2 φ2 [] a.defers := m1.ds
      cases hl : a.defers with
      | nil => trivial
      | cons d l => rw [hl] at h1; exact h1.elim
  · exact hfr.trans (frm_tw stack none m2)

theorem headS_run (stack : Bool) {len cap : Nat} (h : len ≤ cap) [Opq] : exec (ctx []) (env []) false 1000 (comp Tryz.prog headR) (setT (preState' stack) ((tsOf 121 (preTs stack)).put 0 (some (.slice 35 0 len cap false)))) = some (.normal, setT (preState' stack) (hTs stack len cap)) := by
  rw [headR_eq]
  simp only [exec]
  rw [head_run rfl (T.get_put_same ..) h]
  rfl
theorem headN_run (stack : Bool) : exec (ctx []) (env []) false 1000 (comp Tryz.prog headR) (setT (preState' stack) ((tsOf 121 (preTs stack)).put 0 (some .nilslice))) = some (.normal, setT (preState' stack) (hTsN stack)) := by kernel_rfl

theorem pre_tmp0 (stack : Bool) : ev (tsOf 121 (preTs stack)) (.tmp 0) = va .any 1000 := by kernel_rfl

set_option maxRecDepth 100000 in
/-- the argument, said in other words -/
theorem say0 [Opq] {stack : Bool} {φ : Inj} {w : World} {a : Act} (hs : St (ctx []) φ (preState stack) w a) (t : Nat × Nat × Nat) {v : AV} {lv : Value} (h0 : Sg.var 1000 = lv) (hv : conc (φ.set 35 t) v = some lv) :
    St (ctx []) (φ.set 35 t) (setT (preState' stack) ((tsOf 121 (preTs stack)).put 0 (some v))) w a ∧ Frm φ (preState stack).h w (φ.set 35 t) (preState' stack).h w := by
  obtain ⟨h1, h2⟩ := hs.name t
  have e : a.eval (.tmp 0) = lv := hs.at 0 (pre_tmp0 stack) (conc_var h0 trivial)
  exact ⟨St.say h1 (hv.trans (congrArg some e.symm)), h2⟩

section
variable {stack : Bool} {len cap : Nat}
theorem s1 : ev (hTs stack len cap) (.tmp 1) = vi .u8 1001 := by kernel_rfl
theorem s2 : ev (hTs stack len cap) (.tmp 2) = .bool stack := by kernel_rfl
theorem s3 : ev (hTs stack len cap) (.tmp 3) = vi .i64 1003 := by kernel_rfl
theorem s9 : ev (hTs stack len cap) (.tmp 9) = vi .i64 1009 := by kernel_rfl
theorem s12 : ev (hTs stack len cap) (.tmp 12) = .nilslice := by kernel_rfl
theorem s41 : ev (hTs stack len cap) (.tmp 41) = .slice 35 0 (min len 40) cap false := by kernel_rfl
theorem s42 : ev (hTs stack len cap) (.tmp 42) = i64 (min len 40 : Nat) := by kernel_rfl
theorem s43 : ev (hTs stack len cap) (.tmp 43) = i64 0 := by kernel_rfl
theorem n1 : ev (hTsN stack) (.tmp 1) = vi .u8 1001 := by kernel_rfl
theorem n2 : ev (hTsN stack) (.tmp 2) = .bool stack := by kernel_rfl
theorem n3 : ev (hTsN stack) (.tmp 3) = vi .i64 1003 := by kernel_rfl
theorem n9 : ev (hTsN stack) (.tmp 9) = vi .i64 1009 := by kernel_rfl
theorem n12 : ev (hTsN stack) (.tmp 12) = .nilslice := by kernel_rfl
theorem n41 : ev (hTsN stack) (.tmp 41) = .nilslice := by kernel_rfl
theorem n42 : ev (hTsN stack) (.tmp 42) = i64 (0 : Nat) := by kernel_rfl
theorem n43 : ev (hTsN stack) (.tmp 43) = i64 0 := by kernel_rfl
end

theorem head_s {stack : Bool} {T B o len cap : Nat} {w0 w : World} {a : Act} {I : Opq} {φ : Inj} (hs : @St I (ctx []) φ (preState stack) w a) (hfr : Frm (phi0 15) .leaf w0 φ (preState stack).h w) (h0 : I.var 1000 = .slice (some ⟨B, o, none⟩) len cap) (hlc : len ≤ cap)
    (h9 : I.var 1009 = .int .i64 T) (hT : T ≤ 5) : headR.wpIn (FW none) 0 Tryz.prog (fun e a' w' => e = .normal ∧ Inv stack T (min len 40) (.slice (some ⟨B, o, none⟩) (min len 40) cap) w0 0 a' w') a w := by
  obtain ⟨k1, k2⟩ := say0 hs (B, o, 0) (v := .slice 35 0 len cap false) h0 (by simp only [conc, Inj.set_same]; rfl)
  refine w_exec' no_facts (headS_run stack hlc) k1 fun φ1 a1 w1 p1 g1 => ?_
  have e35 : φ1 35 = some (B, o, 0) := (g1.ext 35 (by show 35 < 36; omega)).trans (Inj.set_same ..)
  have t41 : a1.eval (.tmp 41) = .slice (some ⟨B, o, none⟩) (min len 40) cap := @w_at I _ _ _ _ _ p1 41 _ _ s41 (by simp only [conc, e35]; rfl)
  exact ⟨rfl, start (by omega) (mid_s stack len cap) h9 hT p1 ((hfr.trans k2).trans g1.frm) s1 s2 s3 s9 s12 s42 s43 t41⟩

theorem head_n {stack : Bool} {T : Nat} {w0 w : World} {a : Act} {I : Opq} {φ : Inj} (hs : @St I (ctx []) φ (preState stack) w a) (hfr : Frm (phi0 15) .leaf w0 φ (preState stack).h w) (h0 : I.var 1000 = .slice none 0 0)
    (h9 : I.var 1009 = .int .i64 T) (hT : T ≤ 5) : headR.wpIn (FW none) 0 Tryz.prog (fun e a' w' => e = .normal ∧ Inv stack T 0 (.slice none 0 0) w0 0 a' w') a w := by
  obtain ⟨k1, k2⟩ := say0 hs (0, 0, 0) (v := .nilslice) h0 rfl
  refine w_exec' no_facts (headN_run stack) k1 fun φ1 a1 w1 p1 g1 => ?_
  have t41 : a1.eval (.tmp 41) = .slice none 0 0 := @w_at I _ _ _ _ _ p1 41 _ _ n41 rfl
  exact ⟨rfl, start (by omega) (mid_n stack) h9 hT p1 ((hfr.trans k2).trans g1.frm) n1 n2 n3 n9 n12 n42 n43 t41⟩

/-- from the loop's head to the end -/
theorem loop_wp {stack : Bool} {w0 w : World} {a : Act} {k : Nat} (h : Code.roundsIn (FW none) 0 Tryz.prog loopB (fun e a w => e = .exit 0 ∧ Fin stack w0 a w) k a w) :
    (Code.block 0 (.loop loopB)).wpIn (FW none) 0 Tryz.prog (Exit.then (restR.wpIn (FW none) 0 Tryz.prog (QF w0)) (QF w0)) a w := by
  refine wpIn_block (wpIn_mono (wpIn_loop_rounds k h) fun e a1 w1 h1 => ?_)
  obtain ⟨rfl, hf⟩ := h1
  exact rest_wp hf

/-- what the first argument is -/
def ArgOk (w0 : World) (lv : Value) : Prop :=
  lv = .slice none 0 0 ∨ ∃ B o len cap f, lv = .slice (some ⟨B, o, none⟩) len cap ∧ len ≤ cap ∧ Acts w0 B o len f

theorem tail_wp {stack : Bool} {T : Nat} {w0 w : World} {a : Act} {I : Opq} {φ : Inj} {lv : Value} (hlv : ArgOk w0 lv) (hs : @St I (ctx []) φ (preState stack) w a) (hfr : Frm (phi0 15) .leaf w0 φ (preState stack).h w) (h0 : I.var 1000 = lv)
    (h9 : I.var 1009 = .int .i64 T) (hT : T ≤ 5) (hT1 : 1 ≤ T) : (suff 7 body).wpIn (FW none) 0 Tryz.prog (QF w0) a w := by
  rewrite [suff7]
  refine wpIn_seq (wpIn_seq ?_)
  rcases hlv with rfl | ⟨B, o, len, cap, f, rfl, hlc, hA⟩
  · refine wpIn_mono (head_n hs hfr h0 h9 hT) fun e a1 w1 h => ?_
    obtain ⟨rfl, h⟩ := h
    exact loop_wp (rounds0 h)
  · refine wpIn_mono (head_s hs hfr h0 hlc h9 hT) fun e a1 w1 h => ?_
    obtain ⟨rfl, h⟩ := h
    have hA' : Acts w0 B o (min len 40) f := by
      refine ⟨fun hp => ?_, fun i j hi hj => hA.rng i j (by omega) hj⟩
      obtain ⟨cs, el, fr, h1, h2⟩ := hA.blk (by omega)
      exact ⟨cs, el, fr, h1, fun i j hi hj => h2 i j (by omega) hj⟩
    exact loop_wp (rounds hA' hT hT1 (by omega) (min len 40) 0 a1 w1 (by omega) h)
end Go.Ax.TW

/- TopWaits: every call. -/
namespace Go.Ax.TW
open Go.Proofs

theorem pre_spec {stack : Bool} {t : Nat} (h : pre1 stack t = true) : ∃ s1 M, execNd (ctx (preFacts t)) (env (preFacts t)) 1000 7 body (s0 stack) = some (.normal, s1) ∧
    mState 15 35 121 (twHeap (twKind stack) none) (tsOf 121 (preTs stack)) s1 = some M ∧ isV M 1009 (i64 (t + 1)) = true ∧ isV M 1000 (va .any 1000) = true := by
  unfold pre1 at h
  split at h
  · rename_i s1 hs1
    split at h
    · rename_i M hM
      simp only [Bool.and_eq_true] at h
      unfold preS at hs1
      split at hs1
      · rename_i s1' h1
        cases hs1
        exact ⟨s1, M, h1, hM, h.1, h.2.1⟩
      · cases hs1
    · cases h
  · cases h

def v0 (lv : Value) (k e : Int) (i : Nat) : Value := if i = 1000 then lv else if i = 1001 then .int .u8 k else if i = 1003 then .int .i64 e else undef

theorem i64_can (n : Int) (h : -(2 ^ 63) ≤ n ∧ n < 2 ^ 63) : IntKind.i64.wrap n = n := by
  rw [wrap_range]; simp only [IntKind.min, IntKind.max, IntKind.signed, IntKind.bits, if_true]; omega

theorem w_body [Opq] {args : Array Value} {w : World} {R : Ending → World → Prop}
    (h : body.wpIn (FW none) 0 Tryz.prog (fun e a w => (match e with | .normal => True | .ret => True | _ => False) ∧ a.defers = [] ∧ ∃ v, (results Tryz.f4 a.tmps).run Tryz.prog w = .ok v w ∧ R (.returned v) w)
      { tmps := args ++ Array.replicate (Tryz.f4.ntmps - args.size) undef, defers := [] } w) : Calls Tryz.prog 4 args w R :=
  body_calls (C := ctx []) no_facts Tryz.func4 f4_body h

theorem f4_n : Tryz.f4.ntmps = 121 := by kernel_rfl

theorem st0 [Opq] {lv : Value} {k e : Int} {stack : Bool} {w0 : World} (hk : 0 ≤ k ∧ k < 256) (he : IntKind.i64.wrap e = e) (h0 : Sg.var 1000 = lv) (h1 : Sg.var 1001 = .int .u8 k) (h3 : Sg.var 1003 = .int .i64 e) :
    St (ctx []) (phi0 15) (s0 stack) w0 { tmps := #[lv, .int .u8 k, .bool stack, .int .i64 e] ++ Array.replicate (Tryz.f4.ntmps - 4) undef, defers := [] } := by
  have ha : concL (phi0 15) [va .any 1000, vi .u8 1001, .bool stack, vi .i64 1003] = some [lv, .int .u8 k, .bool stack, .int .i64 e] :=
    concL_cons_mk (conc_var h0 trivial) (concL_cons_mk (conc_u8 h1 hk) (concL_cons_mk rfl (concL_cons_mk (conc_var h3 ⟨e, rfl, he⟩) rfl)))
  have hr : Rep (ctx []).P (phi0 15) .leaf 15 w0 := by
    have := rep0 (P := Tryz.prog) w0
    rw [e4] at this
    exact this
  exact ⟨hr, args_ts ha _, trivial, by rw [f4_n]; simp [s0]⟩

theorem tw_calls {lv : Value} {k e : Int} {stack : Bool} {w0 : World} (hlv : ArgOk w0 lv) (hk : 0 ≤ k ∧ k < 256) (he : IntKind.i64.wrap e = e) :
    Calls Tryz.prog 4 #[lv, .int .u8 k, .bool stack, .int .i64 e] w0 (Told w0) := by
  obtain ⟨I, hI⟩ : ∃ I : Opq, I = opqOf (v0 lv k e) := ⟨_, rfl⟩
  have h0 : I.var 1000 = lv := by rw [hI]; rfl
  have h1 : I.var 1001 = .int .u8 k := by rw [hI]; rfl
  have h3 : I.var 1003 = .int .i64 e := by rw [hI]; rfl
  clear hI
  refine w_body (R := Told w0) ?_
  have hs := st0 (stack := stack) (w0 := w0) hk he h0 h1 h3
  obtain ⟨t, ht⟩ : ∃ t : Nat, (t : Int) = k.tmod 5 := ⟨(k.tmod 5).toNat, by rw [Int.toNat_of_nonneg (Int.tmod_nonneg _ hk.1)]⟩
  have ht5 : t < 5 := by
    have := Int.tmod_lt_of_pos k (show (0 : Int) < 5 by omega)
    omega
  have hE : ∀ φ, conc φ twEng = some (.int .i64 ((e.tmod 3 + 3).tmod 3)) := fun φ => by
    have l1 : -3 < e.tmod 3 ∧ e.tmod 3 < 3 := by
      have := Int.tmod_lt_of_pos e (show (0 : Int) < 3 by omega)
      have h2 : -3 < e.tmod 3 := by
        rcases Int.le_total 0 e with h | h
        · have := Int.tmod_nonneg 3 h; omega
        · have h3 := Int.tmod_lt_of_pos (-e) (show (0 : Int) < 3 by omega)
          rw [Int.neg_tmod] at h3
          omega
      exact ⟨h2, this⟩
    have c1 := conc_rem (φ := φ) (k := .i64) (conc_var (φ := φ) (k := .int .i64) h3 ⟨e, rfl, he⟩) (y := i64 3) rfl he (by omega)
    have c2 := conc_add c1 (y := i64 3) rfl
    rw [i64_can (e.tmod 3 + 3) (by omega)] at c2
    exact conc_rem c2 (y := i64 3) rfl (i64_can _ (by omega)) (by omega)
  have hE2 : 0 ≤ (e.tmod 3 + 3).tmod 3 ∧ (e.tmod 3 + 3).tmod 3 < 3 := by
    refine ⟨Int.tmod_nonneg _ ?_, Int.tmod_lt_of_pos _ (by omega)⟩
    rcases Int.le_total 0 e with h | h
    · have := Int.tmod_nonneg 3 h; omega
    · have h3 := Int.tmod_lt_of_pos (-e) (show (0 : Int) < 3 by omega)
      rw [Int.neg_tmod] at h3
      omega
  have hC : (ctx (preFacts t)).Ok := ctx_ok fun p hp φ v h => by
    simp only [preFacts, List.mem_cons, List.not_mem_nil, or_false] at hp
    rcases hp with rfl | rfl | rfl
    · refine fact_mk (u := .bool false) (fun φ => ?_) (fun φ => rfl) φ v h
      have := conc_lss (hE φ) (y := i64 0) rfl
      rwa [show decide ((e.tmod 3 + 3).tmod 3 < 0) = false from decide_eq_false (by omega)] at this
    · refine fact_mk (u := .bool false) (fun φ => ?_) (fun φ => rfl) φ v h
      have := conc_gtr (hE φ) (y := i64 2) rfl
      rwa [show decide ((e.tmod 3 + 3).tmod 3 > 2) = false from decide_eq_false (by omega)] at this
    · refine fact_mk (u := .int .i64 t) (fun φ => ?_) (fun φ => rfl) φ v h
      have c1 := conc_conv (φ := φ) (k' := .i64) (conc_u8 h1 hk)
      rw [i64_can k (by omega)] at c1
      have c2 := conc_rem c1 (y := i64 5) rfl (i64_can k (by omega)) (by omega)
      rwa [← ht] at c2
  obtain ⟨s1, M, hrun, hM, hV, hV0⟩ := pre_spec (pre_all stack t ht5)
  refine w_execNd hC hrun hs fun φ1 a1 w1 p1 g1 => ?_
  have hM' : mState (ctx []).P.globals.size 35 121 (twHeap (twKind stack) none) (tsOf 121 (preTs stack)) s1 = some M := by
    show mState Tryz.prog.globals.size _ _ _ _ _ = _
    rw [e4]; exact hM
  obtain ⟨m1, m2⟩ := match_sound (I := I) (φ := φ1) (dv := fun _ => undef) (C := ctx []) hM' (by show Tryz.prog.globals.size ≤ 35; rw [e4]; omega) (tsOf_none (by cases stack <;> rfl)) p1
  refine tail_wp (T := t + 1) hlv m1 (g1.trans m2) (opq2_var (isV_spec hV0) (conc_var h0 trivial)) ?_ (by omega) (by omega)
  rw [opq2_var (isV_spec hV) (show conc φ1 (i64 (t + 1)) = some (.int .i64 (t + 1)) from rfl)]
  rfl
end Go.Ax.TW

/- TopWaits: the first argument. -/
namespace Go.Ax.TW
open Go.Proofs Go.Deep Go.Joins

theorem cell_row {w : World} {B off : Nat} {v : Value} (h : w.cell? ⟨B, off, none⟩ = some v) : ∃ cs el fr, w.heap[B]? = some (.cells cs el fr) ∧ cs[off]? = some v := by
  unfold World.cell? at h
  simp only at h
  split at h
  · rename_i cs el fr hb
    exact ⟨cs, el, fr, hb, by simpa using h⟩
  · cases h

theorem c32 : Tryz.prog.cellsOf 32 = 4 := by kernel_rfl
theorem c5 : Tryz.prog.cellsOf 5 = 1 := by kernel_rfl

theorem wf_u8 {z : Int} (h : (Lit.int .u8 z).wf = true) : 0 ≤ z ∧ z < 256 := by
  simp [Lit.wf, IntKind.min, IntKind.max, IntKind.signed, IntKind.bits] at h
  omega

theorem act_cells {H : Type} {enc : TypeId × Value → H} {W : World} {x : Addr} {n : Nat} {y : DataW H × List MemPlace} {cs : List Value} (h1 : W.cells? 0 x 4 = some cs) (h2 : DataW.trod enc Tryz.prog W 0 (fun _ => true) true n 32 cs = some y) :
    ∀ j, j < 4 → ∃ z : Int, W.cell? (x.add j) = some (.int .u8 z) ∧ 0 ≤ z ∧ z < 256 := by
  obtain ⟨_, hlen, hget⟩ := World.cells?_some h1
  obtain ⟨y0, y1, y2, y3, n', _, _, k0, k1, k2, k3⟩ := trod_struct4 Tryz.underlying32 h2
  simp only [c5] at k0 k1 k2 k3
  match cs, hlen, hget, k0, k1, k2, k3 with
  | [c0, c1, c2, c3], _, hget, k0, k1, k2, k3 =>
    obtain ⟨z0, e0, _, w0⟩ := DataW.trod_int Tryz.underlying5 k0
    obtain ⟨z1, e1, _, w1⟩ := DataW.trod_int Tryz.underlying5 k1
    obtain ⟨z2, e2, _, w2⟩ := DataW.trod_int Tryz.underlying5 k2
    obtain ⟨z3, e3, _, w3⟩ := DataW.trod_int Tryz.underlying5 k3
    simp at e0 e1 e2 e3
    subst e0; subst e1; subst e2; subst e3
    intro j hj
    match j, hj with
    | 0, _ => exact ⟨z0, hget 0 (by omega), wf_u8 w0⟩
    | 1, _ => exact ⟨z1, hget 1 (by omega), wf_u8 w1⟩
    | 2, _ => exact ⟨z2, hget 2 (by omega), wf_u8 w2⟩
    | 3, _ => exact ⟨z3, hget 3 (by omega), wf_u8 w3⟩

def cellN (W : World) (B o : Nat) (i j : Nat) : Int := match W.cell? ⟨B, o + i * 4 + j, none⟩ with
  | some (.int _ z) => z
  | _ => 0

set_option maxRecDepth 100000 in
theorem argOk_of {H : Type} {enc : TypeId × Value → H} {W : World} {base : Nat} {lv : Value} {d : DataW H} {p : List MemPlace} (hval : Value.okWide Tryz.prog W .any base 22 lv)
    (h0 : DataW.Trod enc Tryz.prog W 0 (fun _ => true) true 22 lv d p) : ArgOk W lv := by
  obtain ⟨a, len, cap, rfl⟩ := Go.WideShapes.okWide_slice Tryz.underlying22 hval
  obtain ⟨fuel, hf⟩ := h0
  simp only [Value.cells] at hf
  have hspot : ∀ x, a = some x → x.spot = none := by
    intro x hx
    subst hx
    unfold Value.okWide at hval
    rw [Tryz.underlying22] at hval
    simp only [Cell.okWide, Cell.ok, Tryz.underlying22] at hval
    exact hval.2.2.2.1
  rcases open_slice Tryz.underlying22 hf with ⟨hcs, _⟩ | ⟨x, l, c, m, n, D, Pl, hcs, _, hl, hm, hmm, _, hx⟩
  · simp at hcs
    obtain ⟨rfl, rfl, rfl⟩ := hcs
    exact .inl rfl
  · simp at hcs
    obtain ⟨rfl, rfl, rfl⟩ := hcs
    obtain ⟨B, o, spot⟩ := x
    have := hspot _ rfl
    simp only at this
    subst this
    have hm' : m = cap := by rw [hmm]; rfl
    have key : ∀ i j, i < len → j < 4 → W.cell? ⟨B, o + i * 4 + j, none⟩ = some (.int .u8 (cellN W B o i j)) ∧ 0 ≤ cellN W B o i j ∧ cellN W B o i j < 256 := by
      intro i j hi hj
      obtain ⟨cs', hc1, hc2⟩ := hx i (by omega)
      rw [c32] at hc1
      obtain ⟨z, hz, hr⟩ := act_cells hc1 hc2 j hj
      rw [addr_add, addr_add] at hz
      have e : cellN W B o i j = z := by unfold cellN; rw [hz]
      rw [e]
      exact ⟨hz, hr⟩
    refine .inr ⟨B, o, len, cap, cellN W B o, rfl, hl, ⟨fun hp => ?_, fun i j hi hj => (key i j hi hj).2⟩⟩
    obtain ⟨cs, el, fr, hb, _⟩ := cell_row (key 0 0 hp (by omega)).1
    refine ⟨cs, el, fr, hb, fun i j hi hj => ?_⟩
    obtain ⟨cs2, el2, fr2, hb2, hc2⟩ := cell_row (key i j hi hj).1
    rw [hb] at hb2
    cases hb2
    exact hc2
end Go.Ax.TW

