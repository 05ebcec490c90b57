/- A part of the proof of TopWaits: see the last text of the claim. -/
import Derived.Test.YtflfeegpkckneaaGreatDoorAx1
set_option linter.unusedSectionVars false
set_option linter.unusedSimpArgs false
set_option linter.unusedVariables false
/- The abstract executor: one state said in other words: other names, values that are not given for those that were reckoned. -/
namespace Go.Ax

/-- where a name lies: the old name, how many cells further, does the old one's room count, how many elements more -/
structure NM where
  b : Nat
  δ : Nat
  ux : Bool
  κ : Nat
  deriving Inhabited

structure MS where
  ρ : T NM := .leaf
  θ : T AV := .leaf
  deriving Inhabited

def okKnd : Knd → AV → Bool
  | .any, _ => true
  | .int k, v => (match kndA v with | some (.int k') => decide (k = k') | _ => false) && canonA v
  | .bool, v => match kndA v with | some .bool => true | _ => false
  | .one, v => flatAV v
  | .str, v => match v with
    | .str _ => true
    | .sstr _ => true
    | .sym .str _ _ => true
    | _ => false

def roomOk (r : NM) : Option (Bool × Nat) → Bool
  | some (u, k) => (r.ux == u) && Nat.beq r.κ k
  | none => true

def mN (g nx b o b' o' : Nat) (room : Option (Bool × Nat)) (m : MS) : Option MS :=
  bif Nat.blt b g then (bif Nat.beq b b' && (Nat.beq o o' && room.isNone) then some m else none)
  else bif Nat.blt b nx then match m.ρ.get b with
    | some r => bif Nat.beq r.b b' && (Nat.beq (o + r.δ) o' && roomOk r room) then some m else none
    | none => bif Nat.ble o o' then
        some { m with ρ := m.ρ.put b (some ⟨b', o' - o, (match room with | some (u, _) => u | none => true), (match room with | some (_, k) => k | none => 0)⟩) }
      else none
  else none

def varOf (f : SOp) (args : List AV) : Option Nat := match f, args with
  | .var i, [] => some i
  | _, _ => none

def mVar (k : Knd) (i : Nat) (v : AV) (m : MS) : Option MS :=
  bif okKnd k v then match m.θ.get i with
    | some u => bif AV.beq u v then some m else none
    | none => some { m with θ := m.θ.put i (some v) }
  else none

def isVar : SOp → Bool
  | .var _ => true
  | _ => false

def isYield : Fn → Bool
  | .yield _ => true
  | _ => false

mutual
def mV (g nx : Nat) : AV → AV → MS → Option MS
  | .sym k f args, v, m => match varOf f args with
    | some i => mVar k i v m
    | none => match v with
      | .sym k' f' args' => bif !isVar f && (decide (f = f') && decide (k = k')) then mL g nx args args' m else none
      | _ => none
  | .ptr b o, v, m => match v with
    | .ptr b' o' => mN g nx b o b' o' none m
    | _ => none
  | .slice b o len cap op, v, m => match v with
    | .slice b' o' len' cap' op' => bif Nat.beq len len' then
        match op with
        | false => bif Nat.beq cap cap' && !op' then mN g nx b o b' o' none m else none
        | true => bif Nat.ble cap cap' then mN g nx b o b' o' (some (op', cap' - cap)) m else none
      else none
    | _ => none
  | .map r, v, m => match v with
    | .map r' => mN g nx r 0 r' 0 none m
    | _ => none
  | .func fn a b, v, m => match v with
    | .func fn' a' b' => bif !isYield fn && decide (fn = fn') then (match mL g nx a a' m with | some m => mL g nx b b' m | none => none) else none
    | _ => none
  | .iface t x, v, m => match v with
    | .iface t' x' => bif Nat.beq t t' then mV g nx x x' m else none
    | _ => none
  | .agg l, v, m => match v with
    | .agg l' => mL g nx l l' m
    | _ => none
  | .tuple l, v, m => match v with
    | .tuple l' => mL g nx l l' m
    | _ => none
  | .sstr l, v, m => match v with
    | .sstr l' => mL g nx l l' m
    | .str s => mL g nx l (strBytes s) m
    | _ => none
  | .bool b, v, m => match v with | .bool b' => bif b == b' then some m else none | _ => none
  | .int k n, v, m => match v with | .int k' n' => bif decide (k = k') && decide (n = n') then some m else none | _ => none
  | .str s, v, m => match v with | .str s' => bif s == s' then some m else none | _ => none
  | .nilptr, v, m => match v with | .nilptr => some m | _ => none
  | .nilslice, v, m => match v with | .nilslice => some m | _ => none
  | .nilmap, v, m => match v with | .nilmap => some m | _ => none
  | .nilFunc, v, m => match v with | .nilFunc => some m | _ => none
  | .nilIface, v, m => match v with | .nilIface => some m | _ => none
def mL (g nx : Nat) : List AV → List AV → MS → Option MS
  | [], l, m => match l with | [] => some m | _ => none
  | p :: ps, l, m => match l with
    | v :: vs => match mV g nx p v m with
      | some m => mL g nx ps vs m
      | none => none
    | [] => none
end

def mE (g nx : Nat) : List (AV × AV × Nat) → List (AV × AV × Nat) → MS → Option MS
  | [], l, m => match l with | [] => some m | _ => none
  | (k, v, n) :: ps, l, m => match l with
    | (k', v', n') :: vs => bif Nat.beq n n' then
        match mV g nx k k' m with
        | some m => match mV g nx v v' m with
          | some m => mE g nx ps vs m
          | none => none
        | none => none
      else none
    | [] => none

/-- is there the room that is said? -/
def roomAt (op op' : Option Nat) (r : NM) (n n' : Nat) : Bool :=
  match op with
  | none => Nat.ble (r.δ + n) n'
  | some s => match op' with
    | some s' => Nat.beq s s' && Nat.ble (r.δ + n + r.κ * s) n'
    | none => !r.ux && (Nat.ble (r.δ + n + r.κ * s) n' && Nat.blt 0 n')

def mO (g nx : Nat) (o o' : AObj) (r : NM) (m : MS) : Option MS :=
  match o, o' with
  | .cells vs _ op, .cells vs' _ op' => bif roomAt op op' r vs.length vs'.length then
      match takeN vs.length (dropN r.δ vs') with
      | some us => mL g nx vs us m
      | none => none
    else none
  | .map es ck, .map es' ck' => bif Nat.beq ck ck' && Nat.beq r.δ 0 then mE g nx es es' m else none
  | _, _ => none

def mHeap (g nx : Nat) (h1 : Heap) : List (Nat × AObj) → MS → Option MS
  | [], m => some m
  | (b, o) :: l, m => bif Nat.ble g b && Nat.blt b nx then match m.ρ.get b with
    | none => none
    | some r => match h1.get r.b with
      | some o' => match mO g nx o o' r m with
        | some m' => mHeap g nx h1 l m'
        | none => none
      | none => none
    else none

def mTs (g nx : Nat) (ts2 ts1 : Tmps) : Nat → MS → Option MS
  | 0, m => some m
  | n + 1, m => match mTs g nx ts2 ts1 n m with
    | some m => mV g nx (ev ts2 (.tmp n)) (ev ts1 (.tmp n)) m
    | none => none

/-- different names lie in different old ones -/
def notIn (M : MS) (b : Nat) : List (Nat × AObj) → Bool
  | [] => true
  | (c, _) :: l => (match M.ρ.get c with | some r => !Nat.beq r.b b | none => false) && notIn M b l

def mInj (M : MS) : List (Nat × AObj) → Bool
  | [] => true
  | (c, _) :: l => (match M.ρ.get c with | some r => notIn M r.b l | none => false) && mInj M l

def mkHeap : List (Nat × AObj) → Heap
  | [] => .leaf
  | (b, o) :: l => (mkHeap l).put b (some o)

def tsFree (ts : Tmps) (nt : Nat) : Bool := match ts with
  | .leaf => true
  | .node _ _ _ => Nat.ble 0 nt

def mState (g nx nt : Nat) (hl : List (Nat × AObj)) (ts2 : Tmps) (s1 : AS) : Option MS :=
  bif Nat.beq s1.nt nt && s1.ds.isEmpty then
    match mTs g nx ts2 s1.ts nt {} with
    | some m => match mHeap g nx s1.h hl m with
      | some M => bif mInj M hl then some M else none
      | none => none
    | none => none
  else none


end Go.Ax

