/- A part of the proof of TopWaits: see the last text of the claim. -/
import Derived.Test.YtflfeegpkckneaaGreatDoorProg
import Derived.KernelRfl
import Derived.Test.YtflfeegpkckneaaGreatDoorAx1
import Derived.Test.YtflfeegpkckneaaGreatDoorAx12
set_option linter.unusedSectionVars false
set_option linter.unusedSimpArgs false
set_option linter.unusedVariables false
/- TopWaits: definitions. -/
namespace Go.Ax.TW
open Go.Proofs
def bodies : Nat := 2630067970221413958524884373509727610463619762102005571076351504287717396805577557801574312666478022469541309029141395358793910518940905291588605226759386831855184967553826982725125200196043603726273612026478588
noncomputable def ctx (facts : List (AV × AV)) : Ctx := { P := Tryz.prog, bodies := bodies, ext := fun _ => none, facts := facts }
/-- awake is known -/
def sumsA : FuncId → Option (List AV → Heap → Nat → Option (AV × Heap × Nat)) := fun f => bif Nat.beq f 38 then some (fun args h nx => match args with | [] => some (.bool true, h, nx) | _ => none) else none
noncomputable def env (facts : List (AV × AV)) : Env := call (ctx facts) sumsA 1000 100
def va (k : Knd) (i : Nat) : AV := .sym k (.var i) []
def vi (k : IntKind) (i : Nat) : AV := va (.int k) i
def i64 (n : Int) : AV := .int .i64 n
def bn (k : Knd) (op : BinOp) (x y : AV) : AV := .sym k (.bin op) [x, y]
def twEng : AV := bn (.int .i64) .rem (bn (.int .i64) .add (bn (.int .i64) .rem (vi .i64 1003) (i64 3)) (i64 3)) (i64 3)
def twByte (j : Nat) : AV := vi .u8 (1010 + j)
def twBytes : Nat → Nat → List AV
  | _, 0 => []
  | j, n + 1 => twByte j :: twBytes (j + 1) n
def twStrs : Nat → Nat → List AV
  | _, 0 => []
  | j, n + 1 => .sstr [twByte j] :: twStrs (j + 1) n
/-- the kernel and the list; n: how many values; none: never one -/
def twHeap (kind : Int) (n : Option Nat) : List (Nat × AObj) :=
  [(15, .cells [.ptr 16 0] 88 none),
   (16, .cells [.ptr 17 0] 122 none),
   (17, .cells [i64 1, vi .i64 1004, .ptr 18 0, .ptr 19 0, .map 20, .map 21, .map 22, .slice 23 0 1 1 true, .nilslice, .nilslice, .int .u64 0, .nilslice, i64 0, i64 0, i64 0, .nilslice] 162 none),
   (18, .cells [.map 24, i64 0, i64 0] 251 none),
   (19, .cells [.map 25, .map 26, .map 27, .map 28, .map 29, i64 1] 268 none),
   (20, .map [(i64 1, .ptr 30 0, 0)] 1),
   (21, .map [] 0),
   (22, .map [] 0),
   (23, .cells [.ptr 31 0] 184 (some 1)),
   (24, .map [] 0),
   (25, .map [(i64 1, i64 1, 0)] 1),
   (26, .map [(i64 1, i64 1, 0)] 1),
   (27, .map [] 0),
   (28, .map [(i64 0, i64 1, 0)] 1),
   (29, .map [] 0),
   (30, .cells [i64 1, i64 1, i64 0, .nilslice, .nilslice] 174 none),
   (31, .cells [i64 kind, i64 0, i64 1, vi .i64 1009, .iface 315 (.ptr 32 0), .bool false] 255 none),
   (32, .cells [i64 kind, i64 0, i64 1, vi .i64 1009, match n with | none => .nilslice | some n => .slice 33 0 n n (n != 0)] 453 none)] ++
  match n with
  | none => []
  | some n => [(33, .cells (twStrs 0 n) 9 (bif n == 0 then none else some 1)), (34, .cells (twBytes 0 n) 5 (some 1))]
def twTs (stack : Bool) (n : Option Nat) : List (Nat × AV) :=
  [(0, va .any 1000), (1, vi .u8 1001), (2, .bool stack), (3, vi .i64 1003), (9, vi .i64 1009), (11, .ptr 15 0),
   (12, match n with | none => .nilslice | some n => .slice 34 0 n n true), (41, va .any 1041), (42, vi .i64 1042), (43, vi .i64 1043)]
def twKind (stack : Bool) : Int := bif stack then 23 else 22
def twState (stack : Bool) (n : Option Nat) : AS := { nt := 121, ts := tsOf 121 (twTs stack n), ds := [], h := mkHeap (twHeap (twKind stack) n), nx := 35 }
/-- behind the reading of the next act -/
def twIn (stack : Bool) (n : Option Nat) : AS := let s := twState stack n
  { s with ts := putAll [(44, .bool true), (45, va .any 2010), (46, .agg [vi .u8 2000, vi .u8 2001, vi .u8 2002, vi .u8 2003])] s.ts }
def twMod (i : Nat) (m : Int) : AV := bn (.int .u8) .rem (vi .u8 i) (.int .u8 m)
/-- what is known: is it a push; its flag; is the queue full -/
def twFacts (push : Bool) (flag : Nat) (n : Nat) (full : Bool) : List (AV × AV) :=
  (bn .bool .lss (twMod 2000 5) (.int .u8 3), .bool push) :: (bn .bool .eql (i64 n) (vi .i64 1009), .bool full) :: (bif push then [(twMod 2003 3, .int .u8 flag)] else [])
noncomputable def body : Code := match Tryz.prog.funcs[4]? with | some fn => (match fn.body with | some c => c | none => .skip) | none => .skip
noncomputable def loopB : Code := inner (inner (snd1 (fst1 (suff 7 body))))
noncomputable def blk : Code := fst1 (suff 2 loopB)
noncomputable def bd : Code := inner blk
noncomputable def incr : Code := suff 3 loopB
def twNext (push : Bool) (flag n : Nat) (full : Bool) (nil : Bool) : Option Nat :=
  bif push then (bif Nat.beq flag 1 then (bif nil then none else some n) else bif full then some n else some (n+1)) else bif nil then none else some (n - 1)
def no (nil : Bool) (n : Nat) : Option Nat := bif nil then none else some n
def isV (M : MS) (i : Nat) (v : AV) : Bool := match M.θ.get i with | some u => AV.beq u v | none => false
def noVs (M : MS) : List Nat → Bool
  | [] => true
  | i :: l => (match M.θ.get i with | some _ => false | none => true) && noVs M l
def fresh : List Nat := [2000, 2001, 2002, 2003, 2010]
/-- what stays, and the next number -/
def thetaOk (M : MS) : Bool := isV M 1009 (vi .i64 1009) && (isV M 1041 (va .any 1041) && (isV M 1042 (vi .i64 1042) && (isV M 1043 (bn (.int .i64) .add (vi .i64 1043) (i64 1)) && noVs M fresh)))
noncomputable def runS (stack nil : Bool) (n : Nat) (push : Bool) (flag : Nat) (full : Bool) : Option AS :=
  match runTail (ctx (twFacts push flag n full)) (env (twFacts push flag n full)) 1000 2 bd (twIn stack (no nil n)) with
  | some (.normal, s1) => match exec (ctx (twFacts push flag n full)) (env (twFacts push flag n full)) false 1000 (comp Tryz.prog incr) s1 with
    | some (.normal, s2) => some s2
    | _ => none
  | _ => none
noncomputable def run1 (stack nil : Bool) (n : Nat) (push : Bool) (flag : Nat) (full : Bool) : Bool :=
  match runS stack nil n push flag full with
  | some s2 => match mState 15 35 121 (twHeap (twKind stack) (twNext push flag n full nil)) (tsOf 121 (twTs stack (twNext push flag n full nil))) s2 with
    | some M => thetaOk M
    | none => false
  | none => false
noncomputable def run2 (stack nil : Bool) (n : Nat) (full : Bool) : Bool :=
  run1 stack nil n false 0 full && (run1 stack nil n true 0 full && (run1 stack nil n true 1 full && run1 stack nil n true 2 full))
def preFacts (t : Nat) : List (AV × AV) := [(bn .bool .lss twEng (i64 0), .bool false), (bn .bool .gtr twEng (i64 2), .bool false), (bn (.int .i64) .rem (.sym (.int .i64) .conv [vi .u8 1001]) (i64 5), i64 t)]
def s0 (stack : Bool) : AS := { nt := 121, ts := argsT 0 [va .any 1000, vi .u8 1001, .bool stack, vi .i64 1003] .leaf, ds := [], h := .leaf, nx := 15 }
/-- up to the loop -/
noncomputable def preS (stack : Bool) (t : Nat) : Option AS :=
  match execNd (ctx (preFacts t)) (env (preFacts t)) 1000 7 body (s0 stack) with
  | some (.normal, s1) => some s1
  | _ => none
def preTs (stack : Bool) : List (Nat × AV) := [(0, va .any 1000), (1, vi .u8 1001), (2, .bool stack), (3, vi .i64 1003), (9, vi .i64 1009), (11, .ptr 15 0), (12, .nilslice)]
noncomputable def pre1 (stack : Bool) (t : Nat) : Bool :=
  match preS stack t with
  | some s1 => match mState 15 35 121 (twHeap (twKind stack) none) (tsOf 121 (preTs stack)) s1 with
    | some M => isV M 1009 (i64 (t + 1)) && (isV M 1000 (va .any 1000) && noVs M (1041 :: 1042 :: 1043 :: fresh))
    | none => false
  | none => false
end Go.Ax.TW

