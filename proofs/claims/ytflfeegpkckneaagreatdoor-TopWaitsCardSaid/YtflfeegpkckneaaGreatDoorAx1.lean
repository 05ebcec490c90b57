/- A part of the proof of TopWaits: see the last text of the claim. -/
import GoSem.Step
import Derived.RangeFuncLeaves
import Derived.OrdersIn
import Derived.Scope
import Derived.Laws.Cells
set_option linter.unusedSectionVars false
set_option linter.unusedSimpArgs false
set_option linter.unusedVariables false
/- The abstract executor: definitions. -/
namespace Go.Ax

/-! ### values -/
/-- what is known of a value that is not given -/
inductive Knd where
  | int (k : IntKind)
  | bool
  | str
  | one
  | any
  deriving DecidableEq, Inhabited

/-- what a value that is not given is: given from outside, or made of others -/
inductive SOp where
  | var (i : Nat)
  | app (i : Nat)
  | bin (op : BinOp)
  | un (op : UnOp)
  | conv
  deriving DecidableEq, Inhabited

inductive AV where
  | bool (b : Bool)
  | int (k : IntKind) (n : Int)
  | str (s : List UInt8)
  | nilptr
  | ptr (b o : Nat)
  | nilslice
  | slice (b o len cap : Nat) (op : Bool)
  | nilmap
  | map (r : Nat)
  | func (fn : Fn) (first captured : List AV)
  | nilFunc
  | iface (t : TypeId) (v : AV)
  | nilIface
  | agg (cells : List AV)
  | tuple (vs : List AV)
  | sym (k : Knd) (f : SOp) (args : List AV)
  | sstr (l : List AV)
  deriving Inhabited

def undefA : AV := .tuple []

def AV.cells : AV → List AV
  | .agg cs => cs
  | v => [v]

mutual
def AV.beq : AV → AV → Bool
  | .bool a, .bool b => a == b
  | .int k n, .int k' n' => decide (k = k') && decide (n = n')
  | .str a, .str b => a == b
  | .nilptr, .nilptr | .nilslice, .nilslice | .nilmap, .nilmap | .nilFunc, .nilFunc | .nilIface, .nilIface => true
  | .ptr b o, .ptr b' o' => Nat.beq b b' && Nat.beq o o'
  | .slice b o l c p, .slice b' o' l' c' p' => Nat.beq b b' && (Nat.beq o o' && (Nat.beq l l' && (Nat.beq c c' && p == p')))
  | .map r, .map r' => Nat.beq r r'
  | .func f a b, .func f' a' b' => decide (f = f') && (beqL a a' && beqL b b')
  | .iface t v, .iface t' v' => Nat.beq t t' && AV.beq v v'
  | .agg a, .agg b => beqL a b
  | .tuple a, .tuple b => beqL a b
  | .sym k f a, .sym k' f' a' => decide (f = f') && (decide (k = k') && beqL a a')
  | .sstr a, .sstr b => beqL a b
  | _, _ => false
def beqL : List AV → List AV → Bool
  | [], [] => true
  | a :: l, b :: m => AV.beq a b && beqL l m
  | _, _ => false
end

/-! ### finite maps with numbers as keys -/
inductive T (α : Type) where
  | leaf
  | node (l : T α) (v : Option α) (r : T α)
  deriving Inhabited

def T.get {α : Type} : T α → Nat → Option α
  | .leaf, _ => none
  | .node l v r, n => match n with
    | 0 => v
    | m + 1 => match m % 2 with
      | 0 => l.get (m / 2)
      | _ => r.get (m / 2)

def T.setF {α : Type} : Nat → T α → Nat → Option α → T α
  | 0, t, _, _ => t
  | f + 1, .leaf, n, x => match n with
    | 0 => .node .leaf x .leaf
    | m + 1 => match m % 2 with
      | 0 => .node (T.setF f .leaf (m / 2) x) none .leaf
      | _ => .node .leaf none (T.setF f .leaf (m / 2) x)
  | f + 1, .node l v r, n, x => match n with
    | 0 => .node l x r
    | m + 1 => match m % 2 with
      | 0 => .node (T.setF f l (m / 2) x) v r
      | _ => .node l v (T.setF f r (m / 2) x)

def T.put {α : Type} (t : T α) (n : Nat) (x : Option α) : T α := T.setF (n + 1) t n x

/-! ### memory -/
/-- a jump out of a round -/
inductive AJump where
  | ret
  | exit (id : Nat)
  deriving Inhabited

inductive AObj where
  /-- vs: the cells; elem: the row's element type; op: none: what lies behind is not used; some s: slices that end here may go on (elements of s cells). -/
  | cells (vs : List AV) (elem : TypeId) (op : Option Nat)
  | map (es : List (AV × AV × Nat)) (clock : Nat)
  | mapIter (m : Option Nat) (since : Nat) (seen : List Nat) (stepped : Nat)
  | strIter (s : List UInt8) (pos : Nat)
  /-- a range over a function: is a round going on; the jump that one left; what a round begins with -/
  | loop (ready : Bool) (jump : Option AJump) (nt : Nat) (ts : T AV) (params : List Nat) (assign body : Code)
  /-- the deferred calls of its rounds: none; taken: they were asked for -/
  | deferred (taken : Bool)
  /-- blocks that stand together for something: which kind of thing, what it is -/
  | opq (tag : Nat) (data : List AV)
  deriving Inhabited

abbrev Heap := T AObj
abbrev Tmps := T AV

/-! ### code -/
inductive Opd where
  | tmp (t : Nat)
  | const (v : AV)
  deriving Inhabited

inductive KeyKind where
  | int | string
  deriving Inhabited, DecidableEq

inductive AOp where
  -- quiet
  | mov (x : Opd)
  | pick (c a b : Opd)
  | build (zero : List AV) (parts : List (Nat × Nat × Opd))
  | load (agg : Bool) (n : Nat) (x : Opd)
  | nilCheck (x : Opd)
  | bin (op : BinOp) (t : TypeId) (x y : Opd)
  | un (op : UnOp) (x : Opd)
  | toInt (k : IntKind) (x : Opd)
  | toStr (x : Opd)
  | strOf (x : Opd)
  | iface (t : TypeId) (x : Opd)
  | func (fn : Fn) (first captured : List Opd)
  | sliceS (x : Opd) (lo hi : Option Opd)
  | sliceL (es : Nat) (x : Opd) (lo hi mx : Option Opd)
  | sliceA (n es : Nat) (x : Opd) (lo hi mx : Option Opd)
  | fieldAddr (off : Nat) (x : Opd)
  | field (agg : Bool) (off n : Nat) (x : Opd)
  | indexAddrA (len es : Nat) (x i : Opd)
  | indexAddrL (es : Nat) (x i : Opd)
  | indexA (agg : Bool) (len es : Nat) (x i : Opd)
  | indexS (x i : Opd)
  | lookup (kk : KeyKind) (zero : AV) (ok : Bool) (m k : Opd)
  | assert (t : TypeId) (ok : Bool) (zero : AV) (x : Opd)
  | extract (x : Opd) (i : Nat)
  | lenS (x : Opd)
  | lenL (x : Opd)
  | lenM (x : Opd)
  | lenA (n : Nat)
  | minmax (isMax : Bool) (x : Opd) (xs : List Opd)
  | s2a (n : Nat) (x : Opd)
  -- fresh
  | alloc (cells : List AV) (elem : TypeId)
  | box (elem : TypeId) (x : Opd)
  | buildSlice (elem : TypeId) (es len : Nat) (zero : List AV) (parts : List (Nat × Nat × Opd))
  | makeMap
  | makeSlice (elem : TypeId) (es bytes : Nat) (zero : List AV) (l c : Opd)
  | bytesOf (elem : TypeId) (x : Opd)
  | range (x : Opd)
  | rangeS (x : Opd)
  | append (elem : TypeId) (es bytes : Nat) (s x : Opd)
  -- loud
  | store (n : Nat) (a x : Opd)
  | mapUpdate (kk : KeyKind) (m k v : Opd)
  | delete (kk : KeyKind) (m k : Opd)
  | clearM (m : Opd)
  | copy (es : Nat) (d s : Opd)
  | next (it : Opd)
  | nextS (it : Opd)
  | entry (it : Opd)
  | callF (f : FuncId) (args : List Opd)
  | callV (x : Opd) (args : List Opd)
  | callI (x : Opd) (name : String) (args : List Opd)
  | defer (x : Opd) (args : List Opd)
  | bad
  deriving Inhabited

structure AOper where
  dst : Option Nat
  op : AOp
  guard : Option (Option Nat × Bool)
  anc : Nat
  deriving Inhabited

inductive ACode where
  | skip
  | region (ops : List AOper)
  | dregion (ops : List AOper)
  | seq (a b : ACode)
  | cond (c : Opd) (a b : ACode)
  | block (id : Nat) (c : ACode)
  | loop (c : ACode)
  | scope (c : ACode)
  | rangeFunc (f : Opd) (params : List Nat) (assign body : Code)
  | exit (id : Nat)
  | ret
  | bad
  deriving Inhabited

inductive ARes where
  | tmp (t : Nat)
  | cell (t : Nat) (agg : Bool) (n : Nat)
  deriving Inhabited

/-! ### from the program's code to this code -/
def optMap {α β : Type} (f : α → Option β) : List α → Option (List β)
  | [] => some []
  | a :: l => match f a with
    | some b => match optMap f l with
      | some bs => some (b :: bs)
      | none => none
    | none => none

/-- a value without addresses -/
def absV : Nat → Value → Option AV
  | 0, _ => none
  | n + 1, v => match v with
    | .bool b => some (.bool b)
    | .int k i => some (.int k i)
    | .string s => some (.str s.data.toList)
    | .pointer none => some .nilptr
    | .slice none 0 0 => some .nilslice
    | .map none => some .nilmap
    | .nilFunc => some .nilFunc
    | .nilIface => some .nilIface
    | .func (.yield _) _ _ => none
    | .func fn first captured => match optMap (absV n) first.toList, optMap (absV n) captured.toList with
      | some a, some b => some (.func fn a b)
      | _, _ => none
    | .iface t w => match absV n w with | some a => some (.iface t a) | none => none
    | .agg cs => match optMap (absV n) cs.toList with | some l => some (.agg l) | none => none
    | .tuple cs => match optMap (absV n) cs.toList with | some l => some (.tuple l) | none => none
    | _ => none

def absD : Nat := 20

def opd (P : Program) : Operand → Option Opd
  | .tmp t => some (.tmp t)
  | .const v => match absV absD v with | some a => some (.const a) | none => none
  | .global g => if g < P.globals.size then some (.const (.ptr g 0)) else none
  | .func f => some (.const (.func (.func f) [] []))

def opds (P : Program) (l : List Operand) : Option (List Opd) := optMap (opd P) l

def opdO (P : Program) : Option Operand → Option (Option Opd)
  | none => some none
  | some x => match opd P x with | some a => some (some a) | none => none

def isAggD : TypeDesc → Bool
  | .struct _ | .array _ _ => true
  | _ => false

def zeroCells (P : Program) (t : TypeId) : Option (List AV) :=
  match P.info? t with
  | some i => match i.zero with
    | some z => match absV absD z with
      | some a => some a.cells
      | none => none
    | none => none
  | none => none

def zeroA (P : Program) (t : TypeId) : Option AV :=
  match P.info? t with
  | some i => match i.zero with
    | some z => absV absD z
    | none => none
  | none => none

def sizeA (P : Program) (t : TypeId) : Option Nat := match P.info? t with | some i => some i.size | none => none
def bytesA (P : Program) (t : TypeId) : Option Nat := match P.info? t with | some i => some i.bytes | none => none
def aggA (P : Program) (t : TypeId) : Option Bool := match P.underlying t with | some d => some (isAggD d) | none => none

def keyKind (P : Program) (t : TypeId) : Option KeyKind :=
  match P.underlying t with
  | some (.int _) => some .int
  | some .string => some .string
  | _ => none

def compParts (P : Program) (place : Nat → Option (Nat × Nat)) : List (Nat × Operand) → Option (List (Nat × Nat × Opd))
  | [] => some []
  | (i, x) :: l => match place i, opd P x, compParts P place l with
    | some (off, n), some a, some r => some ((off, n, a) :: r)
    | _, _, _ => none

def placeS (P : Program) (fields : Array Field) (i : Nat) : Option (Nat × Nat) :=
  match fields[i]? with
  | some f => match sizeA P f.type with | some n => some (f.offset, n) | none => none
  | none => none

def allSized (P : Program) : List Field → Bool
  | [] => true
  | f :: l => match sizeA P f.type with
    | some _ => allSized P l
    | none => false

def compLen (P : Program) (argTypes : List TypeId) (args : List Opd) : Option AOp :=
  match argTypes, args with
  | t :: _, [x] => match P.underlying t with
    | some .string => some (.lenS x)
    | some (.slice _) => some (.lenL x)
    | some (.map _ _) => some (.lenM x)
    | some (.array n _) => some (.lenA n)
    | some (.pointer a) => match P.underlying a with
      | some (.array n _) => some (.lenA n)
      | _ => none
    | _ => none
  | _, _ => none

/-- what is appended is a slice or a string -/
def srcKind (P : Program) : List TypeId → Bool
  | [t] => match P.underlying t with
    | some (.slice _) => true
    | some .string => true
    | _ => false
  | _ => false

def zeroOk (P : Program) (t : TypeId) : Bool := match P.info? t with
  | some i => match i.zero with
    | some z => Nat.beq z.cells.size i.size
    | none => false
  | none => false

def compAppend (P : Program) (argTypes : List TypeId) (args : List Opd) : Option AOp :=
  match argTypes, args with
  | t :: l, [s, x] => match P.underlying t with
    | some (.slice e) => match sizeA P e, bytesA P e, srcKind P l && zeroOk P e with
      | some es, some by_, true => some (.append e es by_ s x)
      | _, _, _ => none
    | _ => none
  | _, _ => none

def compCopy (P : Program) (argTypes : List TypeId) (args : List Opd) : Option AOp :=
  match argTypes, args with
  | t :: _, [d, s] => match P.underlying t with
    | some (.slice e) => match sizeA P e with
      | some es => some (.copy es d s)
      | none => none
    | _ => none
  | _, _ => none

def compDelete (P : Program) (argTypes : List TypeId) (args : List Opd) : Option AOp :=
  match argTypes, args with
  | t :: _, [m, k] => match P.underlying t with
    | some (.map kt _) => match keyKind P kt with
      | some kk => some (.delete kk m k)
      | none => none
    | _ => none
  | _, _ => none

def compClear (P : Program) (argTypes : List TypeId) (args : List Opd) : Option AOp :=
  match argTypes, args with
  | t :: _, [m] => match P.underlying t with
    | some (.map _ _) => some (.clearM m)
    | _ => none
  | _, _ => none

def compMinMax (b : Bool) (args : List Opd) : Option AOp :=
  match args with
  | x :: xs => some (.minmax b x xs)
  | [] => none

def compBuiltin (P : Program) (b : Builtin) (argTypes : List TypeId) (args : List Opd) : Option AOp :=
  match b with
  | .len => compLen P argTypes args
  | .append => compAppend P argTypes args
  | .copy => compCopy P argTypes args
  | .delete => compDelete P argTypes args
  | .clear => compClear P argTypes args
  | .max => compMinMax true args
  | .min => compMinMax false args
  | _ => none

def compOp? (P : Program) (o : Oper) : Option AOp :=
  match o.op with
  | .move x | .assign x => match opd P x with | some a => some (.mov a) | none => none
  | .pick c a b => match opd P c, opd P a, opd P b with
    | some c, some a, some b => some (.pick c a b)
    | _, _, _ => none
  | .alloc elem => match zeroCells P elem with
    | some z => some (.alloc z elem)
    | none => none
  | .box elem x => match opd P x with | some a => some (.box elem a) | none => none
  | .build t parts => match zeroCells P t, P.underlying t with
    | some z, some (.struct fields) =>
      match compParts P (placeS P fields) parts.toList with
      | some ps => bif allSized P fields.toList then some (.build z ps) else none
      | none => none
    | some z, some (.array _ elem) =>
      match sizeA P elem with
      | some n => match compParts P (fun i => some (i * n, n)) parts.toList with
        | some ps => some (.build z ps)
        | none => none
      | none => none
    | _, _ => none
  | .buildSlice t len parts => match P.underlying t with
    | some (.slice elem) => match sizeA P elem, zeroCells P elem with
      | some n, some z => match compParts P (fun i => some (i * n, n)) parts.toList with
        | some ps => if len * n ≤ 2 ^ 24 then some (.buildSlice elem n len z ps) else none
        | none => none
      | _, _ => none
    | _ => none
  | .load t a => match opd P a, aggA P t, sizeA P t with
    | some a, some g, some n => some (.load g n a)
    | _, _, _ => none
  | .store t a x => match opd P a, opd P x, sizeA P t with
    | some a, some x, some n => some (.store n a x)
    | _, _, _ => none
  | .nilCheck x => match opd P x with | some a => some (.nilCheck a) | none => none
  | .binOp op t x y _ => match opd P x, opd P y with
    | some a, some b => some (.bin op t a b)
    | _, _ => none
  | .unOp op _ x => match opd P x with | some a => some (.un op a) | none => none
  | .convert src dst x => match opd P x, P.underlying src, P.underlying dst with
    | some a, some (.int _), some (.int k) => some (.toInt k a)
    | some a, some .string, some .string => some (.toStr a)
    | some a, some .string, some (.slice e) => match P.underlying e with
      | some (.int .u8) => some (.bytesOf e a)
      | _ => none
    | some a, some (.slice e), some .string => match P.underlying e with
      | some (.int .u8) => some (.strOf a)
      | _ => none
    | _, _, _ => none
  | .sliceToArrayPointer arr x => match opd P x, P.underlying arr with
    | some a, some (.array n _) => some (.s2a n a)
    | _, _ => none
  | .makeInterface t x => match opd P x, P.underlying t with
    | some _, some (.interface _) => none
    | some a, some _ => some (.iface t a)
    | _, _ => none
  | .makeFunc (.yield _) _ _ => none
  | .makeFunc fn first captured => match opds P first.toList, opds P captured.toList with
    | some a, some b => some (.func fn a b)
    | _, _ => none
  | .makeMap _ none => some .makeMap
  | .makeMap _ _ => none
  | .makeSlice t l c => match P.underlying t, opd P l, opd P c with
    | some (.slice elem), some a, some b => match sizeA P elem, bytesA P elem, zeroCells P elem with
      | some n, some by_, some z => some (.makeSlice elem n by_ z a b)
      | _, _, _ => none
    | _, _, _ => none
  | .slice t x lo hi mx => match P.underlying t, opd P x, opdO P lo, opdO P hi, opdO P mx with
    | some .string, some a, some l, some h, some none => some (.sliceS a l h)
    | some (.slice e), some a, some l, some h, some m => match sizeA P e with
      | some n => some (.sliceL n a l h m)
      | none => none
    | some (.array k e), some a, some l, some h, some m => match sizeA P e with
      | some n => some (.sliceA k n a l h m)
      | none => none
    | _, _, _, _, _ => none
  | .fieldAddr s x f => match P.underlying s, opd P x with
    | some (.struct fields), some a => match fields[f]? with
      | some fd => match sizeA P fd.type with
        | some (_ + 1) => some (.fieldAddr fd.offset a)
        | _ => none
      | none => none
    | _, _ => none
  | .field t x f => match P.underlying t, opd P x with
    | some (.struct fields), some a => match fields[f]? with
      | some fd => match sizeA P fd.type, aggA P fd.type with
        | some n, some g => some (.field g fd.offset n a)
        | _, _ => none
      | none => none
    | _, _ => none
  | .indexAddr t x i => match P.underlying t, opd P x, opd P i with
    | some (.array len e), some a, some j => match sizeA P e with
      | some n => some (.indexAddrA len n a j)
      | none => none
    | some (.slice e), some a, some j => match sizeA P e with
      | some n => some (.indexAddrL n a j)
      | none => none
    | _, _, _ => none
  | .index t x i => match P.underlying t, opd P x, opd P i with
    | some (.array len e), some a, some j => match sizeA P e, aggA P e with
      | some n, some g => some (.indexA g len n a j)
      | _, _ => none
    | some .string, some a, some j => some (.indexS a j)
    | _, _, _ => none
  | .lookup t m k ok => match P.underlying t, opd P m, opd P k with
    | some (.map kt e), some a, some b => match keyKind P kt, zeroA P e with
      | some kk, some z => some (.lookup kk z ok a b)
      | _, _ => none
    | _, _, _ => none
  | .mapUpdate t m k v | .insert t m k v => match P.underlying t, opd P m, opd P k, opd P v with
    | some (.map kt _), some a, some b, some c => match keyKind P kt with
      | some kk => some (.mapUpdate kk a b c)
      | none => none
    | _, _, _, _ => none
  | .range t x => match P.underlying t, opd P x with
    | some (.map _ _), some a => some (.range a)
    | some .string, some a => some (.rangeS a)
    | _, _ => none
  | .next it true => match opd P it with | some a => some (.nextS a) | none => none
  | .next it false => match opd P it with | some a => some (.next a) | none => none
  | .entry it => match opd P it with | some a => some (.entry a) | none => none
  | .typeAssert x _ t ok => match opd P x, P.underlying t, zeroA P t with
    | some _, some (.interface _), _ => none
    | some a, some _, some z => some (.assert t ok z a)
    | _, _, _ => none
  | .extract x i => match opd P x with | some a => some (.extract a i) | none => none
  | .call c => match opds P c.args.toList with
    | none => none
    | some args => match c.callee with
      | .builtin b => compBuiltin P b c.argTypes.toList args
      | .value (.func f) => some (.callF f args)
      | .value x => match opd P x with | some a => some (.callV a args) | none => none
      | .invoke x name => match opd P x with | some a => some (.callI a name args) | none => none
  | .defer c => match c.callee, opds P c.args.toList with
    | .value x, some args => match opd P x with | some a => some (.defer a args) | none => none
    | _, _ => none
  | _ => none

def compOp (P : Program) (o : Oper) : AOp := match compOp? P o with | some a => a | none => .bad

/-- which operations surely go ahead: bits -/
def ancOf (es : List Edge) (acc : Nat → Nat) : Nat :=
  match es with
  | [] => 0
  | e :: l => bif Region.binds .any e then (2 ^ e.on ||| acc e.on) ||| ancOf l acc else ancOf l acc

def nth (l : List Nat) (i : Nat) : Nat := match l, i with
  | [], _ => 0
  | a :: _, 0 => a
  | _ :: l, i + 1 => nth l i

/-- a guard: the temporary that it looks at -/
def guardOf (ops : Array Oper) (o : Oper) : Option (Option Nat × Bool) :=
  match o.guard with
  | none => none
  | some (j, want) => some ((ops[j]?).bind (·.dst), want)

def compOps (P : Program) (ops : Array Oper) : List Oper → List Nat → List AOper
  | [], _ => []
  | o :: l, acc =>
    let a := ancOf o.after.toList (nth acc)
    { dst := o.dst, op := compOp P o, guard := guardOf ops o, anc := a } :: compOps P ops l (acc ++ [a])

def comp (P : Program) : Code → ACode
  | .skip => .skip
  | .label _ => .skip
  | .region _ ops false => .region (compOps P ops ops.toList [])
  | .region _ ops true => .dregion (compOps P ops ops.toList [])
  | .seq a b => .seq (comp P a) (comp P b)
  | .cond c a b => match opd P c with
    | some c => .cond c (comp P a) (comp P b)
    | none => .bad
  | .block id c => .block id (comp P c)
  | .loop c => .loop (comp P c)
  | .scope c => .scope (comp P c)
  | .rangeFunc f params assign body => match opd P f with
    | some f => .rangeFunc f params.toList assign body
    | none => .bad
  | .exit id => .exit id
  | .ret => .ret
  | _ => .bad

def compRes (P : Program) : ResultVar → Option ARes
  | .tmp t => some (.tmp t)
  | .cell a t => match aggA P t, sizeA P t with
    | some g, some n => some (.cell a g n)
    | _, _ => none

/-! ### one operation -/
def ev (ts : Tmps) : Opd → AV
  | .tmp t => match ts.get t with | some v => v | none => undefA
  | .const v => v

def evO (ts : Tmps) : Option Opd → Option AV
  | none => none
  | some x => some (ev ts x)

def evL (ts : Tmps) : List Opd → List AV
  | [] => []
  | x :: l => ev ts x :: evL ts l

/-- a value without addresses, as a value -/
def toValF : Nat → AV → Option Value
  | 0, _ => none
  | n + 1, v => match v with
    | .bool b => some (.bool b)
    | .int k i => some (.int k i)
    | .str s => some (.string ⟨s.toArray⟩)
    | .nilptr => some (.pointer none)
    | .nilIface => some .nilIface
    | .nilmap => some (.map none)
    | .nilslice => some (.slice none 0 0)
    | .agg cs => match optMap (toValF n) cs with | some l => some (.agg l.toArray) | none => none
    | _ => none

def pureRun (P : Program) {α : Type} : Sem α → Option α
  | .pure a => some a
  | .program k => pureRun P (k P)
  | _ => none

def scal (P : Program) (s : Sem Value) : Option AV :=
  match pureRun P s with
  | some v => absV absD v
  | none => none

def sameKey : KeyKind → AV → AV → Option Bool
  | .int, .int k a, .int k' b => if k = k' then some (a == b) else none
  | .string, .str a, .str b => some (a == b)
  | _, _, _ => none

def findA (kk : KeyKind) (k : AV) : List (AV × AV × Nat) → Nat → Option (Option (Nat × AV))
  | [], _ => some none
  | (k', v, _) :: l, i => match sameKey kk k k' with
    | some true => some (some (i, v))
    | some false => findA kk k l (i + 1)
    | none => none

def bound (v : AV) (y : Nat) : Option Nat := match v with
  | .int _ i => if 0 ≤ i ∧ i ≤ y then some i.toNat else none
  | _ => none

def boundO (v : Option AV) (y d : Nat) : Option Nat := match v with
  | some v => bound v y
  | none => some d

/-- low, high, max -/
def bounds3 (len cap : Nat) (lo hi mx : Option AV) : Option (Nat × Nat × Nat) :=
  match boundO mx cap cap with
  | none => none
  | some m => match hi, mx with
    | none, some _ => none
    | _, _ => match (match hi with | some h => bound h m | none => some len) with
      | none => none
      | some h => match boundO lo h 0 with
        | none => none
        | some l => some (l, h, m)

def notAny : AV → Bool
  | .sym .any _ _ => false
  | _ => true

def fillA : List AV → List (Nat × Nat × AV) → Option (List AV)
  | cells, [] => some cells
  | cells, (off, n, v) :: l =>
    let cs := v.cells
    bif notAny v then
      if cs.length = n ∧ off + n ≤ cells.length then fillA (cells.take off ++ (cs ++ cells.drop (off + n))) l else none
    else none

def evParts (ts : Tmps) : List (Nat × Nat × Opd) → List (Nat × Nat × AV)
  | [] => []
  | (a, b, x) :: l => (a, b, ev ts x) :: evParts ts l

def takeN {α : Type} : Nat → List α → Option (List α)
  | 0, _ => some []
  | _ + 1, [] => none
  | n + 1, a :: l => match takeN n l with | some r => some (a :: r) | none => none

def dropN {α : Type} : Nat → List α → List α
  | 0, l => l
  | _ + 1, [] => []
  | n + 1, _ :: l => dropN n l

def part (agg : Bool) (off n : Nat) (cs : List AV) : Option AV :=
  match agg with
  | true => match takeN n (dropN off cs) with | some l => some (.agg l) | none => none
  | false => match dropN off cs with | v :: _ => some v | [] => none

def loadA (h : Heap) (agg : Bool) (n : Nat) (a : AV) : Option AV :=
  match a with
  | .ptr b o => match h.get b with
    | some (.cells vs _ _) => part agg o n vs
    | _ => none
  | _ => none

/-- cells into a row -/
def splice (off : Nat) (new old : List AV) : Option (List AV) :=
  if off + new.length ≤ old.length then some (old.take off ++ (new ++ old.drop (off + new.length))) else none

def strBytes (l : List UInt8) : List AV := l.map fun b => .int .u8 b.toNat

def bytesStr : List AV → Option (List UInt8)
  | [] => some []
  | .int .u8 n :: l => match bytesStr l with | some r => some (UInt8.ofNat n.toNat :: r) | none => none
  | _ :: _ => none

def repeatL (n : Nat) (z : List AV) : List AV := match n with
  | 0 => []
  | n + 1 => z ++ repeatL n z

def flatAV : AV → Bool
  | .agg _ | .tuple _ | .sym .any _ _ => false
  | _ => true

def flatL : List AV → Bool
  | [] => true
  | v :: l => flatAV v && flatL l

/-- what is called: a function, or a round of a range over a function -/
inductive Callee where
  | fn (f : FuncId)
  /-- as a deferred call: it defers nothing itself -/
  | dfn (f : FuncId)
  | yield (l : Nat)
  deriving Inhabited

inductive Res where
  | q (v : AV)
  | f (v : AV) (o : AObj) (edit : Option (Nat × Option AObj))
  /-- the empty rest of an open slice: a name without a block; or a block, where the other one does not go on -/
  | g (v : AV) (o : AObj) (edit : Nat × Option AObj)
  | l (v : AV) (h : Heap)
  | c (f : Callee) (args : List AV)
  | d (fn : Fn) (captured args : List AV)
  deriving Inhabited

def qO : Option AV → Option Res
  | some v => some (.q v)
  | none => none

/-- the method of a dynamic type: the function, and whether the receiver is what lies behind the pointer (that many cells; a struct?) -/
def methodA (P : Program) (t : TypeId) (name : String) : Option (FuncId × Option (Bool × Nat)) :=
  match P.info? t with
  | none => none
  | some i => match i.methods.toList.find? (·.name == name) with
    | none => none
    | some m => if m.path.size = 0 then match m.func, P.underlying t with
        | some (f, true), some (.pointer _) => some (f, none)
        | some (_, true), _ => none
        | some (f, false), some (.pointer e) => match aggA P e, sizeA P e with
          | some g, some n => some (f, some (g, n))
          | _, _ => none
        | some (f, false), some _ => some (f, none)
        | _, _ => none
      else none

/-- the program; which functions have a body; what is known of those that have none -/
structure Ctx where
  P : Program
  bodies : Nat
  ext : FuncId → Option (List AV → Option AV)
  /-- what is known of values that are not given -/
  facts : List (AV × AV) := []

def callFn (C : Ctx) (f : FuncId) (args : List AV) : Option Res :=
  bif C.bodies.testBit f then some (.c (.fn f) args)
  else match C.ext f with
    | some g => qO (g args)
    | none => none

def callOf (C : Ctx) (fv : AV) (args : List AV) : Option Res :=
  match fv with
  | .func (.func f) first captured => callFn C f (first ++ (args ++ captured))
  | .func (.yield l) first _ => some (.c (.yield l) (first ++ args))
  | _ => none

/-- which of these: nil against nil or not -/
def nilEq : AV → AV → Option Bool
  | .nilptr, .nilptr | .nilslice, .nilslice | .nilmap, .nilmap | .nilFunc, .nilFunc => some true
  | .nilptr, .ptr .. | .ptr .., .nilptr => some false
  | .nilslice, .slice .. | .slice .., .nilslice => some false
  | .nilmap, .map _ | .map _, .nilmap => some false
  | .nilFunc, .func .. | .func .., .nilFunc => some false
  | .nilIface, .iface .. | .iface .., .nilIface => some false
  | _, _ => none

def nilKind : TypeDesc → AV → Bool
  | .pointer _, .nilptr | .pointer _, .ptr .. => true
  | .slice _, .nilslice | .slice _, .slice .. => true
  | .map _ _, .nilmap | .map _ _, .map _ => true
  | .func _ _ _, .nilFunc | .func _ _ _, .func .. => true
  | .interface _, .nilIface | .interface _, .iface .. => true
  | _, _ => false

def cstOpd (c : Bool) : Operand := bif c then .const .nilIface else .tmp 0

def isC : Opd → Bool
  | .const _ => true
  | _ => false

/-! values that are not given -/
def isSym : AV → Bool
  | .sym _ _ _ => true
  | _ => false

def kndA : AV → Option Knd
  | .int k _ => some (.int k)
  | .bool _ => some .bool
  | .sym k _ _ => some k
  | _ => none

/-- in its kind's range -/
def canonA : AV → Bool
  | .int k n => decide (k.wrap n = n)
  | .sym _ _ _ => true
  | _ => false

def byteL : AV → Option (List AV)
  | .str s => some (strBytes s)
  | .sstr l => some l
  | _ => none

def cmpB (op : BinOp) (eq : Bool) : Option AV := match op with
  | .eql => some (.bool eq)
  | .neq => some (.bool (!eq))
  | _ => none

def symInt (op : BinOp) (k k' : IntKind) (x y : AV) : Option AV :=
  match op with
  | .add | .sub | .mul | .and | .or | .xor | .andNot => if k = k' then some (.sym (.int k) (.bin op) [x, y]) else none
  | .quo => match y with
    | .int _ n => if k = k' ∧ n ≠ 0 then some (.sym (.int k) (.bin op) [x, y]) else none
    | _ => none
  | .rem => match y with
    | .int _ n => if k = k' ∧ n ≠ 0 ∧ canonA x = true then some (.sym (.int k) (.bin op) [x, y]) else none
    | _ => none
  | .shl | .shr => match y with
    | .int _ n => if 0 ≤ n ∧ canonA x = true then some (.sym (.int k) (.bin op) [x, y]) else none
    | _ => if k'.signed = false ∧ canonA x = true then some (.sym (.int k) (.bin op) [x, y]) else none
  | .eql | .neq | .lss | .leq | .gtr | .geq => if k = k' then (match AV.beq x y, cmpB op true with
      | true, some r => some r
      | _, _ => some (.sym .bool (.bin op) [x, y])) else none

def symStr (op : BinOp) (x y : AV) (l m : List AV) : Option AV :=
  match op with
  | .add => bif Nat.ble (l.length + m.length) 4294967296 then some (.sstr (l ++ m)) else none
  | .eql | .neq => bif Nat.beq l.length m.length then (bif beqL l m then cmpB op true else some (.sym .bool (.bin op) [x, y])) else cmpB op false
  | .lss | .leq | .gtr | .geq => some (.sym .bool (.bin op) [x, y])
  | _ => none

def symBool (P : Program) (op : BinOp) (t : TypeId) (x y : AV) : Option AV :=
  match P.underlying t, op with
  | some .bool, .eql => some (.sym .bool (.bin op) [x, y])
  | some .bool, .neq => some (.sym .bool (.bin op) [x, y])
  | _, _ => none

def symBin (P : Program) (op : BinOp) (t : TypeId) (x y : AV) : Option AV :=
  match kndA x, kndA y with
  | some (.int k), some (.int k') => symInt op k k' x y
  | some .bool, some .bool => symBool P op t x y
  | _, _ => match byteL x, byteL y with
    | some l, some m => symStr op x y l m
    | _, _ => none

def symUn (op : UnOp) (x : AV) : Option AV :=
  match op, x with
  | .not, .sym .bool _ _ => some (.sym .bool (.un op) [x])
  | .neg, .sym (.int k) _ _ => some (.sym (.int k) (.un op) [x])
  | .xor, .sym (.int k) _ _ => some (.sym (.int k) (.un op) [x])
  | _, _ => none

/-- a byte of a string -/
def okByte : AV → Bool
  | .int .u8 n => decide (0 ≤ n ∧ n < 256)
  | .sym (.int .u8) _ _ => true
  | _ => false

def okBytes : List AV → Bool
  | [] => true
  | v :: l => okByte v && okBytes l

/-- a string of given bytes, or of others -/
def mkStr (vs : List AV) : Option AV := match bytesStr vs with
  | some s => some (.str s)
  | none => bif okBytes vs then some (.sstr vs) else none

/-- equations that are known -/
def lookF : List (AV × AV) → AV → AV
  | [], v => v
  | (a, b) :: l, v => bif AV.beq a v then b else lookF l v

def norm (fs : List (AV × AV)) : Option Res → Option Res
  | some (.q v) => some (.q (bif isSym v then lookF fs v else v))
  | r => r

/-- comparing with nil, and the rest by the model's own operation on values without addresses -/
def binA (P : Program) (op : BinOp) (t : TypeId) (c : Bool) (x y : AV) : Option AV :=
  match toValF absD x, toValF absD y with
  | some a, some b => scal P (do eqGuard op t (cstOpd c) (cstOpd c) a b; binOp op t a b)
  | _, _ => match symBin P op t x y with
    | some v => some v
    | none => match P.underlying t, nilEq x y, op with
    | some d, some r, .eql => if nilKind d x ∧ nilKind d y then some (.bool r) else none
    | some d, some r, .neq => if nilKind d x ∧ nilKind d y then some (.bool (!r)) else none
    | _, _, _ => none

def unA (P : Program) (op : UnOp) (x : AV) : Option AV :=
  match toValF absD x with
  | some a => scal P (Op.unary op a)
  | none => symUn op x

def minmaxA (isMax : Bool) : AV → List AV → Option AV
  | x, [] => some x
  | .int k x, .int _ y :: l => minmaxA isMax (.int k (if isMax then (if y > x then y else x) else (if y < x then y else x))) l
  | _, _ => none

def maxLenBytes : Nat := 2 ^ 47

/-- how many elements -/
def srcN : AV → Option Nat
  | .nilslice => some 0
  | .slice _ _ n _ _ => some n
  | .str s => some s.length
  | .sstr l => some l.length
  | _ => none

def dstN : AV → Option Nat
  | .nilslice => some 0
  | .slice _ _ n _ _ => some n
  | _ => none

/-- the cells of the first n elements -/
def srcA (h : Heap) (es n : Nat) : AV → Option (List AV)
  | .nilslice => some []
  | .slice b o _ _ _ => match n with
    | 0 => some []
    | k + 1 => match loadA h true ((k + 1) * es) (.ptr b o) with
      | some (.agg vs) => some vs
      | _ => none
  | .str s => takeN n (strBytes s)
  | .sstr l => takeN n l
  | _ => none

def copyA (h : Heap) (d : AV) (new : List AV) (n : Nat) : Option Res :=
  match d with
  | .nilslice => some (.q (.int .i64 n))
  | .slice b o _ _ _ => match h.get b with
    | some (.cells vs el opn) => match splice o new vs with
      | some vs' => bif flatL new then some (.l (.int .i64 n) (h.put b (some (.cells vs' el opn)))) else none
      | none => none
    | _ => none
  | _ => none

/-- the bounds under which a row grows -/
def roomA (n es by_ : Nat) (new : List AV) (m : Nat) : Bool := decide (n * by_ ≤ maxLenBytes) && (decide (n < 2 ^ 40) && (Nat.beq new.length (m * es) && flatL new))

def appendA (h : Heap) (nm : Nat) (elem : TypeId) (es by_ : Nat) (s : AV) (new : List AV) (n : Nat) : Option Res :=
  match s with
  | .nilslice => match n with
    | 0 => some (.q .nilslice)
    | k + 1 => bif roomA (k + 1) es by_ new (k + 1) then some (.f (.slice nm 0 (k + 1) (k + 1) true) (.cells new elem (some es)) none) else none
  | .slice b o len cap op => match h.get b with
    | some (.cells vs el opn) => match Nat.ble (len + n) cap with
      | true => bif Nat.beq new.length (n * es) then
          match splice (o + len * es) new vs with
          | some vs' => bif flatL new then some (.l (.slice b o (len + n) cap op) (h.put b (some (.cells vs' el opn)))) else none
          | none => none
        else none
      | false => match takeN (len * es) (dropN o vs) with
        | none => none
        | some old => bif roomA (len + n) es by_ new n then
            match op with
            | false => some (.f (.slice nm 0 (len + n) (len + n) true) (.cells (old ++ new) elem (some es)) none)
            | true => match opn with
              | some s' => if s' = es ∧ o + cap * es = vs.length ∧ len ≤ cap then
                  some (.f (.slice nm 0 (len + n) (len + n) true) (.cells (old ++ new) elem (some es)) (some (b, none))) else none
              | none => none
          else none
    | _ => none
  | _ => none

def opOf (mx : Option Opd) (op : Bool) : Bool := match mx with | some _ => false | none => op

def op0 (C : Ctx) (o : AOp) (nm : Nat) (ts : Tmps) (h : Heap) : Option Res :=
  match o with
  | .mov x => some (.q (ev ts x))
  | .pick c a b => match ev ts c with
    | .bool b' => some (.q (bif b' then ev ts a else ev ts b))
    | _ => none
  | .build z parts => match fillA z (evParts ts parts) with
    | some l => some (.q (.agg l))
    | none => none
  | .load g n x => qO (loadA h g n (ev ts x))
  | .nilCheck x => match ev ts x with
    | .ptr b o => some (.q (.ptr b o))
    | .iface t v => some (.q (.iface t v))
    | .func (.func f) a b => some (.q (.func (.func f) a b))
    | .map r => some (.q (.map r))
    | .nilmap => some (.q .nilmap)
    | .nilslice => some (.q .nilslice)
    | .slice b o l c p => some (.q (.slice b o l c p))
    | _ => none
  | .bin op t x y => qO (binA C.P op t (isC x || isC y) (ev ts x) (ev ts y))
  | .un op x => qO (unA C.P op (ev ts x))
  | .toInt k x => match ev ts x with
    | .int _ n => some (.q (.int k (k.wrap n)))
    | .sym (.int k0) f args => some (.q (.sym (.int k) .conv [.sym (.int k0) f args]))
    | _ => none
  | .toStr x => match ev ts x with
    | .str s => some (.q (.str s))
    | .sstr l => some (.q (.sstr l))
    | _ => none
  | .strOf x => match ev ts x with
    | .nilslice => some (.q (.str []))
    | .slice b o len _ _ => match loadA h true len (.ptr b o) with
      | some (.agg vs) => qO (mkStr vs)
      | _ => none
    | _ => none
  | .iface t x => some (.q (.iface t (ev ts x)))
  | .func fn a b => some (.q (.func fn (evL ts a) (evL ts b)))
  | .sliceS x lo hi => match ev ts x with
    | .str s => match bounds3 s.length s.length (evO ts lo) (evO ts hi) none with
      | some (l, h', _) => match takeN (h' - l) (dropN l s) with
        | some r => some (.q (.str r))
        | none => none
      | none => none
    | .sstr s => match bounds3 s.length s.length (evO ts lo) (evO ts hi) none with
      | some (l, h', _) => match takeN (h' - l) (dropN l s) with
        | some r => some (.q (.sstr r))
        | none => none
      | none => none
    | _ => none
  | .sliceL es x lo hi mx => match ev ts x with
    | .nilslice => match bounds3 0 0 (evO ts lo) (evO ts hi) (evO ts mx) with
      | some _ => some (.q .nilslice)
      | none => none
    | .slice b o len cap op => match bounds3 len cap (evO ts lo) (evO ts hi) (evO ts mx) with
      | some (l, h', m) =>
        let op' := opOf mx op
        -- where the rest has no room the address stays; of an open one that is not known
        if m = l then
          match op' with
          | false => some (.q (.slice b o (h' - l) (m - l) false))
          | true => match l with
            | 0 => some (.q (.slice b o h' 0 true))
            | _ + 1 => match h.get b with
              | some (.cells vs el (some s')) => if s' = es ∧ o + l * es = vs.length ∧ h' = l then
                  some (.g (.slice nm 0 0 0 true) (.cells [] el (some es)) (b, some (.cells vs el none))) else none
              | _ => none
        else if h' ≤ m then some (.q (.slice b (o + l * es) (h' - l) (m - l) op')) else none
      | none => none
    | _ => none
  | .sliceA n es x lo hi mx => match ev ts x with
    | .ptr b o => match bounds3 n n (evO ts lo) (evO ts hi) (evO ts mx) with
      | some (l, h', m) => some (.q (.slice b (if m = l then o else o + l * es) (h' - l) (m - l) false))
      | none => none
    | _ => none
  | .fieldAddr off x => match ev ts x with
    | .ptr b o => some (.q (.ptr b (o + off)))
    | _ => none
  | .field g off n x => match ev ts x with
    | .agg cs => qO (part g off n cs)
    | _ => none
  | .indexAddrA len es x i => match ev ts x, ev ts i with
    | .ptr b o, .int _ j => if 0 ≤ j ∧ j < len then some (.q (.ptr b (o + j.toNat * es))) else none
    | _, _ => none
  | .indexAddrL es x i => match ev ts x, ev ts i with
    | .slice b o len _ _, .int _ j => if 0 ≤ j ∧ j < len then some (.q (.ptr b (o + j.toNat * es))) else none
    | _, _ => none
  | .indexA g len es x i => match ev ts x, ev ts i with
    | .agg cs, .int _ j => if 0 ≤ j ∧ j < len then qO (part g (j.toNat * es) es cs) else none
    | _, _ => none
  | .indexS x i => match ev ts x, ev ts i with
    | .str s, .int _ j => if 0 ≤ j then match dropN j.toNat s with
        | c :: _ => some (.q (.int .u8 c.toNat))
        | [] => none
      else none
    | .sstr s, .int _ j => if 0 ≤ j then match dropN j.toNat s with
        | c :: _ => some (.q c)
        | [] => none
      else none
    | _, _ => none
  | .lookup kk z ok m k => match ev ts m with
    | .nilmap => match sameKey kk (ev ts k) (ev ts k) with
      | some _ => some (.q (bif ok then .tuple [z, .bool false] else z))
      | none => none
    | .map r => match h.get r with
      | some (.map es _) => match sameKey kk (ev ts k) (ev ts k), findA kk (ev ts k) es 0 with
        | some _, some (some (_, v)) => some (.q (bif ok then .tuple [v, .bool true] else v))
        | some _, some none => some (.q (bif ok then .tuple [z, .bool false] else z))
        | _, _ => none
      | _ => none
    | _ => none
  | .assert t ok z x => match ev ts x with
    | .iface t' v => if t' = t then some (.q (bif ok then .tuple [v, .bool true] else v))
      else (bif ok then some (.q (.tuple [z, .bool false])) else none)
    | .nilIface => bif ok then some (.q (.tuple [z, .bool false])) else none
    | _ => none
  | .extract x i => match ev ts x with
    | .tuple vs => match dropN i vs with | v :: _ => some (.q v) | [] => none
    | _ => none
  | .lenS x => match ev ts x with
    | .str s => some (.q (.int .i64 s.length))
    | .sstr s => some (.q (.int .i64 s.length))
    | _ => none
  | .lenL x => match ev ts x with
    | .nilslice => some (.q (.int .i64 0))
    | .slice _ _ n _ _ => some (.q (.int .i64 n))
    | _ => none
  | .lenM x => match ev ts x with
    | .nilmap => some (.q (.int .i64 0))
    | .map r => match h.get r with
      | some (.map es _) => some (.q (.int .i64 es.length))
      | _ => none
    | _ => none
  | .lenA n => some (.q (.int .i64 n))
  | .minmax b x xs => qO (minmaxA b (ev ts x) (evL ts xs))
  | .s2a n x => match ev ts x with
    | .slice b o len _ _ => if len < n then none else some (.q (.ptr b o))
    | _ => none
  | .alloc z elem => some (.f (.ptr nm 0) (.cells z elem none) none)
  | .box elem x => bif notAny (ev ts x) then some (.f (.ptr nm 0) (.cells (ev ts x).cells elem none) none) else none
  | .buildSlice elem es len z parts => match fillA (repeatL len z) (evParts ts parts) with
    | some l => if z.length = es then some (.f (.slice nm 0 len len false) (.cells l elem none) none) else none
    | none => none
  | .makeMap => some (.f (.map nm) (.map [] 0) none)
  | .makeSlice elem es by_ z l c => match ev ts l, ev ts c with
    | .int _ l, .int _ c => if 0 ≤ l ∧ l ≤ c ∧ c < 2 ^ 40 ∧ by_ * c ≤ 2 ^ 47 ∧ z.length = es then
        some (.f (.slice nm 0 l.toNat c.toNat false) (.cells (repeatL c.toNat z) elem none) none) else none
    | _, _ => none
  | .bytesOf elem x => match ev ts x with
    | .str s => some (.f (.slice nm 0 s.length s.length true) (.cells (strBytes s) elem (some 1)) none)
    | .sstr s => some (.f (.slice nm 0 s.length s.length true) (.cells s elem (some 1)) none)
    | _ => none
  | .range x => match ev ts x with
    | .nilmap => some (.f (.ptr nm 0) (.mapIter none 0 [] 0) none)
    | .map r => match h.get r with
      | some (.map _ clock) => some (.f (.ptr nm 0) (.mapIter (some r) clock [] clock) none)
      | _ => none
    | _ => none
  | .rangeS x => match ev ts x with
    | .str s => some (.f (.ptr nm 0) (.strIter s 0) none)
    | _ => none
  | .append elem es by_ s x => match srcN (ev ts x) with
    | some n => match srcA h es n (ev ts x) with
      | some new => appendA h nm elem es by_ (ev ts s) new n
      | none => none
    | none => none
  | .store n a x => match ev ts a with
    | .ptr b o => match h.get b with
      | some (.cells vs el opn) =>
        let cs := (ev ts x).cells
        if cs.length = n then match splice o cs vs with
          | some vs' => bif !flatL cs then none else some (.l undefA (h.put b (some (.cells vs' el opn))))
          | none => none
        else none
      | _ => none
    | _ => none
  | .mapUpdate kk m k v => match ev ts m with
    | .map r => match h.get r with
      | some (.map es clock) => match sameKey kk (ev ts k) (ev ts k), findA kk (ev ts k) es 0 with
        | some _, some (some (i, _)) => some (.l undefA (h.put r (some (.map (es.modify i fun e => (ev ts k, ev ts v, e.2.2)) clock))))
        | some _, some none => some (.l undefA (h.put r (some (.map (es ++ [(ev ts k, ev ts v, clock)]) (clock + 1)))))
        | _, _ => none
      | _ => none
    | _ => none
  | .delete kk m k => match ev ts m with
    | .map r => match h.get r with
      | some (.map es clock) => match sameKey kk (ev ts k) (ev ts k), findA kk (ev ts k) es 0 with
        | some _, some (some (i, _)) => some (.l undefA (h.put r (some (.map (es.eraseIdx i) clock))))
        | some _, some none => some (.l undefA h)
        | _, _ => none
      | _ => none
    | _ => none
  | .clearM m => match ev ts m with
    | .nilmap => some (.q undefA)
    | .map r => match h.get r with
      | some (.map _ clock) => some (.l undefA (h.put r (some (.map [] clock))))
      | _ => none
    | _ => none
  | .copy es d s => match srcN (ev ts s), dstN (ev ts d) with
    | some ns, some nd => match srcA h es (Nat.min ns nd) (ev ts s) with
      | some new => copyA h (ev ts d) new (Nat.min ns nd)
      | none => none
    | _, _ => none
  | .next it => match ev ts it with
    | .ptr r 0 => match h.get r with
      | some (.mapIter none _ _ _) => some (.q (.tuple [.bool false]))
      | some (.mapIter (some m) since seen last) => match h.get m with
        | some (.map es clock) =>
          if !seen.isEmpty && !es.isEmpty && es.all (fun e => e.2.2 ≥ last) then none else
          let left := es.filter fun e => !seen.contains e.2.2
          match left.filter (fun e => e.2.2 < since), left.filter (fun e => e.2.2 ≥ since) with
          | [], [] => some (.q (.tuple [.bool false]))
          | [e], [] => some (.l (.tuple [.bool true, e.1, e.2.1]) (h.put r (some (.mapIter (some m) since (seen ++ [e.2.2]) clock))))
          | _, _ => none
        | _ => none
      | _ => none
    | _ => none
  | .nextS it => match ev ts it with
    | .ptr r 0 => match h.get r with
      | some (.strIter s pos) => if pos < s.length then
          let (c, width) := Utf8.decode ⟨s.toArray⟩ pos
          some (.l (.tuple [.bool true, .int .i64 pos, .int .i32 c]) (h.put r (some (.strIter s (pos + width)))))
        else some (.q (.tuple [.bool false]))
      | _ => none
    | _ => none
  | .entry it => match ev ts it with
    | .ptr r 0 => match h.get r with
      | some (.mapIter (some m) _ seen stepped) => match seen.getLast?, h.get m with
        | some stamp, some (.map es clock) => if clock = stepped then
            match es.find? (fun e => e.2.2 == stamp) with
            | some e => some (.q (.tuple [e.1, e.2.1]))
            | none => none
          else none
        | _, _ => none
      | _ => none
    | _ => none
  | .callF f args => callFn C f (evL ts args)
  | .callV x args => callOf C (ev ts x) (evL ts args)
  | .callI x name args => match ev ts x with
    | .iface t v => match methodA C.P t name with
      | some (f, none) => callFn C f (v :: evL ts args)
      | some (f, some (g, n)) => match loadA h g n v with
        | some r => callFn C f (r :: evL ts args)
        | none => none
      | none => none
    | _ => none
  | .defer x args => match ev ts x with
    | .func fn first captured => some (.d fn captured (first ++ evL ts args))
    | _ => none
  | .bad => none

def op1 (C : Ctx) (o : AOp) (nm : Nat) (ts : Tmps) (h : Heap) : Option Res := norm C.facts (op0 C o nm ts h)

/-! ### running -/
inductive ADef where
  | call (fn : Fn) (captured args : List AV)
  | mark (r : Nat)
  deriving Inhabited

structure AS where
  /-- how many temporaries there are -/
  nt : Nat
  ts : Tmps
  ds : List ADef
  h : Heap
  nx : Nat
  deriving Inhabited

inductive AExit where
  | normal
  | exit (id : Nat)
  | ret
  deriving Inhabited

abbrev Env := Callee → List AV → Heap → Nat → Option (AV × Heap × Nat)

def putD (ts : Tmps) (dst : Option Nat) (v : AV) : Tmps := match dst with
  | some d => ts.put d (some v)
  | none => ts

def wantedA (ts : Tmps) : Option (Option Nat × Bool) → Bool
  | none => true
  | some (none, _) => false
  | some (some g, want) => match ts.get g with
    | some (.bool b) => b == want
    | _ => false

/-- a guard that is given -/
def guardOk (ts : Tmps) : Option (Option Nat × Bool) → Bool
  | some (some g, _) => match ts.get g with
    | some v => !isSym v
    | none => true
  | _ => true

def edit (h : Heap) : Option (Nat × Option AObj) → Heap
  | none => h
  | some (b, o) => h.put b o

def nxt (nx nm : Nat) : Nat := bif Nat.ble nx nm then nm + 1 else nx

def dstOk (nt : Nat) : Option Nat → Bool
  | some d => Nat.blt d nt
  | none => true

def step1 (C : Ctx) (env : Env) (rd : Bool) (o : AOper) (nm : Nat) (s : AS) : Option AS :=
  match op1 C o.op nm s.ts s.h with
  | some (.q v) => some { s with ts := putD s.ts o.dst v }
  | some (.f v ob ed) => some { s with ts := putD s.ts o.dst v, h := (edit s.h ed).put nm (some ob), nx := nxt s.nx nm }
  | some (.g v ob ed) => some { s with ts := putD s.ts o.dst v, h := (edit s.h (some ed)).put nm (some ob), nx := nxt s.nx nm }
  | some (.l v h) => some { s with ts := putD s.ts o.dst v, h := h }
  | some (.c f args) => match env f args s.h s.nx with
    | some (v, h, nx) => some { s with ts := putD s.ts o.dst v, h := h, nx := nx }
    | none => none
  | some (.d fn captured args) => bif rd then none else some { s with ts := putD s.ts o.dst undefA, ds := .call fn captured args :: s.ds }
  | none => none

def runOps (C : Ctx) (env : Env) (rd : Bool) : List AOper → AS → Option AS
  | [], s => some s
  | o :: l, s =>
    bif dstOk s.nt o.dst && guardOk s.ts o.guard then
      match wantedA s.ts o.guard with
      | true => match step1 C env rd o s.nx s with
        | some s' => runOps C env rd l s'
        | none => none
      | false => runOps C env rd l { s with ts := putD s.ts o.dst undefA }
    else none

/-! regions that draw their order -/
def readsHeap : AOp → Bool
  | .load .. | .strOf _ | .lookup .. | .lenM _ | .entry _ => true
  | _ => false

def pureFresh : AOp → Bool
  | .alloc .. | .box .. | .buildSlice .. | .makeMap | .makeSlice .. | .bytesOf .. => true
  | _ => false

def isLoud : AOp → Bool
  | .store .. | .mapUpdate .. | .delete .. | .clearM _ | .copy .. | .next _ | .callF .. | .callV .. | .callI .. | .defer .. | .append .. | .range _ | .rangeS _ | .nextS _ => true
  | _ => false

def usesO : Opd → List Nat
  | .tmp t => [t]
  | .const _ => []

def usesOO : Option Opd → List Nat
  | some x => usesO x
  | none => []

def usesL : List Opd → List Nat
  | [] => []
  | x :: l => usesO x ++ usesL l

def usesP : List (Nat × Nat × Opd) → List Nat
  | [] => []
  | (_, _, x) :: l => usesO x ++ usesP l

def usesOp : AOp → List Nat
  | .mov x | .load _ _ x | .nilCheck x | .un _ x | .toInt _ x | .toStr x | .strOf x | .iface _ x | .fieldAddr _ x | .field _ _ _ x
  | .assert _ _ _ x | .extract x _ | .lenS x | .lenL x | .lenM x | .s2a _ x | .box _ x | .bytesOf _ x | .range x | .rangeS x | .clearM x | .next x | .nextS x | .entry x => usesO x
  | .pick c a b => usesO c ++ (usesO a ++ usesO b)
  | .build _ ps | .buildSlice _ _ _ _ ps => usesP ps
  | .bin _ _ x y | .indexAddrA _ _ x y | .indexAddrL _ x y | .indexA _ _ _ x y | .indexS x y | .lookup _ _ _ x y | .makeSlice _ _ _ _ x y
  | .append _ _ _ x y | .store _ x y | .delete _ x y | .copy _ x y => usesO x ++ usesO y
  | .func _ a b => usesL a ++ usesL b
  | .sliceS x a b => usesO x ++ (usesOO a ++ usesOO b)
  | .sliceL _ x a b c | .sliceA _ _ x a b c => usesO x ++ (usesOO a ++ (usesOO b ++ usesOO c))
  | .minmax _ x xs => usesO x ++ usesL xs
  | .mapUpdate _ a b c => usesO a ++ (usesO b ++ usesO c)
  | .callF _ args => usesL args
  | .callV x args | .callI x _ args | .defer x args => usesO x ++ usesL args
  | .lenA _ | .alloc .. | .makeMap | .bad => []

def usesG : Option (Option Nat × Bool) → List Nat
  | some (some g, _) => [g]
  | _ => []

def usesA (o : AOper) : List Nat := usesG o.guard ++ usesOp o.op

def memN (n : Nat) : List Nat → Bool
  | [] => false
  | a :: l => Nat.beq a n || memN n l

/-- do two operations meet in a temporary that one of them writes? -/
def meet (x y : AOper) : Bool :=
  (match x.dst with
    | some d => memN d (usesA y) || (match y.dst with | some e => Nat.beq d e | none => false)
    | none => false) ||
  (match y.dst with
    | some e => memN e (usesA x)
    | none => false)

/-- what one operation of a region did -/
inductive Did where
  | s
  | q (v : AV)
  | g (v : AV)
  | f (v : AV) (o : AObj)
  | l (h : Heap) (nx : Nat) (ds : List ADef)
  deriving Inhabited

/-- fresh blocks that no loud operation has needed yet: the operation's number, the name, the block -/
abbrev Pend := List (Nat × Nat × AObj)

structure Rec where
  i : Nat
  nm : Nat
  o : AOper
  /-- the temporaries ahead of it and behind it -/
  ts : Tmps
  ts2 : Tmps
  pd : Pend
  d : Did
  deriving Inhabited

def absorb (anc : Nat) : Pend → Heap → Heap
  | [], h => h
  | (i, nm, ob) :: l, h => bif anc.testBit i then absorb anc l (h.put nm (some ob)) else absorb anc l h

def keepP (anc : Nat) : Pend → Pend
  | [] => []
  | (i, nm, ob) :: l => bif anc.testBit i then keepP anc l else (i, nm, ob) :: keepP anc l

/-- one operation, its number and name given beforehand -/
def isG : Option Res → Bool
  | some (.g ..) => true
  | _ => false

/- gl: is a slice's rest taken apart as a loud operation does it? -/
def dstep (C : Ctx) (env : Env) (rd gl : Bool) (i nm : Nat) (o : AOper) (s : AS) (pd : Pend) : Option (Did × (AS × Pend)) :=
  bif dstOk s.nt o.dst && (guardOk s.ts o.guard && Nat.blt o.anc (2 ^ i)) then
    match wantedA s.ts o.guard with
    | false => some (.s, { s with ts := putD s.ts o.dst undefA }, pd)
    | true => match isLoud o.op || (gl && isG (op1 C o.op nm s.ts (absorb o.anc pd s.h))) with
      | true => match step1 C env rd o nm { s with h := absorb o.anc pd s.h } with
        | some s' => some (.l s'.h s'.nx s'.ds, s', keepP o.anc pd)
        | none => none
      | false => match op1 C o.op nm s.ts (absorb o.anc pd s.h) with
        | some (.q v) => some (.q v, { s with ts := putD s.ts o.dst v }, pd)
        | some (.f v ob none) => bif pureFresh o.op then some (.f v ob, { s with ts := putD s.ts o.dst v }, (i, nm, ob) :: pd) else none
        | some (.g v _ _) => some (.g v, { s with ts := putD s.ts o.dst v }, pd)
        | _ => none
  else none

/-- the operations in the order of the text -/
def drun (C : Ctx) (env : Env) (rd gl : Bool) : Nat → Nat → List AOper → AS → Pend → Option (List Rec × (AS × Pend))
  | _, _, [], s, pd => some ([], s, pd)
  | i, nm, o :: l, s, pd => match dstep C env rd gl i nm o s pd with
    | none => none
    | some (d, s1, pd1) => match drun C env rd gl (i + 1) (nm + 1) l s1 pd1 with
      | some (rs, x) => some ({ i, nm, o, ts := s.ts, ts2 := s1.ts, pd, d } :: rs, x)
      | none => none

/-- does a quiet operation tell the same over a heap behind a loud operation with these ahead of it? -/
def sameAt (C : Ctx) (r : Rec) (gh : Bool) (v : AV) (anc : Nat) (h : Heap) : Bool :=
  match op1 C r.o.op r.nm r.ts (absorb r.o.anc (keepP anc r.pd) h) with
  | some (.q v') => !gh && AV.beq v' v
  | some (.g v' _ _) => gh && AV.beq v' v
  | _ => false

def isL : Did → Bool
  | .l .. => true
  | _ => false

/-- the heaps over which a reading operation may run: h0 behind the loud operations of anc0, or what a further one leaves; pi: behind the number of the last loud one; the heap of the text's order needs no look -/
def chkReads (C : Ctx) (r : Rec) (gh : Bool) (v : AV) : Nat → Nat → Heap → List Rec → Bool
  | pi, anc0, h0, [] => bif Nat.ble pi r.i then true else sameAt C r gh v anc0 h0
  | pi, anc0, h0, l :: ls => match l.d with
    | .l h _ _ =>
      bif r.o.anc.testBit l.i then chkReads C r gh v (l.i + 1) l.o.anc h ls
      else bif l.o.anc.testBit r.i then (bif Nat.ble pi r.i && Nat.blt r.i l.i then true else sameAt C r gh v anc0 h0)
      else (bif Nat.ble pi r.i && Nat.blt r.i l.i then true else sameAt C r gh v anc0 h0) && chkReads C r gh v (l.i + 1) l.o.anc h ls
    | _ => chkReads C r gh v pi anc0 h0 ls

def chkReadsAll (C : Ctx) (h0 : Heap) (all : List Rec) : List Rec → Bool
  | [] => true
  | r :: l => (match r.d with
    | .q v => bif readsHeap r.o.op then chkReads C r false v 0 0 h0 all else true
    | .g v => chkReads C r true v 0 0 h0 all
    | _ => true) && chkReadsAll C h0 all l

def chkChain1 (r : Rec) : List Rec → Bool
  | [] => true
  | x :: l => (bif isL x.d then x.o.anc.testBit r.i else true) && chkChain1 r l

def chkChain : List Rec → Bool
  | [] => true
  | r :: l => (bif isL r.d then chkChain1 r l else true) && chkChain l

def chkMeet1 (y : Rec) : List Rec → Bool
  | [] => true
  | x :: l => (bif meet x.o y.o then x.o.anc.testBit y.i else true) && chkMeet1 y l

def chkMeet : List Rec → Bool
  | [] => true
  | y :: l => chkMeet1 y l && chkMeet l

/-- a fresh block's name is in no loud operation's heap but where it was needed -/
def chkName1 (h : Heap) (anc : Nat) : List Rec → Bool
  | [] => true
  | x :: l => (match x.d with
    | .f _ _ => anc.testBit x.i || (match h.get x.nm with | none => true | some _ => false)
    | _ => true) && chkName1 h anc l

def chkNames (all : List Rec) : List Rec → Bool
  | [] => true
  | r :: l => (match r.d with
    | .l h _ _ => chkName1 h r.o.anc all
    | _ => true) && chkNames all l

def runD1 (C : Ctx) (env : Env) (rd gl : Bool) (ops : List AOper) (s : AS) : Option AS :=
  match drun C env rd gl 0 s.nx ops { s with nx := s.nx + ops.length } [] with
  | none => none
  | some (rs, s', pd) =>
    bif chkMeet rs && (chkChain rs && (chkNames rs rs && chkReadsAll C s.h rs rs)) then
      some { s' with h := absorb (2 ^ ops.length - 1) pd s'.h }
    else none

def runD (C : Ctx) (env : Env) (rd : Bool) (ops : List AOper) (s : AS) : Option AS :=
  match runD1 C env rd true ops s with
  | some s' => some s'
  | none => runD1 C env rd false ops s

def iter (f : AS → Option (AExit × AS)) : Nat → AS → Option (AExit × AS)
  | 0, _ => none
  | n + 1, s => match f s with
    | some (.normal, s') => iter f n s'
    | r => r

def exec (C : Ctx) (env : Env) (rd : Bool) (fuel : Nat) : ACode → AS → Option (AExit × AS)
  | .skip, s => some (.normal, s)
  | .region ops, s => match runOps C env rd ops s with
    | some s' => some (.normal, s')
    | none => none
  | .dregion ops, s => match runD C env rd ops s with
    | some s' => some (.normal, s')
    | none => none
  | .seq a b, s => match exec C env rd fuel a s with
    | some (.normal, s') => exec C env rd fuel b s'
    | r => r
  | .cond c a b, s => match ev s.ts c with
    | .bool true => exec C env rd fuel a s
    | .bool false => exec C env rd fuel b s
    | _ => none
  | .block id c, s => match exec C env rd fuel c s with
    | some (.exit id', s') => bif Nat.beq id' id then some (.normal, s') else some (.exit id', s')
    | r => r
  | .loop c, s => iter (exec C env rd fuel c) fuel s
  | .scope c, s => bif rd then none else exec C env rd fuel c s
  | .rangeFunc f params assign body, s =>
    bif rd then none else
    match ev s.ts f with
    | .func (.func g) first captured =>
      let d := s.nx
      let l := s.nx + 1
      bif !C.bodies.testBit g then none else
      match env (.fn g) (first ++ (.func (.yield l) [] [] :: captured)) ((s.h.put d (some (.deferred false))).put l (some (.loop true none s.nt s.ts params assign body))) (s.nx + 2) with
      | some (_, h, nx) => match h.get l with
        | some (.loop true none _ _ _ _ _) => some (.normal, { s with ds := .mark d :: s.ds, h := h.put l none, nx := nx })
        | some (.loop true (some .ret) _ _ _ _ _) => some (.ret, { s with ds := .mark d :: s.ds, h := h.put l none, nx := nx })
        | some (.loop true (some (.exit id)) _ _ _ _ _) => some (.exit id, { s with ds := .mark d :: s.ds, h := h.put l none, nx := nx })
        | _ => none
      | none => none
    | _ => none
  | .exit id, s => some (.exit id, s)
  | .ret, s => some (.ret, s)
  | .bad, _ => none

def resA (ts : Tmps) (h : Heap) : ARes → Option AV
  | .tmp t => some (ev ts (.tmp t))
  | .cell t g n => loadA h g n (ev ts (.tmp t))

def resL (ts : Tmps) (h : Heap) (l : List ARes) : Option AV :=
  match optMap (resA ts h) l with
  | some [v] => some v
  | some vs => some (.tuple vs)
  | none => none

def argsT : Nat → List AV → Tmps → Tmps
  | _, [], t => t
  | i, a :: l, t => argsT (i + 1) l (t.put i (some a))

/-- deferred calls, the last one first -/
def runDefers (C : Ctx) (env : Env) : List ADef → Heap → Nat → Option (Heap × Nat)
  | [], h, nx => some (h, nx)
  | .call (.func f) captured args :: l, h, nx => bif C.bodies.testBit f then match env (.dfn f) (args ++ captured) h nx with
    | some (_, h', nx') => runDefers C env l h' nx'
    | none => none
    else none
  | .call _ _ _ :: _, _, _ => none
  | .mark r :: l, h, nx => match h.get r with
    | some (.deferred false) => runDefers C env l (h.put r none) nx
    | _ => none

def callBody (C : Ctx) (env : Env) (fuel : Nat) (fn : Func) (deferred : Bool) (args : List AV) (h : Heap) (nx : Nat) : Option (AV × Heap × Nat) :=
  match fn.body with
  | none => none
  | some c => match optMap (compRes C.P) fn.results.toList with
    | none => none
    | some rs => match exec C env false fuel (comp C.P c) { nt := args.length + (fn.ntmps - args.length), ts := argsT 0 args .leaf, ds := [], h, nx } with
      | some (.exit _, _) => none
      | some (_, s) => match deferred, s.ds with
        | true, _ :: _ => none
        | _, _ => match runDefers C env s.ds s.h s.nx with
          | some (h', nx') => match resL s.ts h' rs with
            | some v => some (v, h', nx')
            | none => none
          | none => none
      | none => none

def putParams (nt : Nat) : List Nat → List AV → Tmps → Option Tmps
  | [], [], t => some t
  | p :: ps, a :: l, t => bif Nat.blt p nt then putParams nt ps l (t.put p (some a)) else none
  | _, _, _ => none

/-- a round of a range over a function: its body, with what the function hands over -/
def round (C : Ctx) (env : Env) (fuel : Nat) (l : Nat) (args : List AV) (h : Heap) (nx : Nat) : Option (AV × Heap × Nat) :=
  match h.get l with
  | some (.loop true none nt ts params assign body) => match putParams nt params args ts with
    | none => none
    | some ts' => match exec C env true fuel (comp C.P assign) { nt, ts := ts', ds := [], h, nx } with
      | some (.normal, s1) => match s1.h.get l with
        | some (.loop true none nt2 ts2 params2 assign2 body2) =>
          match exec C env true fuel (comp C.P body) { s1 with h := s1.h.put l (some (.loop false none nt2 ts2 params2 assign2 body2)) } with
          | some (x, s2) => match s2.h.get l with
            | some (.loop false none nt3 ts3 params3 assign3 body3) => match x with
              | .normal => some (.bool true, s2.h.put l (some (.loop true none nt3 ts3 params3 assign3 body3)), s2.nx)
              | .ret => some (.bool false, s2.h.put l (some (.loop true (some .ret) nt3 ts3 params3 assign3 body3)), s2.nx)
              | .exit id => some (.bool false, s2.h.put l (some (.loop true (some (.exit id)) nt3 ts3 params3 assign3 body3)), s2.nx)
            | _ => none
          | none => none
        | _ => none
      | _ => none
  | _ => none

/-- calls, to a depth; sums: what is known of some functions -/
def call (C : Ctx) (sums : FuncId → Option (List AV → Heap → Nat → Option (AV × Heap × Nat))) (fuel : Nat) : Nat → Env
  | 0 => fun _ _ _ _ => none
  | n + 1 => fun f args h nx => match f with
    | .fn f => match sums f with
      | some g => g args h nx
      | none => match C.P.funcs[f]? with
        | some fn => callBody C (call C sums fuel n) fuel fn false args h nx
        | none => none
    | .dfn f => match C.P.funcs[f]? with
      | some fn => callBody C (call C sums fuel n) fuel fn true args h nx
      | none => none
    | .yield l => round C (call C sums fuel n) fuel l args h nx

end Go.Ax

/- The abstract executor: pieces of code. -/
namespace Go.Ax

/-- the first n pieces -/
def pref : Nat → Code → Code
  | 0, _ => .skip
  | n + 1, .seq a b => .seq a (pref n b)
  | _ + 1, c => c

/-- what is behind them -/
def suff : Nat → Code → Code
  | 0, c => c
  | n + 1, .seq _ b => suff n b
  | _ + 1, _ => .skip

def fst1 : Code → Code
  | .seq a _ => a
  | c => c

def snd1 : Code → Code
  | .seq _ b => b
  | c => c

def inner : Code → Code
  | .loop c => c
  | .block _ c => c
  | .scope c => c
  | c => c

/-- a region from its n-th operation on, and what is behind it -/
def runTail (C : Ctx) (env : Env) (fuel n : Nat) (c : Code) (s : AS) : Option (AExit × AS) :=
  match c with
  | .seq (.region _ ops false) rest => match runOps C env false (compOps C.P ops (ops.toList.drop n) []) s with
    | some s1 => exec C env false fuel (comp C.P rest) s1
    | none => none
  | _ => none

/-- the first k pieces -/
def execNd (C : Ctx) (env : Env) (fuel : Nat) : Nat → Code → AS → Option (AExit × AS)
  | 0, _, s => some (.normal, s)
  | k + 1, .seq a b, s => match exec C env false fuel (comp C.P a) s with
    | some (.normal, s') => execNd C env fuel k b s'
    | r => r
  | _ + 1, _, _ => none

/-- temporaries that hold anything, but for those that are listed -/
def tsAny : Nat → Tmps
  | 0 => .leaf
  | n + 1 => (tsAny n).put n (some (.sym .any (.var n) []))

def putAll : List (Nat × AV) → Tmps → Tmps
  | [], t => t
  | (k, v) :: l, t => putAll l (t.put k (some v))

def tsOf (nt : Nat) (l : List (Nat × AV)) : Tmps := putAll l (tsAny nt)

end Go.Ax

/- The abstract executor: what an abstract value and an abstract heap stand for. -/
namespace Go.Ax

/-! ### finite maps -/
@[simp] theorem T.get_leaf {α : Type} (n : Nat) : (T.leaf : T α).get n = none := by simp [T.get]

theorem mod2 (m : Nat) : m % 2 = 0 ∨ m % 2 = 1 := by omega

theorem T.get_node_even {α : Type} (l : T α) (v : Option α) (r : T α) (m : Nat) (h : m % 2 = 0) : (T.node l v r).get (m + 1) = l.get (m / 2) := by
  simp only [T.get]; rw [h]; rfl

theorem T.get_node_odd {α : Type} (l : T α) (v : Option α) (r : T α) (m : Nat) (h : m % 2 = 1) : (T.node l v r).get (m + 1) = r.get (m / 2) := by
  simp only [T.get]; rw [h]; rfl

@[simp] theorem T.get_node_zero {α : Type} (l : T α) (v : Option α) (r : T α) : (T.node l v r).get 0 = v := by simp [T.get]

theorem T.setF_get {α : Type} (x : Option α) : ∀ (f : Nat) (t : T α) (n m : Nat), n < f → (T.setF f t n x).get m = if m = n then x else t.get m := by
  intro f
  induction f with
  | zero => intro t n m h; omega
  | succ f ih =>
    intro t n m h
    cases n with
    | zero =>
      cases t with
      | leaf =>
        simp only [T.setF]
        cases m with
        | zero => simp
        | succ m =>
          rcases mod2 m with e | e
          · rw [T.get_node_even _ _ _ _ e]; simp
          · rw [T.get_node_odd _ _ _ _ e]; simp
      | node l v r =>
        simp only [T.setF]
        cases m with
        | zero => simp
        | succ m =>
          rcases mod2 m with e | e
          · rw [T.get_node_even _ _ _ _ e, T.get_node_even _ _ _ _ e]; simp
          · rw [T.get_node_odd _ _ _ _ e, T.get_node_odd _ _ _ _ e]; simp
    | succ n =>
      have hn : n / 2 < f := by omega
      cases t with
      | leaf =>
        rcases mod2 n with en | en
        · simp only [T.setF]; rw [en]
          cases m with
          | zero => simp
          | succ m =>
            rcases mod2 m with e | e
            · simp only []; rw [T.get_node_even _ _ _ _ e, ih _ _ _ hn]
              by_cases hm : m = n
              · subst hm; simp
              · rw [if_neg (by omega), if_neg (by omega)]; simp
            · simp only []; rw [T.get_node_odd _ _ _ _ e, if_neg (by omega)]; simp
        · simp only [T.setF]; rw [en]
          cases m with
          | zero => simp
          | succ m =>
            rcases mod2 m with e | e
            · simp only []; rw [T.get_node_even _ _ _ _ e, if_neg (by omega)]; simp
            · simp only []; rw [T.get_node_odd _ _ _ _ e, ih _ _ _ hn]
              by_cases hm : m = n
              · subst hm; simp
              · rw [if_neg (by omega), if_neg (by omega)]; simp
      | node l v r =>
        rcases mod2 n with en | en
        · simp only [T.setF]; rw [en]
          cases m with
          | zero => simp
          | succ m =>
            rcases mod2 m with e | e
            · simp only []; rw [T.get_node_even _ _ _ _ e, ih _ _ _ hn, T.get_node_even _ _ _ _ e]
              by_cases hm : m = n
              · subst hm; simp
              · rw [if_neg (by omega), if_neg (by omega)]
            · simp only []; rw [T.get_node_odd _ _ _ _ e, T.get_node_odd _ _ _ _ e, if_neg (by omega)]
        · simp only [T.setF]; rw [en]
          cases m with
          | zero => simp
          | succ m =>
            rcases mod2 m with e | e
            · simp only []; rw [T.get_node_even _ _ _ _ e, T.get_node_even _ _ _ _ e, if_neg (by omega)]
            · simp only []; rw [T.get_node_odd _ _ _ _ e, ih _ _ _ hn, T.get_node_odd _ _ _ _ e]
              by_cases hm : m = n
              · subst hm; simp
              · rw [if_neg (by omega), if_neg (by omega)]

theorem T.get_put {α : Type} (t : T α) (n m : Nat) (x : Option α) : (t.put n x).get m = if m = n then x else t.get m :=
  T.setF_get x (n + 1) t n m (by omega)

@[simp] theorem T.get_put_same {α : Type} (t : T α) (n : Nat) (x : Option α) : (t.put n x).get n = x := by rw [T.get_put]; simp
theorem T.get_put_ne {α : Type} (t : T α) {n m : Nat} (x : Option α) (h : m ≠ n) : (t.put n x).get m = t.get m := by rw [T.get_put, if_neg h]

/-! ### values that are not given -/
def HasKnd : Knd → Value → Prop
  | .int k, v => ∃ n, v = .int k n ∧ k.wrap n = n
  | .bool, v => ∃ b, v = .bool b
  | .str, v => ∃ s, v = .string s
  | .one, v => v.oneCell' = true
  | .any, _ => True

def dfltV : Knd → Value
  | .int k => .int k 0
  | .bool => .bool false
  | .str => .string ⟨#[]⟩
  | .one => .nilIface
  | .any => undef

/-- what they are -/
class Sg where
  var : Nat → Value
  app : Nat → List Value → Value

def binV (op : BinOp) (a b : Value) : Value :=
  match op, a, b with
  | .eql, .bool a, .bool b => .bool (a == b)
  | .neq, .bool a, .bool b => .bool (!(a == b))
  | _, _, _ => match binOp op 0 a b with
    | .pure v => v
    | _ => undef

def unV (op : UnOp) (a : Value) : Value := match Op.unary op a with
  | .pure v => v
  | _ => undef

def Sg.raw [Sg] (k : Knd) : SOp → List Value → Value
  | .var i, _ => Sg.var i
  | .app i, l => Sg.app i l
  | .bin op, [a, b] => binV op a b
  | .un op, [a] => unV op a
  | .conv, [.int _ n] => match k with
    | .int k => .int k (k.wrap n)
    | _ => undef
  | _, _ => undef

open Classical in
noncomputable def Sg.den [Sg] (k : Knd) (f : SOp) (l : List Value) : Value := if HasKnd k (Sg.raw k f l) then Sg.raw k f l else dfltV k

theorem wrap_zero (k : IntKind) : k.wrap 0 = 0 := by cases k <;> rfl

theorem HasKnd.dflt (k : Knd) : HasKnd k (dfltV k) := by
  cases k with
  | int k => exact ⟨0, rfl, wrap_zero k⟩
  | bool => exact ⟨_, rfl⟩
  | str => exact ⟨_, rfl⟩
  | one => rfl
  | any => trivial

theorem Sg.den_knd [Sg] (k : Knd) (f : SOp) (l : List Value) : HasKnd k (Sg.den k f l) := by
  unfold Sg.den
  split
  · assumption
  · exact HasKnd.dflt k

theorem Sg.den_eq [Sg] {k : Knd} {f : SOp} {l : List Value} {v : Value} (h : Sg.raw k f l = v) (hk : HasKnd k v) : Sg.den k f l = v := by
  subst h; unfold Sg.den; rw [if_pos hk]

def bytesV : List Value → Option (List UInt8)
  | [] => some []
  | v :: l => match v, bytesV l with
    | .int .u8 n, some r => if 0 ≤ n ∧ n < 256 then some (UInt8.ofNat n.toNat :: r) else none
    | _, _ => none

/-! ### values -/
section
variable [Sg]

/-- a name's block, the first cell, how many elements more than known an open slice of it has -/
abbrev Inj := Nat → Option (Nat × Nat × Nat)

def concFn (φ : Inj) : Fn → Option Fn
  | .yield l => match φ l with | some (B, _, _) => some (.yield B) | none => none
  | f => some f

mutual
noncomputable def conc (φ : Inj) : AV → Option Value
  | .bool b => some (.bool b)
  | .int k n => some (.int k n)
  | .str s => some (.string ⟨s.toArray⟩)
  | .nilptr => some (.pointer none)
  | .ptr b o => match φ b with | some (B, d, _) => some (.pointer (some ⟨B, d + o, none⟩)) | none => none
  | .nilslice => some (.slice none 0 0)
  | .slice b o len cap op => match φ b with | some (B, d, x) => some (.slice (some ⟨B, d + o, none⟩) len (bif op then cap + x else cap)) | none => none
  | .nilmap => some (.map none)
  | .map r => match φ r with | some (B, _, _) => some (.map (some B)) | none => none
  | .func fn a b => match concFn φ fn, concL φ a, concL φ b with
    | some fn', some a', some b' => some (.func fn' a'.toArray b'.toArray)
    | _, _, _ => none
  | .nilFunc => some .nilFunc
  | .iface t v => match conc φ v with | some v' => some (.iface t v') | none => none
  | .nilIface => some .nilIface
  | .agg cs => match concL φ cs with | some l => some (.agg l.toArray) | none => none
  | .tuple cs => match concL φ cs with | some l => some (.tuple l.toArray) | none => none
  | .sym k f args => match concL φ args with | some l => some (Sg.den k f l) | none => none
  | .sstr cs => match concL φ cs with
    | some l => match bytesV l with | some s => some (.string ⟨s.toArray⟩) | none => none
    | none => none
noncomputable def concL (φ : Inj) : List AV → Option (List Value)
  | [] => some []
  | v :: l => match conc φ v, concL φ l with
    | some v', some l' => some (v' :: l')
    | _, _ => none
end

def Inj.le (φ ψ : Inj) : Prop := ∀ b x, φ b = some x → ψ b = some x

theorem Inj.le_refl (φ : Inj) : φ.le φ := fun _ _ h => h
theorem Inj.le_trans {φ ψ χ : Inj} (h : φ.le ψ) (h' : ψ.le χ) : φ.le χ := fun b x hb => h' b x (h b x hb)

theorem concFn_mono {φ ψ : Inj} (h : φ.le ψ) {f f' : Fn} (hf : concFn φ f = some f') : concFn ψ f = some f' := by
  cases f with
  | yield l =>
    simp only [concFn] at hf ⊢
    cases hl : φ l with
    | none => rw [hl] at hf; simp at hf
    | some x => rw [hl] at hf; rw [h _ _ hl]; exact hf
  | _ => exact hf

mutual
theorem conc_mono {φ ψ : Inj} (h : φ.le ψ) : ∀ (v : AV) (v' : Value), conc φ v = some v' → conc ψ v = some v'
  | .bool _, _, hv => hv
  | .int _ _, _, hv => hv
  | .str _, _, hv => hv
  | .nilptr, _, hv => hv
  | .nilslice, _, hv => hv
  | .nilmap, _, hv => hv
  | .nilFunc, _, hv => hv
  | .nilIface, _, hv => hv
  | .ptr b o, _, hv => by
    simp only [conc] at hv ⊢
    cases hb : φ b with
    | none => rw [hb] at hv; simp at hv
    | some x => rw [hb] at hv; rw [h _ _ hb]; exact hv
  | .slice b o len cap op, _, hv => by
    simp only [conc] at hv ⊢
    cases hb : φ b with
    | none => rw [hb] at hv; simp at hv
    | some x => rw [hb] at hv; rw [h _ _ hb]; exact hv
  | .map r, _, hv => by
    simp only [conc] at hv ⊢
    cases hb : φ r with
    | none => rw [hb] at hv; simp at hv
    | some x => rw [hb] at hv; rw [h _ _ hb]; exact hv
  | .func fn a b, _, hv => by
    simp only [conc] at hv ⊢
    cases hf : concFn φ fn with
    | none => rw [hf] at hv; simp at hv
    | some fn' =>
      cases ha : concL φ a with
      | none => rw [hf, ha] at hv; simp at hv
      | some a' =>
        cases hb : concL φ b with
        | none => rw [hf, ha, hb] at hv; simp at hv
        | some b' => rw [hf, ha, hb] at hv; rw [concFn_mono h hf, concL_mono h a _ ha, concL_mono h b _ hb]; exact hv
  | .iface t v, _, hv => by
    simp only [conc] at hv ⊢
    cases hb : conc φ v with
    | none => rw [hb] at hv; simp at hv
    | some x => rw [hb] at hv; rw [conc_mono h v _ hb]; exact hv
  | .agg cs, _, hv => by
    simp only [conc] at hv ⊢
    cases hb : concL φ cs with
    | none => rw [hb] at hv; simp at hv
    | some x => rw [hb] at hv; rw [concL_mono h cs _ hb]; exact hv
  | .tuple cs, _, hv => by
    simp only [conc] at hv ⊢
    cases hb : concL φ cs with
    | none => rw [hb] at hv; simp at hv
    | some x => rw [hb] at hv; rw [concL_mono h cs _ hb]; exact hv
  | .sym k f cs, _, hv => by
    simp only [conc] at hv ⊢
    cases hb : concL φ cs with
    | none => rw [hb] at hv; simp at hv
    | some x => rw [hb] at hv; rw [concL_mono h cs _ hb]; exact hv
  | .sstr cs, _, hv => by
    simp only [conc] at hv ⊢
    cases hb : concL φ cs with
    | none => rw [hb] at hv; simp at hv
    | some x => rw [hb] at hv; rw [concL_mono h cs _ hb]; exact hv
theorem concL_mono {φ ψ : Inj} (h : φ.le ψ) : ∀ (l : List AV) (l' : List Value), concL φ l = some l' → concL ψ l = some l'
  | [], _, hv => hv
  | v :: l, _, hv => by
    simp only [concL] at hv ⊢
    cases hb : conc φ v with
    | none => rw [hb] at hv; simp at hv
    | some x =>
      cases hl : concL φ l with
      | none => rw [hb, hl] at hv; simp at hv
      | some y => rw [hb, hl] at hv; rw [conc_mono h v _ hb, concL_mono h l _ hl]; exact hv
end

theorem concL_cons {φ : Inj} {v : AV} {l : List AV} {r : List Value} (h : concL φ (v :: l) = some r) :
    ∃ v' l', conc φ v = some v' ∧ concL φ l = some l' ∧ r = v' :: l' := by
  simp only [concL] at h
  cases hv : conc φ v with
  | none => rw [hv] at h; simp at h
  | some v' =>
    cases hl : concL φ l with
    | none => rw [hv, hl] at h; simp at h
    | some l' => rw [hv, hl] at h; exact ⟨v', l', rfl, rfl, by simpa using h.symm⟩

theorem concL_cons_mk {φ : Inj} {v : AV} {l : List AV} {v' : Value} {l' : List Value} (hv : conc φ v = some v') (hl : concL φ l = some l') :
    concL φ (v :: l) = some (v' :: l') := by simp only [concL, hv, hl]

theorem concL_length {φ : Inj} : ∀ {l : List AV} {r : List Value}, concL φ l = some r → r.length = l.length
  | [], r, h => by simp only [concL] at h; cases h; rfl
  | v :: l, r, h => by
    obtain ⟨v', l', _, hl, rfl⟩ := concL_cons h
    simp [concL_length hl]

theorem concL_append {φ : Inj} : ∀ {a b : List AV} {a' b' : List Value}, concL φ a = some a' → concL φ b = some b' → concL φ (a ++ b) = some (a' ++ b')
  | [], b, a', b', ha, hb => by simp only [concL] at ha; cases ha; exact hb
  | v :: a, b, a', b', ha, hb => by
    obtain ⟨v', l', hv, hl, rfl⟩ := concL_cons ha
    exact concL_cons_mk hv (concL_append hl hb)

theorem concL_append_inv {φ : Inj} : ∀ {a b : List AV} {r : List Value}, concL φ (a ++ b) = some r → ∃ a' b', concL φ a = some a' ∧ concL φ b = some b' ∧ r = a' ++ b'
  | [], b, r, h => ⟨[], r, rfl, h, rfl⟩
  | v :: a, b, r, h => by
    obtain ⟨v', l', hv, hl, rfl⟩ := concL_cons h
    obtain ⟨a', b', ha, hb, rfl⟩ := concL_append_inv hl
    exact ⟨v' :: a', b', concL_cons_mk hv ha, hb, rfl⟩

theorem concL_take {φ : Inj} (n : Nat) : ∀ {l : List AV} {r : List Value}, concL φ l = some r → concL φ (l.take n) = some (r.take n) := by
  induction n with
  | zero => intro l r h; simp [concL]
  | succ n ih =>
    intro l r h
    cases l with
    | nil => simp only [concL] at h; cases h; simp [concL]
    | cons v l =>
      obtain ⟨v', l', hv, hl, rfl⟩ := concL_cons h
      exact concL_cons_mk hv (ih hl)

theorem concL_drop {φ : Inj} (n : Nat) : ∀ {l : List AV} {r : List Value}, concL φ l = some r → concL φ (l.drop n) = some (r.drop n) := by
  induction n with
  | zero => intro l r h; simpa using h
  | succ n ih =>
    intro l r h
    cases l with
    | nil => simp only [concL] at h; cases h; simp [concL]
    | cons v l =>
      obtain ⟨v', l', hv, hl, rfl⟩ := concL_cons h
      simpa using ih hl

theorem takeN_eq {α : Type} : ∀ (n : Nat) (l r : List α), takeN n l = some r → r = l.take n ∧ n ≤ l.length
  | 0, l, r, h => by simp only [takeN] at h; cases h; simp
  | n + 1, [], r, h => by simp [takeN] at h
  | n + 1, a :: l, r, h => by
    simp only [takeN] at h
    cases ht : takeN n l with
    | none => rw [ht] at h; simp at h
    | some s =>
      rw [ht] at h; cases h
      obtain ⟨rfl, hl⟩ := takeN_eq n l s ht
      simp; omega

theorem dropN_eq {α : Type} : ∀ (n : Nat) (l : List α), dropN n l = l.drop n
  | 0, l => by simp [dropN]
  | n + 1, [] => by simp [dropN]
  | n + 1, a :: l => by simp [dropN, dropN_eq n l]

/-! ### blocks -/
noncomputable def concE (φ : Inj) : List (AV × AV × Nat) → Option (List MapEntry)
  | [] => some []
  | (k, v, n) :: l => match conc φ k, conc φ v, concE φ l with
    | some k', some v', some l' => some ({ key := k', val := v', born := n } :: l')
    | _, _, _ => none

def concM (φ : Inj) : Option Nat → Option (Option Nat)
  | none => some none
  | some r => match φ r with | some (B, _, _) => some (some B) | none => none

/-- the temporaries -/
def TsRel (φ : Inj) (ts : Tmps) (tmps : Array Value) : Prop :=
  ∀ t, conc φ (ev ts (.tmp t)) = some (tmps.getD t undef)

def jumpCode : AJump → Code
  | .ret => .ret
  | .exit id => .exit id

def objRep (φ : Inj) (d x : Nat) (o : AObj) (c : Obj) : Prop :=
  match o, c with
  | .cells vs _ op, .cells cs _ fr =>
    (∃ l, concL φ vs = some l ∧ ∀ i v, l[i]? = some v → cs[d + i]? = some v) ∧
    (∀ s, op = some s → d + vs.length + x * s ≤ cs.size) ∧ (∀ i, i < cs.size → ¬ (fr.1 ≤ i ∧ i < fr.2))
  | .map es clock, .map ms ck => ck = clock ∧ concE φ es = some ms.toList
  | .mapIter m since seen st, .mapIter m' since' seen' st' => d = 0 ∧ concM φ m = some m' ∧ since' = since ∧ seen'.toList = seen ∧ st' = st
  | .strIter s pos, .stringIter s' pos' => d = 0 ∧ s' = ⟨s.toArray⟩ ∧ pos' = pos
  | .loop ready jump nt ts params assign body, .loop r =>
    (r.state = match ready, jump with | true, none => .ready | true, some _ => .done | false, _ => .busy) ∧ r.pending = jump.map jumpCode ∧
    r.tmps.size = nt ∧ TsRel φ ts r.tmps ∧ r.params.toList = params ∧ r.assign = assign ∧ r.body = body
  | .deferred taken, .deferred calls => taken = false ∧ calls = some []
  | .opq _ _, _ => True
  | _, _ => False

def reach (o : AObj) (x : Nat) : Option Nat :=
  match o with
  | .cells vs _ op => some (vs.length + (match op with | some s => x * s | none => 0))
  | _ => none

def apart (o o' : AObj) (d x d' x' : Nat) : Prop :=
  ∃ n n', reach o x = some n ∧ reach o' x' = some n' ∧ ∀ i, ¬ (d ≤ i ∧ i < d + n ∧ d' ≤ i ∧ i < d' + n')

end

def isOpq : AObj → Bool
  | .opq _ _ => true
  | _ => false

/-- things that are more than one block: what it is for blocks to be one -/
class Opq extends Sg where
  inv : Nat → List AV → Nat → (Nat → Prop) → World → Prop
  loc : ∀ tag data B F w w', inv tag data B F w → (∀ i, F i → w'.heap[i]? = w.heap[i]?) → inv tag data B F w'

/-- the further blocks of a thing, as a number -/
def foot (x : Nat) (i : Nat) : Prop := x.testBit i = true

/-- is block i one of name b's? -/
def Inj.owns (φ : Inj) (o : AObj) (b i : Nat) : Prop := ∃ B d x, φ b = some (B, d, x) ∧ (B = i ∨ (isOpq o = true ∧ foot x i))

/-- the name's block -/
def Inj.blk (φ : Inj) (b : Nat) : Option Nat := (φ b).map (·.1)

/-- what a run may have changed -/
structure Chg (φ : Inj) (h : Heap) (nx : Nat) (w : World) (φ' : Inj) (h' : Heap) (nx' : Nat) (w' : World) : Prop where
  ext : ∀ b, b < nx → φ' b = φ b
  nx : nx ≤ nx'
  os : w'.os = w.os
  out : w'.output = w.output
  size : w.heap.size ≤ w'.heap.size
  frame : ∀ i, i < w.heap.size → (∀ b o, h.get b = some o → ¬ φ.owns o b i) → w'.heap[i]? = w.heap[i]?
  dom : ∀ b o B, h'.get b = some o → φ'.owns o b B → w.heap.size ≤ B ∨ ∃ b0 o0, h.get b0 = some o0 ∧ φ.owns o0 b0 B

theorem Chg.refl (φ : Inj) (h : Heap) (nx : Nat) (w : World) : Chg φ h nx w φ h nx w where
  ext := fun _ _ => rfl
  nx := Nat.le_refl _
  os := rfl
  out := rfl
  size := Nat.le_refl _
  frame := fun _ _ _ => rfl
  dom := fun b o B hb hB => .inr ⟨b, o, hb, hB⟩

theorem Chg.trans {φ φ' φ'' : Inj} {h h' h'' : Heap} {nx nx' nx'' : Nat} {w w' w'' : World}
    (a : Chg φ h nx w φ' h' nx' w') (b : Chg φ' h' nx' w' φ'' h'' nx'' w'') : Chg φ h nx w φ'' h'' nx'' w'' where
  ext := fun n hn => (b.ext n (Nat.lt_of_lt_of_le hn a.nx)).trans (a.ext n hn)
  nx := Nat.le_trans a.nx b.nx
  os := b.os.trans a.os
  out := b.out.trans a.out
  size := Nat.le_trans a.size b.size
  frame := by
    intro i hi hn
    rw [b.frame i (Nat.lt_of_lt_of_le hi a.size) ?_, a.frame i hi hn]
    intro m o hm hB
    rcases a.dom m o i hm hB with hge | ⟨b0, o0, hb0, hB0⟩
    · omega
    · exact hn b0 o0 hb0 hB0
  dom := by
    intro m o B hm hB
    rcases b.dom m o B hm hB with hge | ⟨b0, o0, hb0, hB0⟩
    · exact .inl (Nat.le_trans a.size hge)
    · exact a.dom b0 o0 B hb0 hB0

variable [Opq]

structure Rep (P : Program) (φ : Inj) (h : Heap) (nx : Nat) (w : World) : Prop where
  obj : ∀ b o, h.get b = some o → ∃ B d x c, φ b = some (B, d, x) ∧ w.heap[B]? = some c ∧ objRep φ d x o c
  inj : ∀ b b' o o' B d x d' x', b ≠ b' → h.get b = some o → h.get b' = some o' → φ b = some (B, d, x) → φ b' = some (B, d', x') → apart o o' d x d' x'
  fresh : ∀ b, nx ≤ b → φ b = none
  glob : ∀ g, g < P.globals.size → φ g = some (g, 0, 0)
  opq : ∀ b tag data B d x, h.get b = some (.opq tag data) → φ b = some (B, d, x) → Opq.inv tag data B (foot x) w ∧ ∀ i, foot x i → i < w.heap.size
  sep : ∀ b b' o o' i, b ≠ b' → isOpq o = true → h.get b = some o → h.get b' = some o' → φ.owns o b i → φ.owns o' b' i → False

theorem Rep.le {P : Program} {φ φ' : Inj} {h h' : Heap} {nx nx' : Nat} {w w' : World} (r : Rep P φ h nx w) (c : Chg φ h nx w φ' h' nx' w') : φ.le φ' := by
  intro b x hb
  rcases Nat.lt_or_ge b nx with hlt | hge
  · rw [c.ext b hlt]; exact hb
  · rw [r.fresh b hge] at hb; cases hb

end Go.Ax

/- The abstract executor: what the model's operations do in a world, as equations. -/
namespace Go.Ax
section
variable {P : Program} {w : World}

theorem r_underlying {t : TypeId} {d : TypeDesc} (h : P.underlying t = some d) : (underlying t).run P w = .ok d w := by
  simp [underlying, h]
theorem r_typeInfo {t : TypeId} {i : TypeInfo} (h : P.info? t = some i) : (typeInfo t).run P w = .ok i w := by
  simp [typeInfo, h]
theorem r_sizeOf {t : TypeId} {n : Nat} (h : sizeA P t = some n) : (sizeOf t).run P w = .ok n w := by
  unfold sizeA at h
  cases hi : P.info? t with
  | none => rw [hi] at h; simp at h
  | some i => rw [hi] at h; simp at h; subst h; simp [sizeOf, r_typeInfo hi]
theorem r_isAgg {t : TypeId} {g : Bool} (h : aggA P t = some g) : (isAgg t).run P w = .ok g w := by
  unfold aggA at h
  cases hi : P.underlying t with
  | none => rw [hi] at h; simp at h
  | some d =>
    rw [hi] at h; simp at h; subst h
    simp only [isAgg, Sem.run_bind, r_underlying hi, Result.andThen_ok]
    cases d <;> rfl
theorem r_zeroValue {t : TypeId} {i : TypeInfo} {z : Value} (h : P.info? t = some i) (hz : i.zero = some z) : (zeroValue t).run P w = .ok z w := by
  simp [zeroValue, r_typeInfo h, hz]

theorem addr_add (B o n : Nat) : (⟨B, o, none⟩ : Addr).add n = ⟨B, o + n, none⟩ := by
  unfold Addr.add
  split
  · rename_i h; subst h; rfl
  · rfl

/-- a row's cells -/
theorem cell_of {B o : Nat} {cs : Array Value} {el : TypeId} {fr : Nat × Nat} (h : w.heap[B]? = some (.cells cs el fr)) : w.cell? ⟨B, o, none⟩ = cs[o]? := by
  simp [World.cell?, h]
theorem frozen_of {B o : Nat} {cs : Array Value} {el : TypeId} {fr : Nat × Nat} (h : w.heap[B]? = some (.cells cs el fr)) : w.frozen? ⟨B, o, none⟩ = (decide (fr.1 ≤ o) && decide (o < fr.2)) := by
  simp [World.frozen?, h]

theorem r_loadCells {B o n : Nat} {cs : Array Value} {el : TypeId} {fr : Nat × Nat} {l : List Value} (h : w.heap[B]? = some (.cells cs el fr))
    (hl : ∀ i v, l[i]? = some v → cs[o + i]? = some v) (hn : l.length = n) : (loadCells ⟨B, o, none⟩ n).run P w = .ok l.toArray w := by
  subst hn
  refine run_loadCells_list w _ l fun j v hj => ?_
  rw [addr_add, cell_of h]
  exact hl j v hj

theorem setCell_of {B o : Nat} {cs : Array Value} {el : TypeId} {fr : Nat × Nat} {v : Value} (h : w.heap[B]? = some (.cells cs el fr)) :
    w.setCell ⟨B, o, none⟩ v = { w with heap := w.heap.setIfInBounds B (.cells (cs.setIfInBounds o v) el fr) } := by
  unfold World.setCell
  congr 1
  apply Array.ext'
  simp only [Array.toList_modify, Array.toList_setIfInBounds]
  have hB : B < w.heap.size := (Array.getElem?_eq_some_iff.1 h).1
  apply List.ext_getElem?
  intro i
  rw [List.getElem?_modify, List.getElem?_set]
  by_cases hi : B = i
  · subst hi
    have h' : w.heap[B] = .cells cs el fr := (Array.getElem?_eq_some_iff.1 h).2
    simp [hB, h']
  · simp [hi]

theorem setIfInBounds_twice {α : Type} (a : Array α) (i : Nat) (x y : α) : (a.setIfInBounds i x).setIfInBounds i y = a.setIfInBounds i y := by
  apply Array.ext'
  simp

theorem heap_same (w : World) {B : Nat} {c : Obj} (h : w.heap[B]? = some c) : w.heap.setIfInBounds B c = w.heap := by
  apply Array.ext'
  obtain ⟨hB, hc⟩ := Array.getElem?_eq_some_iff.1 h
  apply List.ext_getElem?
  intro i
  rw [Array.toList_setIfInBounds, List.getElem?_set]
  by_cases hi : B = i
  · subst hi; simp [hB, hc]
  · simp [hi]

theorem r_storeCells (B o : Nat) (el : TypeId) (fr : Nat × Nat) : ∀ (vs : List Value) (i : Nat) (cs : Array Value) (w : World), w.heap[B]? = some (.cells cs el fr) →
    o + i + vs.length ≤ cs.size → (∀ j, j < cs.size → ¬ (fr.1 ≤ j ∧ j < fr.2)) → (∀ v ∈ vs, v.oneCell' = true) →
    ∃ cs' : Array Value, (storeCells ⟨B, o, none⟩ vs i).run P w = .ok () { w with heap := w.heap.setIfInBounds B (.cells cs' el fr) } ∧ cs'.size = cs.size ∧
      ∀ j, cs'[j]? = if o + i ≤ j ∧ j < o + i + vs.length then vs[j - (o + i)]? else cs[j]?
  | [], i, cs, w, h, _, _, _ => by
    refine ⟨cs, ?_, rfl, fun j => ?_⟩
    · simp [storeCells, heap_same w h]
    · rw [if_neg (by simp)]
  | v :: vs, i, cs, w, h, hle, hfr, hone => by
    have hlt : o + i < cs.size := by simp at hle; omega
    have hB : B < w.heap.size := (Array.getElem?_eq_some_iff.1 h).1
    have hc : w.cell? ⟨B, o + i, none⟩ = some cs[o + i] := by rw [cell_of h]; simp [hlt]
    have hf : w.frozen? ⟨B, o + i, none⟩ = false := by
      rw [frozen_of h]
      have := hfr (o + i) hlt
      simpa using this
    have h1 : (w.setCell ⟨B, o + i, none⟩ v).heap[B]? = some (.cells (cs.setIfInBounds (o + i) v) el fr) := by
      rw [setCell_of h]; simp [hB]
    obtain ⟨cs', hrun, hsize, hget⟩ := r_storeCells B o el fr vs (i + 1) (cs.setIfInBounds (o + i) v) (w.setCell ⟨B, o + i, none⟩ v) h1
      (by simp at hle ⊢; omega) (by simpa using hfr) (fun x hx => hone x (List.mem_cons_of_mem _ hx))
    refine ⟨cs', ?_, by simpa using hsize, fun j => ?_⟩
    · simp only [storeCells, Sem.run_bind, addr_add]
      rw [run_store P w _ v .plain (hone v (List.mem_cons_self ..)), hc]
      simp only [hf, Bool.false_eq_true, if_false, Result.andThen_ok]
      rw [hrun, setCell_of h]
      simp
    · rw [hget j]
      simp only [List.length_cons, Array.getElem?_setIfInBounds]
      by_cases h1 : o + i ≤ j ∧ j < o + i + (vs.length + 1)
      · rw [if_pos h1]
        by_cases h2 : o + i = j
        · subst h2
          rw [if_neg (by omega), if_pos rfl, if_pos hlt]; simp
        · rw [if_pos (by omega)]
          obtain ⟨k, hk⟩ : ∃ k, j - (o + i) = k + 1 := ⟨j - (o + i) - 1, by omega⟩
          rw [hk, show j - (o + (i + 1)) = k from by omega]; simp
      · rw [if_neg h1, if_neg (by omega), if_neg (by omega)]

end
end Go.Ax

