/- A part of the proof of TopWaits: see the last text of the claim. -/
import Derived.Test.YtflfeegpkckneaaGreatDoorProg
import Derived.KernelRfl
import Derived.Test.YtflfeegpkckneaaGreatDoorAx1
set_option linter.unusedSectionVars false
set_option linter.unusedSimpArgs false
set_option linter.unusedVariables false
/- awake: definitions. -/
namespace Go.Ax.AW
open Go.Proofs
def bodies : Nat := 2630067970221413958524884373509727610463619762102005571076351504287717396805577557801574312666478022469541309029141395358793910518940905291588605226759386831855184967553826982725125200196043603726273612026478588
noncomputable def ctx : Ctx := { P := Tryz.prog, bodies := bodies, ext := fun _ => none, facts := [] }
def passesC : List AV := [.int .i64 1, .int .i64 5, .str [183, 0, 0, 0, 2, 0, 0, 0, 149, 0, 0, 0, 0, 0, 0, 0], .int .i64 0, .str [], .int .i64 0, .int .i64 0, .int .i64 0, .int .u64 0, .int .i64 1, .int .i64 8, .str [0, 0, 0, 0, 0, 0, 0, 0], .int .i64 0, .str [], .int .i64 0, .int .i64 0, .int .i64 0, .int .u64 0, .int .i64 2, .int .i64 0, .str [], .int .i64 0, .str [97, 98], .int .i64 0, .int .i64 0, .int .i64 0, .int .u64 0]
def toldC : List AV := [.int .i64 0, .int .i64 0, .int .u64 0, .str [], .nilslice, .bool false, .int .i64 0, .int .i64 0, .int .u64 0, .str [], .nilslice, .bool false, .int .i64 0, .int .i64 0, .int .u64 2, .str [97, 98], .nilslice, .bool true]
noncomputable def playR (e : Nat) : Option (AV × Heap × Nat) := call ctx (fun _ => none) 100000 300 (.fn 58) [.int .i64 1, .int .i64 e, .slice 15 0 3 3 false] (T.put .leaf 15 (some (.cells passesC 95 none))) 16
noncomputable def playOk (e : Nat) : Bool :=
  match playR e with
  | some (.slice r 0 3 3 false, h', _) => match h'.get r with
    | some (.cells us el none) => beqL us toldC && Nat.beq el 39
    | _ => false
  | _ => false
/-- what Play tells of that script -/
def sumPlay : List AV → Heap → Nat → Option (AV × Heap × Nat) := fun args h nx =>
  match args with
  | [.int .i64 1, .int .i64 e, .slice b 0 3 3 false] => match h.get b with
    | some (.cells vs _ _) => bif beqL vs passesC && (decide (e = 0) || (decide (e = 1) || decide (e = 2))) then
        some (.slice nx 0 3 3 false, T.put .leaf nx (some (.cells toldC 39 none)), nx + 1) else none
    | _ => none
  | _ => none
def sumsP : FuncId → Option (List AV → Heap → Nat → Option (AV × Heap × Nat)) := fun f => bif Nat.beq f 58 then some sumPlay else none
noncomputable def awakeOk : Bool := match call ctx sumsP 1000 100 (.fn 38) [] .leaf 15 with
  | some (.bool true, _, _) => true
  | _ => false
end Go.Ax.AW

