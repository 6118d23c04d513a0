/-
  The type of a group's block: where such a block is made, no walk by contract stands.
-/
import Derived.Calls
set_option linter.unusedVariables false
set_option linter.unusedSimpArgs false
namespace Go.Sim
open Go
def TWG : Nat := 57
def isWg (o : Oper) : Bool := match o.op with
  | .alloc T => Nat.beq T TWG
  | _ => false
/-- Here a group is made. -/
def WgRec (g : Goroutine) : Bool := match g.frame.mode, g.frame.todo with
  | .run, .inRegion ops (i :: _) :: _ => match ops[i]? with
    | some o => isWg o
    | none => false
  | _, _ => false
end Go.Sim
