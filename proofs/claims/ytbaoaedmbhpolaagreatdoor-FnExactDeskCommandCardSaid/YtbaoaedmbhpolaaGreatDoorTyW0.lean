/- A part of the witness of this row: closed facts of its world, by the kernel. -/
import Derived.Test.YtbaoaedmbhpolaaGreatDoorTyK0
import Derived.OpenShut
import Derived.LaidMore
import Derived.MakeChecks
import Derived.LaidHandle
set_option maxRecDepth 100000
set_option linter.unusedVariables false
namespace Go.Proofs.YtbaoaedmbhpolaaGreatDoor.fnExactDeskCommand
open Go Go.Proofs
def layCells (w : World) : List (Nat × List Value) → World
  | [] => w
  | (g, cs) :: r => layCells { w with heap := w.heap.modify g fun
      | .cells _ t fz => .cells cs.toArray t fz
      | o => o } r

def numCells : DataW Unit → List Value
  | .agg ps => ps.filterMap fun
    | .lit (.int k z) => some (.int k z)
    | _ => none
  | _ => []

noncomputable def laidWorld (os : Os) : World := layCells (World.doorLaid Tryz.prog 4000 os) [(3, numCells Rows.laid_unicode_utf8_first)]
abbrev wArgs : Array Value := #[.agg #[.slice none 0 0, .int .i64 0, .int .i64 0, .int .i64 0, .int .i64 0, .slice none 0 0, .slice none 0 0, .int .i64 0, .int .i64 0, .int .i64 0, .int .i64 0, .int .i64 0, .int .i64 0, .slice none 0 0, .int .i64 0, .int .i64 0, .int .i64 0, .int .i64 0, .slice none 0 0, .slice none 0 0, .slice none 0 0, .slice none 0 0], .string .empty]
noncomputable abbrev wW (os : Os) (args : Array Value) : World := (laidWorld os).forCall (fun _ _ => 0) ⟨#[], args, []⟩
abbrev wL : List (String × DataW Unit) := Rows.fnExactDeskCommandRow.laid.filter fun x => x.2.handleName?.isNone
end Go.Proofs.YtbaoaedmbhpolaaGreatDoor.fnExactDeskCommand
