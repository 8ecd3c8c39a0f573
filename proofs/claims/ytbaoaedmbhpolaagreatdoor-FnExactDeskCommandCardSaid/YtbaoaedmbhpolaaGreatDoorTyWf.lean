/- A part of the witness of this row: closed facts of its world, by the kernel. -/
import Derived.Test.YtbaoaedmbhpolaaGreatDoorTyW0
set_option maxRecDepth 100000
set_option linter.unusedVariables false
namespace Go.Proofs.YtbaoaedmbhpolaaGreatDoor.fnExactDeskCommand
open Go Go.Proofs
theorem wHeap (os : Os) : ((wW os wArgs).heap.toList.drop Tryz.prog.globals.size).take ((begin Tryz.prog (fun _ _ => 0) default).world.heap.size - Tryz.prog.globals.size) = (begin Tryz.prog (fun _ _ => 0) default).world.heap.toList.drop Tryz.prog.globals.size := by kernel_rfl
end Go.Proofs.YtbaoaedmbhpolaaGreatDoor.fnExactDeskCommand
