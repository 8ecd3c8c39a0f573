/- A part of the witness of this row: closed facts of its world, by the kernel. -/
import Derived.Test.YtbaoaedmbhpolaaGreatDoorTyW0
set_option maxRecDepth 100000
set_option linter.unusedVariables false
namespace Go.Proofs.YtbaoaedmbhpolaaGreatDoor.fnExactDeskCommand
open Go Go.Proofs
theorem mRun (os : Os) (args : Array Value) : (DataW.laidRun Tryz.prog (wW os args).memory 8 (wL.map (·.1))).map (·.1) = some wL := by kernel_rfl
end Go.Proofs.YtbaoaedmbhpolaaGreatDoor.fnExactDeskCommand
