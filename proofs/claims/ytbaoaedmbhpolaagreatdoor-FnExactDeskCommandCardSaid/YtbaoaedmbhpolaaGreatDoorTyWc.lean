/- A part of the witness of this row: closed facts of its world, by the kernel. -/
import Derived.Test.YtbaoaedmbhpolaaGreatDoorTyW0
set_option maxRecDepth 100000
set_option linter.unusedVariables false
namespace Go.Proofs.YtbaoaedmbhpolaaGreatDoor.fnExactDeskCommand
open Go Go.Proofs
theorem mCel (os : Os) (args : Array Value) : (DataW.laidRun Tryz.prog (wW os args).memory 8 (wL.map (·.1))).map (fun x => laidRowsB Tryz.prog (wW os args).memory x.2) = some true := by kernel_rfl
end Go.Proofs.YtbaoaedmbhpolaaGreatDoor.fnExactDeskCommand
