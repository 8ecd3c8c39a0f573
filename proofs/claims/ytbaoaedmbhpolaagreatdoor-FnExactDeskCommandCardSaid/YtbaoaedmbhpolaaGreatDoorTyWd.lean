/- A part of the witness of this row: closed facts of its world, by the kernel. -/
import Derived.Test.YtbaoaedmbhpolaaGreatDoorTyW0
set_option maxRecDepth 100000
set_option linter.unusedVariables false
namespace Go.Proofs.YtbaoaedmbhpolaaGreatDoor.fnExactDeskCommand
open Go Go.Proofs
theorem mHan (os : Os) (args : Array Value) : (Rows.fnExactDeskCommandRow.laid.filter fun x => x.2.handleName?.isSome && x.2.funcsIn?.isNone).all (handleAtB Tryz.prog (wW os args).memory) = true := by kernel_rfl
theorem mFun (os : Os) (args : Array Value) : funcsRun Tryz.prog (wW os args).memory 8 ((funcsListed Rows.fnExactDeskCommandRow.laid).map (·.1)) = some ((funcsListed Rows.fnExactDeskCommandRow.laid).map (·.2.funcsOut)) := by kernel_rfl
end Go.Proofs.YtbaoaedmbhpolaaGreatDoor.fnExactDeskCommand
