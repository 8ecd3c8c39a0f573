/- A part of the witness of this row: closed facts of its world, by the kernel. -/
import Derived.Test.YtbaoaedmbhpolaaGreatDoorTyW0
set_option maxRecDepth 100000
set_option linter.unusedVariables false
namespace Go.Proofs.YtbaoaedmbhpolaaGreatDoor.fnExactDeskCommand
open Go Go.Proofs
theorem wPre (os : Os) (H : Type) (enc : TypeId × Value → H) : Rows.fnExactDeskCommandSpec.preB enc Tryz.prog Tryz.f3 Rows.fnExactDeskCommandRow.domain false (wW os wArgs).memory wArgs 8 = true := by kernel_rfl
end Go.Proofs.YtbaoaedmbhpolaaGreatDoor.fnExactDeskCommand
