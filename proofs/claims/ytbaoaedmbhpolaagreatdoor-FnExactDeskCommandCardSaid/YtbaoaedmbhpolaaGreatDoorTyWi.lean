/- A part of the witness of this row: closed facts of its world, by the kernel. -/
import Derived.Test.YtbaoaedmbhpolaaGreatDoorTyW0
set_option maxRecDepth 100000
set_option linter.unusedVariables false
namespace Go.Proofs.YtbaoaedmbhpolaaGreatDoor.fnExactDeskCommand
open Go Go.Proofs
theorem wSz (os : Os) (H : Type) (enc : TypeId × Value → H) : Rows.fnExactDeskCommandSpec.sizedB enc Tryz.prog Tryz.f3 false (wW os wArgs).memory wArgs 8 = true := by kernel_rfl
end Go.Proofs.YtbaoaedmbhpolaaGreatDoor.fnExactDeskCommand
