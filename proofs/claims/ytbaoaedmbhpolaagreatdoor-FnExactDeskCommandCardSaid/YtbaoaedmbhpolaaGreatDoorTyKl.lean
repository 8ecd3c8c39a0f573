/- A part of the tie of this row: closed facts of the program, by the kernel. -/
import Derived.Test.YtbaoaedmbhpolaaGreatDoorTyK0
import Derived.LaidByTextLater
import Derived.SevenTiedAt
set_option maxRecDepth 100000
namespace Go.Proofs.YtbaoaedmbhpolaaGreatDoor
open Go
theorem tyNo : Tryz.pinned.checked.prog.headLifts.contains "ownunsafe" = false := by kernel_rfl
end Go.Proofs.YtbaoaedmbhpolaaGreatDoor
