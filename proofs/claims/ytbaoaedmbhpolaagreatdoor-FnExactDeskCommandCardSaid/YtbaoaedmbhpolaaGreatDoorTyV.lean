/- A part of the frame of this row: closed facts of the program, by the kernel. -/
import Derived.Test.YtbaoaedmbhpolaaGreatDoorTyVa
import Derived.Test.YtbaoaedmbhpolaaGreatDoorTyVb
import Derived.Test.YtbaoaedmbhpolaaGreatDoorTyVc
import Derived.Test.YtbaoaedmbhpolaaGreatDoorTyVd
import Derived.Test.YtbaoaedmbhpolaaGreatDoorTyVe
import Derived.Test.YtbaoaedmbhpolaaGreatDoorTyVf
import Derived.Test.YtbaoaedmbhpolaaGreatDoorTyVg
import Derived.Test.YtbaoaedmbhpolaaGreatDoorTyVh
import Derived.OpenShut
import Derived.LaidMore
import Derived.MakeChecks
import Derived.Stop.Joined
set_option maxRecDepth 100000
set_option linter.unusedVariables false
namespace Go.Proofs.YtbaoaedmbhpolaaGreatDoor.fnExactDeskCommand
open Go Go.Proofs
theorem closed : joinedFacts Tryz.prog 3 Tryz.f3 Rows.fnExactDeskCommandSpec Rows.fnExactDeskCommandRow = true := by
  unfold joinedFacts
  rw [laidOut, kMap, kIn, kUn, kRec, kNam, kKey, kStop, kEnt]
  kernel_rfl
end Go.Proofs.YtbaoaedmbhpolaaGreatDoor.fnExactDeskCommand
