/- A part of the tie of this row: closed facts of the program, by the kernel. -/
import Derived.Test.YtbaoaedmbhpolaaGreatDoorTyK0
import Derived.LaidByTextLater
import Derived.SevenTiedAt
set_option maxRecDepth 100000
namespace Go.Proofs.YtbaoaedmbhpolaaGreatDoor
open Go
theorem tyH2 (os : Os) (tape : Tape) : (DataW.laidRun Tryz.prog (varsWorld Tryz.prog 400 (varsId Tryz.prog) os tape).memory 8 (tyLaid.map (·.1))).map (fun x => decide x.2.Nodup && laidRowsB Tryz.prog (varsWorld Tryz.prog 400 (varsId Tryz.prog) os tape).memory x.2) = some true := by kernel_rfl
end Go.Proofs.YtbaoaedmbhpolaaGreatDoor
