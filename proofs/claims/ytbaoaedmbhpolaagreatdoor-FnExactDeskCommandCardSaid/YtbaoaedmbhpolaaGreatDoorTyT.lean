/- A part of the tie of this row: closed facts of the program, by the kernel. -/
import Derived.Test.YtbaoaedmbhpolaaGreatDoorTyK0
import Derived.LaidByTextLater
import Derived.SevenTiedAt
import Derived.Test.YtbaoaedmbhpolaaGreatDoorTyKa
import Derived.Test.YtbaoaedmbhpolaaGreatDoorTyKb
import Derived.Test.YtbaoaedmbhpolaaGreatDoorTyKc
import Derived.Test.YtbaoaedmbhpolaaGreatDoorTyKd
import Derived.Test.YtbaoaedmbhpolaaGreatDoorTyKe
import Derived.Test.YtbaoaedmbhpolaaGreatDoorTyKf
import Derived.Test.YtbaoaedmbhpolaaGreatDoorTyKg
import Derived.Test.YtbaoaedmbhpolaaGreatDoorTyKh
import Derived.Test.YtbaoaedmbhpolaaGreatDoorTyKi
import Derived.Test.YtbaoaedmbhpolaaGreatDoorTyKj
import Derived.Test.YtbaoaedmbhpolaaGreatDoorTyKk
import Derived.Test.YtbaoaedmbhpolaaGreatDoorTyKl
import Derived.Test.YtbaoaedmbhpolaaGreatDoorTyKm
set_option maxRecDepth 100000
namespace Go.Proofs.YtbaoaedmbhpolaaGreatDoor
open Go
theorem tyTie : Tryz.prog.laidByTextLater tyLaid tyKinds true :=
  Program.laidByTextLater_by_run 400 8 tyHw tyHw' tyHroot tyHk tyHg tyHn tyHd tyH1 tyH2 tyHp
theorem fnExactDeskCommand_row_tie : Rows.fnExactDeskCommandRow.laidByTextAt .later Tryz.pinned [.pinned, .data, .sentinel, .sentinel, .data, .data, .data] true :=
  OpenClaim.laidByTextAt_pinned rfl rfl tyTie rfl rfl rfl rfl (fun y hy _e => by
    simp only [Rows.fnExactDeskCommandRow, List.zip_cons_cons, List.zip_nil_right, List.mem_cons, List.mem_nil_iff, or_false] at hy
    rcases hy with rfl | rfl | rfl | rfl | rfl | rfl | rfl
    · exact ⟨tyPin, by kernel_rfl⟩
    · cases _e
    · cases _e
    · cases _e
    · cases _e
    · cases _e
    · cases _e) tyFits
end Go.Proofs.YtbaoaedmbhpolaaGreatDoor
