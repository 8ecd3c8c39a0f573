/- The law's frame, part 1. -/
import Derived.Test.YtbaoaedmbhpolaaGreatDoorZ3F
import Derived.Test.YtbaoaedmbhpolaaGreatDoorCards
import Derived.Test.YtbaoaedmbhpolaaGreatDoorTyT
import Derived.Test.YtbaoaedmbhpolaaGreatDoorTyW
import Derived.Test.YtbaoaedmbhpolaaGreatDoorTyV
import Derived.OpenShut
import Derived.LaidMore
import Derived.MakeChecks
open Array renaming mem_of_getElem?->IE,mem_toList_iff->K8
open Go.OpenSpec renaming ofChange->sL
open Go.Proofs.Tryz renaming checked->QV,f3->LN,func3->H7,prog->aN,underlying268->rI,underlying486->Cz,underlying488->DA,underlying9->gO
set_option maxRecDepth 100000
namespace Go.Proofs.YtbaoaedmbhpolaaGreatDoor.fnExactDeskCommand
open Go Go.Am Go.Proofs
open Go.ChangeShapes Go.WideShapes Go.ChangeAt Go.RowKit
theorem own:ownKnob aN.godebug = none:=by kernel_rfl
theorem con:jZ aN 3 (gg [.cons (.sl eC) YA1, .str]) :=
  jZ.says kx3.h.2 λ⟨x0, x1, _⟩ _ hw=>by
    have h:=bKp x0 x1 (hw.1) (hw.2.1)
    exact⟨h.1, by show [(⟨.bool, aPz x0 x1⟩:aS)] = _; rw[h.2]⟩
end Go.Proofs.YtbaoaedmbhpolaaGreatDoor.fnExactDeskCommand
