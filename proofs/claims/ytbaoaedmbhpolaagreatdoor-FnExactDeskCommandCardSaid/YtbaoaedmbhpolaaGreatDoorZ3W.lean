/- The law's frame, part 7. -/
import Derived.Test.YtbaoaedmbhpolaaGreatDoorZ3V
open Array renaming mem_of_getElem?->IE,mem_toList_iff->K8
open Go.OpenSpec renaming ofChange->sL
open Go.Proofs.Tryz renaming checked->QV,f3->LN,func3->H7,prog->aN,underlying268->rI,underlying486->Cz,underlying488->DA,underlying9->gO
set_option maxRecDepth 100000
namespace Go.Proofs.YtbaoaedmbhpolaaGreatDoor.fnExactDeskCommand
open Go Go.Am Go.Proofs
open Go.ChangeShapes Go.WideShapes Go.ChangeAt Go.RowKit
theorem over:Rows.fnExactDeskCommandRow.holds Tryz.pinned (sL Rows.fnExactDeskCommandSpec) :=
  OpenClaim.holds_of_wide 3 LN rfl rfl rfl rfl rfl rfl rfl ⟨rfl, rfl, rfl, rfl, rfl⟩ rfl rfl rfl rfl rfl kFun H7 closed
    (of_decide_eq_true (by kernel_rfl)) (by unfold Func.isWrapper; first | (rw[π (by decide +kernel)]; kernel_rfl) | (rw[ν (by decide +kernel)]; exact⟨rfl, rfl⟩))
    (λos started H enc _=>lifted os started H enc)
end Go.Proofs.YtbaoaedmbhpolaaGreatDoor.fnExactDeskCommand
