/- The law's frame, part 2. -/
import Derived.Test.YtgfpjekjhnkbfaaGreatDoorZ3P
open Array renaming mem_of_getElem?->Hw,mem_toList_iff->KP
open Go.OpenSpec renaming ofChange->rU
open Go.Proofs.Tryz renaming checked->Pj,f3->Kr,func3->H0,prog->aL,underlying407->Ch,underlying409->Ci,underlying58->rV,underlying9->fZ
set_option maxRecDepth 100000
namespace Go.Proofs.YtgfpjekjhnkbfaaGreatDoor.fnExactRunDesk
open Go Go.Am Go.Proofs
open Go.ChangeShapes Go.WideShapes Go.ChangeAt Go.RowKit
theorem laid_met(os:Os)(args:Array Value):laidMetH aL Rows.fnExactRunDeskRow.laid ((laidWorld os).forCall (λ_ _=>0) ⟨#[], args, []⟩).memory :=
  laidMetH_of_parts3 (fuel:=8) (laidMet_of_run' 8 (by kernel_rfl) (by kernel_rfl)) (by kernel_rfl) (by kernel_rfl)
end Go.Proofs.YtgfpjekjhnkbfaaGreatDoor.fnExactRunDesk
