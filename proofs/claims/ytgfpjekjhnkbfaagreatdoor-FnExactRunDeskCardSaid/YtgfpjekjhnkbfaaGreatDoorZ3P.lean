/- The law's frame, part 1. -/
import Derived.Test.YtgfpjekjhnkbfaaGreatDoorZ3G
import Derived.Test.YtgfpjekjhnkbfaaGreatDoorCards
import Derived.Test.YtgfpjekjhnkbfaaGreatDoorTie
import Derived.OpenShut
import Derived.LaidMore
import Derived.MakeChecks
open Array renaming mem_of_getElem?->Hw,mem_toList_iff->KP
open Go.OpenSpec renaming ofChange->rU
open Go.Proofs.Tryz renaming checked->Pj,f3->Kr,func3->H0,prog->aL,underlying407->Ch,underlying409->Ci,underlying58->rV,underlying9->fZ
set_option maxRecDepth 100000
namespace Go.Proofs.YtgfpjekjhnkbfaaGreatDoor.fnExactRunDesk
open Go Go.Am Go.Proofs
open Go.ChangeShapes Go.WideShapes Go.ChangeAt Go.RowKit
theorem own:ownKnob aL.godebug = none:=by kernel_rfl
theorem laidOut:laidOutB aL = true:=by kernel_rfl
theorem con:j9 aL 3 (aBi [.str]) :=
  j9.says kx3.h.2 λ⟨x0, _⟩ _ hw=>by
    have h:=bNr x0 (hw.1)
    exact⟨h.1, by show [(⟨.bool, aV0 x0⟩:aS)] = _; rw[h.2]⟩
/-- The library's variables as the program's text lays them, and the pinned tables. -/
noncomputable def laidWorld(os:Os):World:=aFn (World.doorLaid aL 4000 os) [(1, aON Rows.laid_unicode_utf8_first)]
end Go.Proofs.YtgfpjekjhnkbfaaGreatDoor.fnExactRunDesk
