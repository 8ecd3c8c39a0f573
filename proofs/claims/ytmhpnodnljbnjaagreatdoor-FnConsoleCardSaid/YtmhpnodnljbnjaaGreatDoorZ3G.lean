/- The law's frame, part 1. -/
import Derived.Test.YtmhpnodnljbnjaaGreatDoorZ3F
import Derived.Test.YtmhpnodnljbnjaaGreatDoorCards
import Derived.Test.YtmhpnodnljbnjaaGreatDoorTie
import Derived.OpenShut
import Derived.LaidMore
import Derived.MakeChecks
open Array renaming mem_of_getElem?->Ei,mem_toList_iff->GX
open Go.OpenSpec renaming ofChange->pX
open Go.Proofs.Tryz renaming checked->Lc,f3->H0,func3->EP,prog->aL,underlying406->Ax,underlying408->Ay,underlying64->pY,underlying9->fN
set_option maxRecDepth 100000
namespace Go.Proofs.YtmhpnodnljbnjaaGreatDoor.fnConsole
open Go Go.Am Go.Proofs
open Go.ChangeShapes Go.WideShapes Go.ChangeAt Go.RowKit
theorem own : ownKnob aL.godebug = none := by kernel_rfl
theorem laidOut : laidOutB aL = true := by kernel_rfl
theorem con : jC aL 3 (VO [.sl (.int .u8)]) :=
  jC.says bME.2 λ⟨x0, _⟩ _ hw => by
    have h := bMF x0 (hw.1)
    exact ⟨h.1, by show [(⟨.bool, aXa x0⟩ : aY)] = _; rw [h.2]⟩
/-- The library's variables as the program's text lays them, and the pinned tables. -/
noncomputable def laidWorld (os : Os) : World := YX (World.doorLaid aL 4000 os) [(3, aIe Rows.laid_unicode_utf8_first)]
end Go.Proofs.YtmhpnodnljbnjaaGreatDoor.fnConsole
