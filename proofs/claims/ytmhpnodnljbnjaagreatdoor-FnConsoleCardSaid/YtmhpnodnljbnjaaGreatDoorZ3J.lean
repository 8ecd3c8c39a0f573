/- The law's frame, part 4. -/
import Derived.Test.YtmhpnodnljbnjaaGreatDoorZ3I
open Array renaming mem_of_getElem?->Ei,mem_toList_iff->GX
open Go.OpenSpec renaming ofChange->pX
open Go.Proofs.Tryz renaming checked->Lc,f3->H0,func3->EP,prog->aL,underlying406->Ax,underlying408->Ay,underlying64->pY,underlying9->fN
set_option maxRecDepth 100000
namespace Go.Proofs.YtmhpnodnljbnjaaGreatDoor.fnConsole
open Go Go.Am Go.Proofs
open Go.ChangeShapes Go.WideShapes Go.ChangeAt Go.RowKit
theorem lifted (os : Os) (started : os.Started) (H : Type) (enc : TypeId × Value -> H) :
    ReturnsInHanded {} Lc os 3 .any (λw args => (Rows.fnConsoleSpec.pre enc aL H0 Rows.fnConsoleRow.domain false w args /\ laidMetH aL Rows.fnConsoleRow.laid w) /\ sizedMet enc aL H0 (pX Rows.fnConsoleSpec) false w args) (Rows.fnConsoleSpec.post enc aL H0 false true false false) :=
  OD (C := Lc) own started (by kernel_rfl) EP
    (ChangeSpec.witness_shaped (enc := enc) (C := Lc) (os := os) (X := λw _ => laidMetH aL Rows.fnConsoleRow.laid w) false (laidWorld os) #[.slice none 0 0] 8 rfl (World.shaped_of_RefB (by kernel_rfl) (by kernel_rfl)) (by kernel_rfl) (by kernel_rfl) (by kernel_rfl) (laid_met os _))
    laidOut (by kernel_rfl) [.sl (.int .u8)] (by kernel_rfl) (tb := 4) rfl Tryz.underlying4 rfl
    (λds h => by
      match ds, h with
      | [d0], _ => exact ⟨rfl, rfl, rfl⟩)
    (λW hs h => ginv W hs (has1 h) (has2 h) (has5 h)) con
end Go.Proofs.YtmhpnodnljbnjaaGreatDoor.fnConsole
